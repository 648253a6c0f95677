/- scrub.Note: a ledger with extents added, or taken out. -/
import Derived.Test.YtoilokfpfmicaaaDoorSpotCpt
import Derived.Test.YtoilokfpfmicaaaDoorSpotSort
set_option linter.unusedVariables false
set_option linter.unusedSimpArgs false
namespace Go.Proofs.YtoilokfpfmicaaaDoor
open Go.RowKit Go.ChangeMaps
set_option maxHeartbeats 400000

/-- A row of extents, written over at will: nothing older than base. -/
def Rz (w : World) (base : Nat) (v : Value) (xs : List (ByteArray × Int)) : Prop := (v = .slice none 0 0 ∧ xs = []) ∨
    ∃ g cap rest, v = .slice (some ⟨g, 0, none⟩) xs.length cap ∧ base ≤ g ∧ w.heap[g]? = some (.cells (xs.flatMap encS ++ rest).toArray 25 (0, 0)) ∧ xs.length ≤ cap ∧ cap ≤ maxLen
theorem Rz.of_owns {w : World} {base : Nat} {v : Value} {xs : List (ByteArray × Int)} (h : w.ownsRow base 25 2 v xs.length (xs.flatMap encS)) : Rz w base v xs := by
  rcases h.2 with ⟨rfl, hn⟩ | ⟨g, cap, cur, rfl, hb, hh, hn, hc, hs, ht⟩
  · exact .inl ⟨rfl, List.eq_nil_of_length_eq_zero hn⟩
  · have e : xs.flatMap encS ++ cur.toList.drop (xs.length * 2) = cur.toList := by rw [← ht, List.take_append_drop]
    refine .inr ⟨g, cap, cur.toList.drop (xs.length * 2), rfl, hb, ?_, hn, hc⟩
    rw [e]; simpa using hh
theorem Rz.sl {w : World} {base : Nat} {v : Value} {xs : List (ByteArray × Int)} (h : Rz w base v xs) : Sl encS w v xs := by
  rcases h with ⟨rfl, rfl⟩ | ⟨g, cap, rest, rfl, hb, hh, hn, hc⟩
  · exact Sl.nil _ _
  · exact Sl.of_block xs hh ⟨rest, by simp⟩ rfl hn hc
theorem Rz.below {w w' : World} {base : Nat} {v : Value} {xs : List (ByteArray × Int)} (h : Rz w base v xs) (hb : Below w.heap.size w w') : Rz w' base v xs := by
  rcases h with h | ⟨g, cap, rest, rfl, hb1, hh, hn, hc⟩
  · exact .inl h
  · exact .inr ⟨g, cap, rest, rfl, hb1, below_heap hb hh, hn, hc⟩
theorem Rz.lower {w : World} {base base' : Nat} {v : Value} {xs : List (ByteArray × Int)} (h : Rz w base v xs) (hb : base' ≤ base) : Rz w base' v xs := by
  rcases h with h | ⟨g, cap, rest, rfl, hb1, hh, hn, hc⟩
  · exact .inl h
  · exact .inr ⟨g, cap, rest, rfl, Nat.le_trans hb hb1, hh, hn, hc⟩

theorem sortRz (xs : List (ByteArray × Int)) (v : Value) (base : Nat) (w : World) (h : Rz w base v xs) (hb : base ≤ w.heap.size) (hsz : xs.length < 4611686018427387904) :
    Calls Tryd.prog 18 #[v, .func (.func 19) #[] #[]] w fun e w' => e = .returned (.tuple #[]) ∧ Rz w' base v (sortS xs) ∧ Below base w w' := by
  rcases h with ⟨rfl, rfl⟩ | ⟨g, cap, rest, rfl, hb1, hh, hn, hc⟩
  · refine (sortNote_none none 0 w).mono ?_
    rintro e w' ⟨rfl, rfl⟩
    exact ⟨rfl, .inl ⟨rfl, List.eq_nil_of_length_eq_zero (sortS_len [])⟩, Below.refl _ _⟩
  · refine (sortNote xs rest g cap w hh hsz).mono ?_
    rintro e w' ⟨rfl, h1, h2⟩
    exact ⟨rfl, .inr ⟨g, cap, rest, by rw [sortS_len], hb1, h2, by rw [sortS_len]; exact hn, hc⟩, below_chg h1 hb1 hb⟩
theorem idx_none (fv : Value) (w : World) : Calls Tryd.prog 46 #[.slice none 0 0, fv] w fun e w' => e = .returned (.int .i64 (-1)) ∧ w = w' := by
  go_enter Tryd.func46, Tryd.ntmps46
  go_wp2
  refine wp_loop_rounds 1 ?_
  rw [rounds_succ]
  go_wp2
  go_ret
  exact ⟨rfl, rfl⟩
theorem del_none (fv : Value) (w : World) : Calls Tryd.prog 16 #[.slice none 0 0, fv] w fun e w' => e = .returned (.slice none 0 0) ∧ w = w' := by
  go_enter Tryd.func16, Tryd.ntmps16
  go_wp2_with (go_at_call 46; refine (idx_none _ _).mono ?_; rintro e w' ⟨rfl, rfl⟩)
  go_ret
  exact ⟨rfl, rfl⟩
theorem delRz (xs ls : List (ByteArray × Int)) (v : Value) (base lb : Nat) (lv : Value) (w : World) (h : Rz w base v xs) (hb : base ≤ w.heap.size)
    (hst : ∀ W, Below base w W → W.cell? ⟨lb, 0, none⟩ = some lv ∧ Sl encS W lv ls) :
    Calls Tryd.prog 16 #[v, .func (.func 17) #[] #[.pointer (some ⟨lb, 0, none⟩)]] w fun e w' => ∃ v', e = .returned v' ∧ Rz w' base v' (xs.filter fun x => !inL ls x) ∧ Below base w w' := by
  rcases h with ⟨rfl, rfl⟩ | ⟨g, cap, rest, rfl, hb1, hh, hn, hc⟩
  · refine (del_none _ w).mono ?_
    rintro e w' ⟨rfl, rfl⟩
    exact ⟨_, rfl, .inl ⟨rfl, rfl⟩, Below.refl _ _⟩
  · refine (delNote xs ls rest g cap lb lv w hh hn hc (fun W hW => hst W (below_chg hW hb1 hb))).mono ?_
    rintro e w' ⟨rfl, h1, rest', h2⟩
    exact ⟨_, rfl, .inr ⟨g, cap, rest', rfl, hb1, h2, Nat.le_trans (List.length_filter_le _ _) hn, hc⟩, below_chg h1 hb1 hb⟩
theorem cpt_none (w : World) : Calls Tryd.prog 23 #[.slice none 0 0] w fun e w' => e = .returned (.slice none 0 0) ∧ w = w' := by
  go_enter Tryd.func23, Tryd.ntmps23
  go_wp2
  go_ret
  exact ⟨rfl, rfl⟩

/-- What is there ahead of the sort: the ledger with the extents, or without them. -/
def noteM (xs ls : List (ByteArray × Int)) (b : Bool) : List (ByteArray × Int) := if b then xs ++ ls else xs.filter fun x => !inL ls x
def noteL (xs ls : List (ByteArray × Int)) (b : Bool) : List (ByteArray × Int) := upC (sortS (noteM xs ls b)) (noteM xs ls b).length
theorem owns_lower {w : World} {base base' : Nat} {v : Value} {n : Nat} {xs : List Value} (h : w.ownsRow base 25 2 v n xs) (hb : base' ≤ base) : w.ownsRow base' 25 2 v n xs := by
  refine ⟨h.1, ?_⟩
  rcases h.2 with h2 | ⟨g, cap, cur, h3, h4, h5⟩
  · exact .inl h2
  · exact .inr ⟨g, cap, cur, h3, Nat.le_trans hb h4, h5⟩
/-- Sorted, each once, cut, cloned: what the last lines do. -/
theorem tail_some (m : List (ByteArray × Int)) (g cap : Nat) (rest : List Value) (w : World) (hh : w.heap[g]? = some (.cells (m.flatMap encS ++ rest).toArray 25 (0, 0))) (hn : m.length ≤ cap) (hc : cap ≤ maxLen) (hsz : m.length * 24 ≤ 140737488355328) :
    Calls Tryd.prog 18 #[.slice (some ⟨g, 0, none⟩) m.length cap, .func (.func 19) #[] #[]] w fun e w3 => e = .returned (.tuple #[]) ∧ Chg (· = g) w w3 ∧
      Calls Tryd.prog 23 #[.slice (some ⟨g, 0, none⟩) m.length cap] w3 fun e w4 => e = .returned (.slice (some ⟨g, 0, none⟩) (upC (sortS m) m.length).length cap) ∧ Chg (· = g) w3 w4 ∧
        Calls Tryd.prog 9 #[.slice (some ⟨g, 0, none⟩) (upC (sortS m) m.length).length (upC (sortS m) m.length).length] w4 (Makes encS 25 2 w4 (upC (sortS m) m.length)) := by
  refine (sortNote m rest g cap w hh (by omega)).mono ?_
  rintro e w3 ⟨rfl, h1, h2⟩
  refine ⟨rfl, h1, ?_⟩
  have hl := sortS_len m
  have := compactS (sortS m) rest g cap w3 h2 (by rw [hl]; exact hn) hc
  rw [hl] at this
  refine this.mono ?_
  rintro e w4 ⟨rfl, h3, rest', h4⟩
  have hle := upC_len (sortS m) m.length
  exact ⟨rfl, h3, cloneS _ _ _ (Sl.of_block _ h4 ⟨rest', by simp⟩ rfl (Nat.le_refl _) (by omega)) (by omega)⟩
theorem two_rows {W : World} {v u : Value} {xs ls : List (ByteArray × Int)} (h : Sl encS W v xs) (k : Sl encS W u ls) : ∀ (j : Nat) a ys, [v, u][j]? = some a → [xs, ls][j]? = some ys → Sl encS W a ys
  | 0, a, ys, h1, h2 => by cases h1; cases h2; exact h
  | 1, a, ys, h1, h2 => by cases h1; cases h2; exact k
  | j + 2, a, ys, h1, _ => by simp at h1
theorem concTwo (xs ls : List (ByteArray × Int)) (v u : Value) (w1 : World) (h : Sl encS w1 v xs) (k : Sl encS w1 u ls) (hsz : (xs ++ ls).length * 24 ≤ 140737488355328) :
    Calls Tryd.prog 15 #[.slice (some ⟨w1.heap.size, 0, none⟩) 2 2] (w1.alloc (.cells #[v, u] 22)) (Makes encS 25 2 (w1.alloc (.cells #[v, u] 22)) (xs ++ ls)) := by
  have hb := below_alloc (Below.refl w1.heap.size w1) (.cells #[v, u] 22)
  have := concatS [v, u] [xs, ls] _ (w1.alloc (.cells #[v, u] 22)) (sl_lit w1 22 [v, u] #[v, u] rfl (by simp [maxLen])) rfl (two_rows (h.below hb) (k.below hb)) (by simpa using hsz) (by simp at hsz ⊢; omega)
  simpa using this
theorem note (xs ls : List (ByteArray × Int)) (v u : Value) (b : Bool) (w : World) (h : Sl encS w v xs) (k : Sl encS w u ls) (hsz : (xs.length + ls.length) * 24 ≤ 140737488355328) :
    Calls Tryd.prog 6 #[v, u, .bool b] w (Makes encS 25 2 w (noteL xs ls b)) := by
  obtain ⟨A, cap, rfl, h1, h2⟩ := h.form
  obtain ⟨A', cap', rfl, h1', h2'⟩ := k.form
  unfold maxLen at h2 h2'
  have hb0 := Below.refl w.heap.size w
  have hb1 := below_alloc hb0 (.cells #[.slice A' ls.length cap'] 22)
  have hc := cloneS xs _ _ (h.below hb1) (by omega)
  have hbx := cell_box w #[.slice A' ls.length cap'] 22 (0, 0) 0
  have H := hid h
  have K := hid k
  have hml : (noteM xs ls b).length ≤ xs.length + ls.length := by
    unfold noteM
    cases b
    · have := List.length_filter_le (fun x => !inL ls x) xs
      simp; omega
    · simp
  have hms : (noteM xs ls b).length * 24 ≤ 140737488355328 := by omega
  replace hb1 := hid hb1
  replace hsz := hid hsz
  replace hms := hid hms
  clear h k hb0 hml
  unfold noteL
  cases b with
  | true =>
    have hM : noteM xs ls true = xs ++ ls := rfl
    rw [hM] at hms ⊢
    have hC := hid (fun w1 hw1 => concTwo xs ls (.slice A xs.length cap) (.slice A' ls.length cap') w1 (H.out.below hw1) (K.out.below hw1) hms.out)
    generalize xs ++ ls = m at *
    go_enter Tryd.func6, Tryd.ntmps6
    go_wp2_with (first | (go_at_call 9; refine hc.mono ?_; rintro e w1 ⟨v7, rfl, hown, hbl⟩; have hq := below_cell hbl hbx; replace hbl := hid (below_seq hb1.out hbl); clear hown hbx hc) | (go_at_call 15; refine (hC.out _ hbl.out).mono ?_; rintro e w2 ⟨v8, rfl, hown2, hbl2⟩; have hrz := hid (Rz.of_owns (owns_lower hown2 (below_alloc hbl.out _).size)); have hbel := hid (below_seq (below_alloc hbl.out _) hbl2); clear hown2 hbl2 hq))
    rcases hrz.out with ⟨rfl, hm0⟩ | ⟨g, capg, restg, rfl, hbg, hhg, hng, hcg⟩
    · have hz : Hid (upC (sortS m) m.length = []) := by subst hm0; rfl
      have hhid := hid hm0
      clear hm0 hrz
      go_wp2_with (first | (go_at_call 18; refine (sortNote_none none 0 _).mono ?_; rintro e w3 ⟨rfl, rfl⟩) | (go_at_call 23; refine (cpt_none _).mono ?_; rintro e w3 ⟨rfl, rfl⟩) | (go_at_call 9; refine (cloneS [] _ _ (Sl.nil _ _) (by simp)).mono ?_; rintro e w3 ⟨v3, rfl, hown, hb3⟩; replace hown := hid hown; replace hb3 := hid hb3))
      go_ret
      rw [hz.out]
      exact ⟨_, rfl, owns_lower hown.out hbel.out.size, below_seq hbel.out hb3.out⟩
    · have hS := tail_some m g capg restg w2 hhg hng hcg hms.out
      have hl := hid (upC_len (sortS m) m.length)
      have hng := hid hng
      unfold maxLen at hcg
      have hnc : (upC (sortS m) m.length).length ≤ capg := Nat.le_trans hl.out hng.out
      generalize hCe : upC (sortS m) m.length = C at *
      replace hCe := hid hCe
      have hncz : (C.length : Int) ≤ (capg : Int) := by omega
      clear hrz hhg
      go_wp2_with (first | (go_at_call 18; refine hS.mono ?_; rintro e w3 ⟨rfl, hg3, hP⟩; have hg3 := hid hg3; clear hS) | (go_at_call 23; refine hP.mono ?_; rintro e w4 ⟨rfl, hg4, hL⟩; have hg4 := hid hg4; clear hP) | (go_at_call 9; refine hL.mono ?_; rintro e w5 ⟨v3, rfl, hown, hb3⟩; replace hown := hid hown; replace hb3 := hid hb3; clear hL))
      go_ret
      have hbw4 := below_trans (below_trans hbel.out (below_chg hg3.out hbg hbel.out.size)) (below_chg hg4.out hbg (Nat.le_trans hbel.out.size hg3.out.size))
      rw [hCe.out]
      exact ⟨_, rfl, owns_lower hown.out hbw4.size, below_seq hbw4 hb3.out⟩
  | false =>
    have hM : noteM xs ls false = xs.filter fun x => !inL ls x := rfl
    rw [hM] at hms ⊢
    have hst : ∀ w1, Below w.heap.size w w1 → w1.cell? ⟨w.heap.size, 0, none⟩ = some (.slice A' ls.length cap') → ∀ W, Below (w.heap.size + 1) w1 W → W.cell? ⟨w.heap.size, 0, none⟩ = some (.slice A' ls.length cap') ∧ Sl encS W (.slice A' ls.length cap') ls :=
      fun w1 h1 hq W hW => ⟨(hW.cell (p := ⟨w.heap.size, 0, none⟩) (Nat.lt_succ_self _)).trans hq, K.out.below (below_trans h1 (hW.mono (Nat.le_succ _)))⟩
    generalize hm' : (xs.filter fun x => !inL ls x) = m at *
    replace hst := hid hst
    replace hm' := hid hm'
    go_enter Tryd.func6, Tryd.ntmps6
    go_wp2_with (first | (go_at_call 9; refine hc.mono ?_; rintro e w1 ⟨v7, rfl, hown, hbl⟩; have hq := hid (below_cell hbl hbx); have hbs := hbl.size; replace hbl := hid (below_seq hb1.out hbl); replace hown := hid hown; clear hbx hc) | (go_at_call 16; refine (delRz xs ls v7 (w.heap.size + 1) w.heap.size _ w1 (Rz.of_owns (by simpa using hown.out)) (by simpa using hbs) (fun W hW => hst.out w1 hbl.out hq.out W hW)).mono ?_; rintro e w2 ⟨v8, rfl, hrz, hb2⟩; rw [hm'.out] at hrz; have hrz := hid (hrz.lower (Nat.le_succ _)); have hbel := hid (below_trans hbl.out (hb2.mono (Nat.le_succ _)))))
    rcases hrz.out with ⟨rfl, hm0⟩ | ⟨g, capg, restg, rfl, hbg, hhg, hng, hcg⟩
    · have hz : Hid (upC (sortS m) m.length = []) := by subst hm0; rfl
      have hhid := hid hm0
      clear hm0 hrz
      go_wp2_with (first | (go_at_call 18; refine (sortNote_none none 0 _).mono ?_; rintro e w3 ⟨rfl, rfl⟩) | (go_at_call 23; refine (cpt_none _).mono ?_; rintro e w3 ⟨rfl, rfl⟩) | (go_at_call 9; refine (cloneS [] _ _ (Sl.nil _ _) (by simp)).mono ?_; rintro e w3 ⟨v3, rfl, hown, hb3⟩; replace hown := hid hown; replace hb3 := hid hb3))
      go_ret
      rw [hz.out]
      exact ⟨_, rfl, owns_lower hown.out hbel.out.size, below_seq hbel.out hb3.out⟩
    · have hS := tail_some m g capg restg w2 hhg hng hcg hms.out
      have hl := hid (upC_len (sortS m) m.length)
      have hng := hid hng
      unfold maxLen at hcg
      have hnc : (upC (sortS m) m.length).length ≤ capg := Nat.le_trans hl.out hng.out
      generalize hCe : upC (sortS m) m.length = C at *
      replace hCe := hid hCe
      have hncz : (C.length : Int) ≤ (capg : Int) := by omega
      clear hrz hhg
      go_wp2_with (first | (go_at_call 18; refine hS.mono ?_; rintro e w3 ⟨rfl, hg3, hP⟩; have hg3 := hid hg3; clear hS) | (go_at_call 23; refine hP.mono ?_; rintro e w4 ⟨rfl, hg4, hL⟩; have hg4 := hid hg4; clear hP) | (go_at_call 9; refine hL.mono ?_; rintro e w5 ⟨v3, rfl, hown, hb3⟩; replace hown := hid hown; replace hb3 := hid hb3; clear hL))
      go_ret
      have hbw4 := below_trans (below_trans hbel.out (below_chg hg3.out hbg hbel.out.size)) (below_chg hg4.out hbg (Nat.le_trans hbel.out.size hg3.out.size))
      rw [hCe.out]
      exact ⟨_, rfl, owns_lower hown.out hbw4.size, below_seq hbw4 hb3.out⟩
end Go.Proofs.YtoilokfpfmicaaaDoor