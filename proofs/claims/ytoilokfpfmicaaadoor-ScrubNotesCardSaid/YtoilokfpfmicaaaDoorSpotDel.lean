/- slices.DeleteFunc at extents, as scrub.Note calls it. -/
import Derived.Test.YtoilokfpfmicaaaDoorSpotsA
import Derived.Test.YtoilokfpfmicaaaDoorCan
set_option linter.unusedVariables false
set_option linter.unusedSimpArgs false
namespace Go.Proofs.YtoilokfpfmicaaaDoor
open Go.RowKit Go.ChangeMaps
set_option maxHeartbeats 400000

theorem firstIdx_cases {α : Type} (p : α → Bool) (l : List α) : (firstIdx p l 0 = -1 ∧ ∀ x ∈ l, p x = false) ∨ ∃ (k : Nat) (x : α), firstIdx p l 0 = k ∧ l[k]? = some x ∧ p x = true ∧ ∀ y ∈ l.take k, p y = false := by
  have key : ∀ (l : List α) (i : Nat), (firstIdx p l i = -1 ∧ ∀ x ∈ l, p x = false) ∨ ∃ (k : Nat) (x : α), firstIdx p l i = ((i + k : Nat) : Int) ∧ l[k]? = some x ∧ p x = true ∧ ∀ y ∈ l.take k, p y = false := by
    intro l
    induction l with
    | nil => intro i; exact .inl ⟨rfl, by simp⟩
    | cons a l ih =>
      intro i
      cases ha : p a with
      | true => exact .inr ⟨0, a, by simp [firstIdx, ha], rfl, ha, by simp⟩
      | false =>
        rcases ih (i + 1) with ⟨h1, h2⟩ | ⟨k, x, h1, h2, h3, h4⟩
        · refine .inl ⟨by simp [firstIdx, ha, h1], ?_⟩
          intro x hx
          rcases List.mem_cons.1 hx with rfl | hx
          · exact ha
          · exact h2 x hx
        · refine .inr ⟨k + 1, x, by simp only [firstIdx, ha, h1, Bool.false_eq_true, if_false]; congr 1; omega, by simpa using h2, h3, ?_⟩
          intro y hy
          rw [List.take_succ_cons] at hy
          rcases List.mem_cons.1 hy with rfl | hy
          · exact ha
          · exact h4 y hy
  rcases key l 0 with h | ⟨k, x, h1, h2⟩
  · exact .inl h
  · exact .inr ⟨k, x, by rw [h1, Nat.zero_add], h2⟩
theorem note1 (x : ByteArray × Int) (lb : Nat) (lv : Value) (ls : List (ByteArray × Int)) (w : World) (hb : w.cell? ⟨lb, 0, none⟩ = some lv) (hl : Sl encS w lv ls) :
    Calls Tryd.prog 17 #[.agg (encS x).toArray, .pointer (some ⟨lb, 0, none⟩)] w fun e w' => e = .returned (.bool (inL ls x)) ∧ Gw w w' := by
  obtain ⟨xn, xi⟩ := x
  have hw0 := hid (Gw.alloc_of w (.cells #[.string xn, .int .i64 xi] 25))
  have g0 : (w.alloc (.cells #[.string xn, .int .i64 xi] 25)).cell? ⟨lb, 0, none⟩ = some lv := cell_old hb
  have hC := containsS ls (xn, xi) lv _ (hl.below hw0.out.below)
  obtain ⟨A, cap, rfl, h1, h2⟩ := hl.form
  clear hl hb
  change Calls _ _ #[.agg #[.string xn, .int .i64 xi], .pointer (some ⟨lb, 0, none⟩)] _ _
  change Calls _ _ #[_, .agg #[.string xn, .int .i64 xi]] _ _ at hC
  generalize inL ls (xn, xi) = r at hC ⊢
  go_enter Tryd.func17, Tryd.ntmps17
  go_wp2_with (go_at_call 7; refine hC.mono ?_; rintro e w' ⟨rfl, hg⟩)
  go_ret
  exact ⟨rfl, hw0.out.trans hg⟩

theorem idxNote (xs ls : List (ByteArray × Int)) (v lv : Value) (lb : Nat) (w : World) (h : Sl encS w v xs) (hb : w.cell? ⟨lb, 0, none⟩ = some lv) (hl : Sl encS w lv ls) :
    Calls Tryd.prog 46 #[v, .func (.func 17) #[] #[.pointer (some ⟨lb, 0, none⟩)]] w fun e w' => e = .returned (.int .i64 (firstIdx (inL ls) xs 0)) ∧ Gw w w' := by
  obtain ⟨A, cap, rfl, h1, h2⟩ := h.form
  unfold maxLen at h2
  have hr := hid (h.loads (sz := 2) (fun _ => rfl))
  have hl := hid hl
  have hb := hid hb
  clear h
  generalize hres : firstIdx (inL ls) xs 0 = res
  replace hres := hid hres
  go_enter Tryd.func46, Tryd.ntmps46
  go_wp2
  go_loopg [5, 8] xs.length (fun g s5 s8 wr => ∃ kk : Nat, kk ≤ xs.length ∧ xs.length - kk ≤ g ∧ s8 = .int .i64 kk ∧ Hid (firstIdx (inL ls) (xs.drop kk) kk = res ∧ Gw w wr))
  case atStart => exact ⟨0, Nat.zero_le _, by omega, rfl, by simpa using hres.out, Gw.refl w⟩
  case round =>
    obtain ⟨kk, hkk, hg, rfl, B⟩ := hrel
    by_cases hlt : kk < xs.length
    · obtain ⟨x, hx⟩ : ∃ x, xs[kk]? = some x := ⟨_, List.getElem?_eq_getElem hlt⟩
      obtain ⟨b, o, rfl, g1⟩ := hr.out kk x hx
      have hst := hid (firstIdx_step (inL ls) xs kk x hx)
      have hC := note1 x lb lv ls wr (below_cell B.out.2.below hb.out) (hl.out.below B.out.2.below)
      obtain ⟨n1, i1⟩ := x
      have c1 := below_cell B.out.2.below (g1 0 _ rfl)
      have c2 := below_cell B.out.2.below (g1 1 _ rfl)
      simp only [Nat.add_zero] at c1
      clear g1 hx
      change Calls _ _ #[.agg #[.string n1, .int .i64 i1], _] _ _ at hC
      have hltz : (kk : Int) < (xs.length : Int) := by omega
      cases hin : inL ls (n1, i1) with
      | true =>
        rw [hin] at hC
        go_wp2_with (go_at_call 17; refine hC.mono ?_; rintro e w' ⟨rfl, hgw⟩)
        go_ret
        refine ⟨ret_int ?_, B.out.2.trans hgw⟩
        rw [← B.out.1, hst.out, hin]
        rfl
      | false =>
        rw [hin] at hC
        go_wp2_with (go_at_call 17; refine hC.mono ?_; rintro e w' ⟨rfl, hgw⟩)
        go_roundg (xs.length - (kk + 1))
        case measure => omega
        case rel =>
          refine ⟨kk + 1, by omega, by omega, by go_num, ?_, B.out.2.trans hgw⟩
          rw [← B.out.1, hst.out, hin]
          rfl
    · have hltz : ¬ (kk : Int) < (xs.length : Int) := by omega
      have : xs.drop kk = [] := List.drop_eq_nil_of_le (by omega)
      go_wp2
      go_ret
      refine ⟨ret_int ?_, B.out.2⟩
      rw [← B.out.1, this]
      rfl

/-- What DeleteFunc has done ahead of place j. -/
def DelAt (xs ls : List (ByteArray × Int)) (rest : List Value) (b : Nat) (w wr : World) (i j : Nat) : Prop :=
  Chg (· = b) w wr ∧ ((xs.take j).filter fun x => !inL ls x).length = i ∧
  ∃ mid, wr.heap[b]? = some (.cells (((xs.take j).filter fun x => !inL ls x).flatMap encS ++ mid ++ (xs.drop j).flatMap encS ++ rest).toArray 25 (0, 0)) ∧ mid.length = (j - i) * 2 ∧ i < j
theorem DelAt.skip {xs ls : List (ByteArray × Int)} {rest : List Value} {b : Nat} {w wr w2 : World} {i j : Nat} {x : ByteArray × Int} (h : DelAt xs ls rest b w wr i j) (hx : xs[j]? = some x) (hin : inL ls x = true) (hg : Gw wr w2) : DelAt xs ls rest b w w2 i (j + 1) := by
  obtain ⟨h1, h2, mid, h3, h4, h5⟩ := h
  obtain ⟨hj, rfl⟩ := List.getElem?_eq_some_iff.1 hx
  have e : (xs.take (j + 1)).filter (fun x => !inL ls x) = (xs.take j).filter fun x => !inL ls x := by
    rw [List.take_add_one, hx, List.filter_append]
    simp [hin]
  refine ⟨h1.trans (Chg.of_below (S := fun _ => False) hg.below) (fun _ _ f => f.elim), by rw [e]; exact h2, mid ++ encS xs[j], ?_, by simp [encS, h4]; omega, by omega⟩
  rw [e, below_heap hg.below h3, List.drop_eq_getElem_cons hj, List.flatMap_cons]
  simp
theorem DelAt.cells {xs ls : List (ByteArray × Int)} {rest : List Value} {b : Nat} {w wr : World} {i j : Nat} {x : ByteArray × Int} (h : DelAt xs ls rest b w wr i j) (hx : xs[j]? = some x) :
    wr.cell? ⟨b, 0 + j * 2, none⟩ = some (.string x.1) ∧ wr.cell? ⟨b, 0 + j * 2 + 1, none⟩ = some (.int .i64 x.2) := by
  obtain ⟨h1, h2, mid, h3, h4, h5⟩ := h
  obtain ⟨hj, rfl⟩ := List.getElem?_eq_some_iff.1 hx
  have hl : ((((xs.take j).filter fun x => !inL ls x).flatMap encS) ++ mid).length = j * 2 := by
    rw [List.length_append, len_flat (sz := 2) (fun _ => rfl), h2, h4]
    omega
  have key : ∀ k u, (encS xs[j])[k]? = some u → wr.cell? ⟨b, j * 2 + k, none⟩ = some u := by
    intro k u hu
    simp only [World.cell?, h3]
    have hk := (List.getElem?_eq_some_iff.1 hu).1
    rw [List.drop_eq_getElem_cons hj, List.flatMap_cons]
    have : (((xs.take j).filter fun x => !inL ls x).flatMap encS ++ mid ++ (encS xs[j] ++ (xs.drop (j + 1)).flatMap encS) ++ rest)[j * 2 + k]? = some u := by
      rw [List.append_assoc, List.getElem?_append_right (by rw [hl]; omega), hl, show j * 2 + k - j * 2 = k from by omega, List.append_assoc, List.getElem?_append_left hk, hu]
    simpa using this
  exact ⟨by simpa using key 0 _ rfl, by simpa using key 1 _ rfl⟩
theorem DelAt.room {xs ls : List (ByteArray × Int)} {rest : List Value} {b : Nat} {w wr w2 : World} {i j : Nat} {x : ByteArray × Int} (h : DelAt xs ls rest b w wr i j) (hx : xs[j]? = some x) (hin : inL ls x = false) (hg : Gw wr w2) :
    (∃ u1 u2, w2.cell? ⟨b, i * 2, none⟩ = some u1 ∧ w2.cell? ⟨b, i * 2 + 1, none⟩ = some u2) ∧ (∀ o, w2.frozen? ⟨b, o, none⟩ = false) ∧
    DelAt xs ls rest b w ((w2.setCell ⟨b, i * 2, none⟩ (.string x.1)).setCell ⟨b, i * 2 + 1, none⟩ (.int .i64 x.2)) (i + 1) (j + 1) := by
  obtain ⟨h1, h2, mid, h3, h4, h5⟩ := h
  obtain ⟨hj, rfl⟩ := List.getElem?_eq_some_iff.1 hx
  have h3' := below_heap hg.below h3
  have e : (xs.take (j + 1)).filter (fun x => !inL ls x) = ((xs.take j).filter fun x => !inL ls x) ++ [xs[j]] := by
    rw [List.take_add_one, hx, List.filter_append]
    simp [hin]
  obtain ⟨m0, m1, mid', rfl⟩ : ∃ m0 m1 mid', mid = m0 :: m1 :: mid' := by
    rcases mid with _ | ⟨m0, _ | ⟨m1, mid'⟩⟩
    · simp at h4; omega
    · simp at h4; omega
    · exact ⟨m0, m1, mid', rfl⟩
  have hF : ((((xs.take j).filter fun x => !inL ls x)).flatMap encS).length = i * 2 := by rw [len_flat (sz := 2) (fun _ => rfl), h2]
  have hFe : ((xs.take (j + 1)).filter fun x => !inL ls x).flatMap encS = ((xs.take j).filter fun x => !inL ls x).flatMap encS ++ encS xs[j] := by rw [e]; simp
  have hlen : ((xs.take (j + 1)).filter fun x => !inL ls x).length = i + 1 := by rw [e]; simp [h2]
  rw [List.drop_eq_getElem_cons hj, List.flatMap_cons] at h3'
  generalize ((xs.take j).filter fun x => !inL ls x).flatMap encS = F at *
  generalize hD : (xs.drop (j + 1)).flatMap encS = D at *
  have hat : ∀ k u, (m0 :: m1 :: mid')[k]? = some u → w2.cell? ⟨b, i * 2 + k, none⟩ = some u := by
    intro k u hu
    have hk := (List.getElem?_eq_some_iff.1 hu).1
    have : (F ++ m0 :: m1 :: mid' ++ (encS xs[j] ++ D) ++ rest)[i * 2 + k]? = some u := by
      rw [List.append_assoc, List.append_assoc, List.getElem?_append_right (by omega), hF, show i * 2 + k - i * 2 = k from by omega, List.getElem?_append_left hk, hu]
    simp only [World.cell?, h3']
    simpa using this
  refine ⟨⟨m0, m1, hat 0 m0 rfl, hat 1 m1 rfl⟩, fun o => by simp [World.frozen?, h3'], ?_⟩
  rw [setCell_block _ h3', setCell_block _ (setBlock_at _ h3'), setBlock_setBlock]
  refine ⟨(h1.trans (Chg.of_below (S := fun _ => False) hg.below) (fun _ _ f => f.elim)).trans (setBlock_chg' _) (fun _ _ h => h), hlen, mid' ++ encS xs[j], ?_, by simp [encS] at h4 ⊢; omega, by omega⟩
  rw [setBlock_at _ h3', hFe, hD]
  have e1 : ((F ++ m0 :: m1 :: mid' ++ (encS xs[j] ++ D) ++ rest).toArray.setIfInBounds (i * 2) (.string xs[j].1)).setIfInBounds (i * 2 + 1) (.int .i64 xs[j].2) = (F ++ encS xs[j] ++ (mid' ++ encS xs[j]) ++ D ++ rest).toArray := by
    simp only [List.setIfInBounds_toArray]
    congr 1
    simp only [List.append_assoc]
    rw [List.set_append_right _ _ (by omega), hF, List.set_append_right _ _ (by omega), hF, show i * 2 - i * 2 = 0 from by omega, show i * 2 + 1 - i * 2 = 1 from by omega]
    simp [encS]
  rw [e1]
theorem clear_block {P : Program} (w : World) (t e : TypeId) (size : Nat) (z : Value) (hz : z.cells.size = size) (h1 : ∀ u ∈ z.cells.toList, u.oneCell' = true) (hp : 0 < size) (ht : P.underlying t = some (.slice e)) (hv : ∀ w, (zeroValue e).run P w = .ok z w)
    (b o n c : Nat) {l : List Value} {T : TypeId} (hb : w.heap[b]? = some (.cells l.toArray T (0, 0))) (hl : o + n * size ≤ l.length) :
    ∃ l', ∀ ty, (Builtin.clear_ #[t] ty #[.slice (some ⟨b, o, none⟩) n c]).run P w = .ok (.tuple #[]) (setBlock w b (.cells (l.take o ++ l').toArray T (0, 0))) := by
  by_cases hn : n = 0
  · subst hn
    refine ⟨l.drop o, fun ty => ?_⟩
    rw [List.take_append_drop, setBlock_self hb]
    simp [Builtin.clear_, run_underlying ht]
  · have hzl : (Builtin.zeroCells z.cells n).toList.length = n * size := by rw [Array.length_toList, size_zeroCells, hz]
    have hone : ∀ v ∈ (Builtin.zeroCells z.cells n).toList, v.oneCell' = true := by
      intro v hv'
      simp only [Builtin.zeroCells, Array.toList_map, List.mem_map] at hv'
      obtain ⟨k, _, rfl⟩ := hv'
      apply h1
      have hk : k % z.cells.size < z.cells.size := Nat.mod_lt _ (by rw [hz]; exact hp)
      rw [getElem!_pos z.cells _ hk]
      simp
    have hst := run_storeCells_cells (P := P) b o (Builtin.zeroCells z.cells n).toList 0 w
      (fun j hj => by rw [hzl] at hj; simp only [World.cell?, hb, Nat.add_zero]; simp; omega)
      (fun j hj => by simp [World.frozen?, hb]) hone
    simp only [Nat.add_zero] at hst
    rw [setCells_block _ _ _ l hb (by rw [hzl]; exact hl)] at hst
    obtain ⟨m, rfl⟩ : ∃ m, n = m + 1 := ⟨n - 1, by omega⟩
    refine ⟨(Builtin.zeroCells z.cells (m + 1)).toList ++ l.drop (o + (Builtin.zeroCells z.cells (m + 1)).toList.length), fun ty => ?_⟩
    rw [← List.append_assoc]
    simp [Builtin.clear_, run_underlying ht, hv, hst, splice]
set_option maxRecDepth 100000 in
theorem delNote (xs ls : List (ByteArray × Int)) (rest : List Value) (b cap lb : Nat) (lv : Value) (w : World) (hw : w.heap[b]? = some (.cells (xs.flatMap encS ++ rest).toArray 25 (0, 0))) (hcap : xs.length ≤ cap) (hmax : cap ≤ maxLen)
    (hst : ∀ W, Chg (· = b) w W → W.cell? ⟨lb, 0, none⟩ = some lv ∧ Sl encS W lv ls) :
    Calls Tryd.prog 16 #[.slice (some ⟨b, 0, none⟩) xs.length cap, .func (.func 17) #[] #[.pointer (some ⟨lb, 0, none⟩)]] w fun e w' =>
      e = .returned (.slice (some ⟨b, 0, none⟩) (xs.filter fun x => !inL ls x).length cap) ∧ Chg (· = b) w w' ∧ ∃ rest', w'.heap[b]? = some (.cells ((xs.filter fun x => !inL ls x).flatMap encS ++ rest').toArray 25 (0, 0)) := by
  have hI := idxNote xs ls (.slice (some ⟨b, 0, none⟩) xs.length cap) lv lb w (Sl.of_block xs hw ⟨rest, rfl⟩ rfl hcap hmax) (hst w (Chg.refl _ _)).1 (hst w (Chg.refl _ _)).2
  have hfi := firstIdx_cases (inL ls) xs
  have hst := hid hst
  have hw := hid hw
  unfold maxLen at hmax
  rcases hfi with ⟨e, hall⟩ | ⟨k0, x0, e, hx0, hin0, hall⟩
  · rw [e] at hI
    have hf : (xs.filter fun x => !inL ls x) = xs := List.filter_eq_self.2 (fun x hx => by simp [hall x hx])
    rw [hf]
    clear hall e hf
    go_enter Tryd.func16, Tryd.ntmps16
    go_wp2_with (go_at_call 46; refine hI.mono ?_; rintro e w' ⟨rfl, hg⟩)
    go_ret
    exact ⟨rfl, Chg.of_below hg.below, rest, below_heap hg.below hw.out⟩
  · rw [e] at hI
    have hk0 := (List.getElem?_eq_some_iff.1 hx0).1
    have h0 : ∀ w', Gw w w' → DelAt xs ls rest b w w' k0 (k0 + 1) := by
      intro w' hg
      have hf : (xs.take k0).filter (fun x => !inL ls x) = xs.take k0 := List.filter_eq_self.2 (fun x hx => by simp [hall x hx])
      have hd : DelAt xs ls rest b w w' k0 (k0 + 1) := by
        have e1 : (xs.take (k0 + 1)).filter (fun x => !inL ls x) = xs.take k0 := by
          rw [List.take_add_one, hx0, List.filter_append, hf]
          simp [hin0]
        refine ⟨Chg.of_below hg.below, by rw [e1]; simp; omega, encS x0, ?_, by simp [encS], by omega⟩
        rw [e1, below_heap hg.below hw.out]
        obtain ⟨_, rfl⟩ := List.getElem?_eq_some_iff.1 hx0
        conv => lhs; rw [← List.take_append_drop k0 xs, List.drop_eq_getElem_cons hk0, List.flatMap_append, List.flatMap_cons]
        simp
      exact hd
    replace h0 := hid h0
    have hne : ¬ (k0 : Int) = -1 := by omega
    clear hall e hx0 hin0
    go_enter Tryd.func16, Tryd.ntmps16
    go_wp2_with (go_at_call 46; refine hI.mono ?_; rintro e w' ⟨rfl, hg⟩)
    have hd0 := hid (h0.out _ hg)
    go_loopg [5, 6, 7] xs.length (fun g s5 s6 s7 wr => ∃ i j : Nat, j ≤ xs.length ∧ xs.length - j ≤ g ∧ s5 = .int .i64 i ∧ s6 = .int .i64 j ∧ Hid (DelAt xs ls rest b w wr i j))
    case atStart => exact ⟨k0, k0 + 1, by omega, by omega, rfl, by go_num, hd0.out⟩
    case round =>
      obtain ⟨i, j, hjn, hg, rfl, rfl, B⟩ := hrel
      by_cases hlt : j < xs.length
      · have hltz : (j : Int) < (xs.length : Int) := by omega
        obtain ⟨x, hx⟩ : ∃ x, xs[j]? = some x := ⟨_, List.getElem?_eq_getElem hlt⟩
        obtain ⟨c1, c2⟩ := B.out.cells hx
        obtain ⟨n1, i1⟩ := x
        have hgw := Gw.alloc_of wr (.cells #[.string n1, .int .i64 i1] 25)
        obtain ⟨hs1, hs2⟩ := hst.out (wr.alloc (.cells #[.string n1, .int .i64 i1] 25)) (B.out.1.alloc _)
        have hC := note1 (n1, i1) lb lv ls _ hs1 hs2
        simp only [Nat.zero_add] at c1 c2
        replace hx := hid hx
        change Calls _ _ #[.agg #[.string n1, .int .i64 i1], _] _ _ at hC
        have hij := B.out.2.2
        clear hs1 hs2
        cases hin : inL ls (n1, i1) with
        | true =>
          rw [hin] at hC
          go_wp2_with (go_at_call 17; refine hC.mono ?_; rintro e w2 ⟨rfl, hg2⟩)
          go_roundg (xs.length - (j + 1))
          case measure => omega
          case rel => exact ⟨i, j + 1, by omega, by omega, rfl, by go_num, B.out.skip hx.out hin (hgw.trans hg2)⟩
        | false =>
          rw [hin] at hC
          go_wp2_with (go_at_call 17; refine hC.mono ?_; rintro e w2 ⟨rfl, hg2⟩; obtain ⟨⟨u1, u2, d1, d2⟩, d3, hd⟩ := B.out.room hx.out hin (hgw.trans hg2); have d4 := d3 (i * 2); have d5 := d3 (i * 2 + 1); have d6 := below_cell hg2.below (cell_box wr #[.string n1, .int .i64 i1] 25 (0, 0) 0); have d7 := below_cell hg2.below (cell_box wr #[.string n1, .int .i64 i1] 25 (0, 0) 1); clear d3; replace hd := hid hd)
          go_roundg (xs.length - (j + 1))
          case measure => omega
          case rel => exact ⟨i + 1, j + 1, by omega, by omega, by go_num, by go_num, hd.out⟩
      · obtain rfl : j = xs.length := by omega
        have hltz : ¬ (xs.length : Int) < (xs.length : Int) := by omega
        obtain ⟨h1, h2, mid, h3, h4, h5⟩ := B.out
        rw [List.take_of_length_le (Nat.le_refl _), List.drop_of_length_le (Nat.le_refl _)] at h3
        rw [List.take_of_length_le (Nat.le_refl _)] at h2
        have hF : ((xs.filter fun x => !inL ls x).flatMap encS).length = i * 2 := by rw [len_flat (sz := 2) (fun _ => rfl), h2]
        obtain ⟨l', hcl⟩ := clear_block (P := Tryd.prog) wr 22 25 2 _ rfl (by simp [Value.cells, Value.oneCell']) (by decide) Tryd.underlying22 Tryd.zeroValue25 b (i * 2) (xs.length - i) (cap - i) h3 (by simp only [List.length_append, hF, h4, List.flatMap_nil, List.length_nil]; omega)
        rw [List.append_assoc, List.append_assoc, List.take_left' hF] at hcl
        have hlen := hid h2
        have hchg := hid h1
        have hbl := hid h3
        have hin : (i : Int) ≤ (xs.length : Int) := by omega
        have hlt2 := hid h5
        clear h1 h2 h3 h4 h5 hF hlt
        go_wp2
        · have := hlt2.out
          omega
        go_ret
        refine ⟨?_, hchg.out.trans (setBlock_chg' _) (fun _ _ h => h), l', setBlock_at _ hbl.out⟩
        rw [hlen.out]
        rfl
end Go.Proofs.YtoilokfpfmicaaaDoor
