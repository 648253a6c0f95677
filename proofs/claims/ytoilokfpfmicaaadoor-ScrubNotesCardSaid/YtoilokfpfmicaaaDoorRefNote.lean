/- The reference's ledgers: what the Go text does. -/
import Derived.Test.YtoilokfpfmicaaaDoorNotesQ
import Derived.Test.YtoilokfpfmicaaaDoorIns
import Derived.Test.YtoilokfpfmicaaaDoorSpotCmp
import Derived.Test.YtoilokfpfmicaaaDoorSpotsA
import Derived.Test.YtoilokfpfmicaaaDoorCmp
import Derived.Sort.Walk0
set_option linter.unusedVariables false
set_option linter.unusedSimpArgs false
namespace Go.Proofs.YtoilokfpfmicaaaDoor
open Go.RowKit Go.ChangeMaps Go.Sort
set_option maxHeartbeats 400000
attribute [local go_sem high] eqlS neqS

theorem refIn (xs : List SpotL) (x : SpotL) (v : Value) (w : World) (h : Sl encS w v xs) :
    Calls Tryd.prog 26 #[v, .agg (encS x).toArray] w fun e w' => e = .returned (.bool (inL xs x)) ∧ Gw w w' := by
  obtain ⟨A, cap, rfl, h1, h2⟩ := h.form
  unfold maxLen at h2
  have hr1 := hid (h.loads (sz := 2) (fun _ => rfl))
  clear h
  obtain ⟨xn, xi⟩ := x
  change Calls _ _ #[_, .agg #[.string xn, .int .i64 xi]] _ _
  generalize hres : inL xs (xn, xi) = res
  replace hres := hid hres
  go_enter Tryd.func26, Tryd.ntmps26
  go_wp2
  have hbx := hid (cell_box w #[.string xn, .int .i64 xi] 25 (0, 0))
  have hw0 := hid (Gw.alloc_of w (.cells #[.string xn, .int .i64 xi] 25))
  go_loopg [6, 9] xs.length (fun g s6 s9 wr => ∃ kk : Nat, kk ≤ xs.length ∧ xs.length - kk ≤ g ∧ s9 = .int .i64 kk ∧ Hid (Gw (w.alloc (.cells #[.string xn, .int .i64 xi] 25)) wr ∧ (xn, xi) ∉ xs.take kk))
  case atStart => exact ⟨0, Nat.zero_le _, by omega, rfl, Gw.refl _, by simp⟩
  case round =>
    obtain ⟨kk, hkk, hg, rfl, B⟩ := hrel
    have b0 : wr.cell? ⟨w.heap.size, 0, none⟩ = some (.string xn) := below_cell B.out.1.below (hbx.out 0)
    have b1 : wr.cell? ⟨w.heap.size, 1, none⟩ = some (.int .i64 xi) := below_cell B.out.1.below (hbx.out 1)
    by_cases hlt : kk < xs.length
    · obtain ⟨y, hy⟩ : ∃ y, xs[kk]? = some y := ⟨_, List.getElem?_eq_getElem (by omega)⟩
      obtain ⟨b, o, rfl, g1⟩ := hr1.out kk y hy
      replace hy := hid hy
      obtain ⟨n2, i2⟩ := y
      have c3 := below_cell (hw0.out.trans B.out.1).below (g1 0 _ rfl)
      have c4 := below_cell (hw0.out.trans B.out.1).below (g1 1 _ rfl)
      simp only [Nat.add_zero] at c3
      clear g1
      have b0 := cell_old (o := .cells #[.string n2, .int .i64 i2] 25) b0
      have b1 := cell_old (o := .cells #[.string n2, .int .i64 i2] 25) b1
      have hltz : (kk : Int) < (xs.length : Int) := by omega
      have hgg := hid (B.out.1.alloc (.cells #[.string n2, .int .i64 i2] 25))
      cases hxy : isSame (n2, i2) (xn, xi) with
      | true =>
        go_wp2
        go_ret
        have hr := hres.out
        rw [inL_true (by rw [← isSame_yes hxy]; exact List.mem_of_getElem? hy.out)] at hr
        subst hr
        exact ⟨rfl, hw0.out.trans hgg.out⟩
      | false =>
        go_wp2
        go_roundg (xs.length - (kk + 1))
        case measure => omega
        case rel =>
          refine ⟨kk + 1, by omega, by omega, by go_num, hgg.out, ?_⟩
          rw [List.take_add_one, hy.out]
          intro hm
          rcases List.mem_append.1 hm with hm | hm
          · exact B.out.2 hm
          · exact isSame_no hxy (by simpa using hm : (xn, xi) = (n2, i2)).symm
    · have hltz : ¬ (kk : Int) < (xs.length : Int) := by omega
      go_wp2
      go_ret
      have hr := hres.out
      have := B.out.2
      rw [List.take_of_length_le (by omega)] at this
      rw [inL_false this] at hr
      subst hr
      exact ⟨rfl, hw0.out.trans B.out.1⟩
theorem sLt_bool (n1 n2 : ByteArray) (i1 i2 : Int) : decide (sLt (n1, i1) (n2, i2)) = (Op.bytesLess n1.toList n2.toList || (n1.toList == n2.toList && decide (i1 < i2))) := by
  rw [Bool.eq_iff_iff, decide_eq_true_iff]
  unfold sLt
  simp only [bytesLess_eq, Bool.or_eq_true, Bool.and_eq_true, decide_eq_true_eq, beq_iff_eq]
theorem refLess (x y : SpotL) (w : World) : Calls Tryd.prog 27 #[.agg (encS x).toArray, .agg (encS y).toArray] w fun e w' => e = .returned (.bool (decide (sLt x y))) ∧ Gw w w' := by
  obtain ⟨n1, i1⟩ := x
  obtain ⟨n2, i2⟩ := y
  rw [sLt_bool]
  have hw0 := hid ((Gw.alloc_of w (.cells #[.string n1, .int .i64 i1] 25)).alloc (.cells #[.string n2, .int .i64 i2] 25))
  change Calls _ _ #[.agg #[.string n1, .int .i64 i1], .agg #[.string n2, .int .i64 i2]] _ _
  cases h1 : Op.bytesLess n1.toList n2.toList with
  | true =>
    go_enter Tryd.func27, Tryd.ntmps27
    go_wp2
    go_ret
    exact ⟨rfl, hw0.out⟩
  | false =>
    cases h2 : n1.toList == n2.toList with
    | false =>
      go_enter Tryd.func27, Tryd.ntmps27
      go_wp2
      go_ret
      exact ⟨rfl, hw0.out⟩
    | true =>
      by_cases h3 : i1 < i2
      · go_enter Tryd.func27, Tryd.ntmps27
        go_wp2
        go_ret
        exact ⟨by simp [h3], hw0.out⟩
      · go_enter Tryd.func27, Tryd.ntmps27
        go_wp2
        go_ret
        exact ⟨by simp [h3], hw0.out⟩

/-- The rows as they stand at the head of a round. -/
structure NoteJ (w wr : World) (vAll s8 : Value) (all out : List SpotL) : Prop where
  bel : Below w.heap.size w wr
  own : wr.ownsRow w.heap.size 25 2 s8 out.length (out.flatMap encS)
  all : Sl encS wr vAll all
theorem NoteJ.gw {w wr w2 : World} {vAll s8 : Value} {all out : List SpotL} (h : NoteJ w wr vAll s8 all out) (hg : Gw wr w2) : NoteJ w w2 vAll s8 all out := by
  refine ⟨below_seq h.bel hg.below, ?_, h.all.below hg.below⟩
  refine ⟨h.own.1, ?_⟩
  rcases h.own.2 with h2 | ⟨g, cap, cur, h3, h4, h5, h6⟩
  · exact .inl h2
  · exact .inr ⟨g, cap, cur, h3, h4, below_heap hg.below h5, h6⟩
/-- Behind the first rows: all that is gone through, in order. -/
theorem refLoop (all ls : List SpotL) (b : Bool) (hall : all.length ≤ 100) : True := trivial
set_option maxRecDepth 100000 in
set_option maxHeartbeats 4000000 in
theorem refNote (xs ls : List SpotL) (v u : Value) (b : Bool) (w : World) (h : Sl encS w v xs) (k : Sl encS w u ls) (hx : xs.length ≤ 40) (hl : ls.length ≤ 40) :
    Calls Tryd.prog 11 #[v, u, .bool b] w (Makes encS 25 2 w (refFold ls b (refAll xs ls b))) := by
  obtain ⟨A, cap, rfl, h1, h2⟩ := h.form
  obtain ⟨A', cap', rfl, h1', h2'⟩ := k.form
  unfold maxLen at h2 h2'
  have H := hid h
  have K := hid k
  have hx := hid hx
  have hl := hid hl
  have hb1 := hid (below_alloc (Below.refl w.heap.size w) (.cells #[] 25))
  have hm := hid (own_made w 25 2)
  clear h k
  cases b with
  | true =>
    have hA : refAll xs ls true = xs ++ ls := rfl
    rw [hA]
    obtain ⟨all, hallE⟩ : ∃ all, xs ++ ls = all := ⟨_, rfl⟩
    rw [hallE]
    have hlen : Hid (xs.length + ls.length = all.length) := by rw [← hallE, List.length_append]; rfl
    have hfm : Hid (xs.flatMap encS ++ ls.flatMap encS = all.flatMap encS) := by rw [← hallE, List.flatMap_append]; rfl
    have hall : Hid (all.length ≤ 80) := by have := hx.out; have := hl.out; have := hlen.out; show _ ≤ _; omega
    clear hallE hA
    go_enter Tryd.func11, Tryd.ntmps11
    go_wp2_with (first | (at_builtin; refine wpList_append_sl elemS rfl (.tmp 12) (.tmp 13) rfl w.heap.size _ _ _ rfl hm.out _ rfl xs (H.out.below hb1.out) (by have := hx.out; simp [maxLen]; omega) (by have := hx.out; omega) hb1.out.size ?_; intro v7 w2 hown2 hgrow2 _; have hb7 := hid (below_app hb1.out hm.out hgrow2); simp only [Nat.zero_add, List.nil_append] at hown2; obtain ⟨A7, c7, rfl⟩ := own_slice hown2; have hown7 := hid hown2; clear hown2 hgrow2) | (at_builtin; refine wpList_append_sl elemS rfl (.tmp 16) (.tmp 17) rfl w.heap.size _ _ _ rfl hown7.out _ rfl ls (K.out.below hb7.out) (by have := hx.out; have := hl.out; simp [maxLen]; omega) (by have := hx.out; have := hl.out; omega) hb7.out.size ?_; intro v9 w5 hown5 hgrow5 _; have hb9 := hid (below_app hb7.out hown7.out hgrow5); rw [hlen.out, hfm.out] at hown5; obtain ⟨A9, c9, rfl⟩ := own_slice hown5; have hown9 := hid hown5; clear hown5 hgrow5))
    have hS7 := hid (Sl.of_owns hown9.out)
    go_loopg [8, 10, 11, 21] all.length (fun g s8 s10 s11 s21 wr => ∃ kk : Nat, kk ≤ all.length ∧ all.length - kk ≤ g ∧ s21 = .int .i64 kk ∧ Hid (NoteJ w wr (.slice A9 all.length c9) s8 all (refFold ls true (all.take kk))))
    case atStart => exact ⟨0, Nat.zero_le _, by omega, rfl, hb9.out, by simpa [refFold] using World.ownsRow_nil _ _ _ _, hS7.out⟩
    case round =>
      obtain ⟨kk, hkk, hg, rfl, B⟩ := hrel
      have hkb : kk ≤ 80 := by have := hall.out; omega
      have hle := hid (refFold_len ls true all kk)
      have hsnoc := hid (fun s (h : all[kk]? = some s) => refFold_snoc (ls := ls) (b := true) h)
      generalize hout : refFold ls true (all.take kk) = out at *
      replace hout := hid hout
      obtain ⟨A8, c8, rfl⟩ := own_slice B.out.own
      have hso := hid (Sl.of_owns B.out.own)
      obtain ⟨_, c8', e8, i8, j8⟩ := hso.out.form
      cases e8
      unfold maxLen at j8
      by_cases hlt : kk < all.length
      · obtain ⟨s, hs⟩ : ∃ s, all[kk]? = some s := ⟨_, List.getElem?_eq_getElem (by omega)⟩
        obtain ⟨b, o, rfl, g1⟩ := B.out.all.loads (sz := 2) (fun _ => rfl) kk s hs
        replace hsnoc := hid (hsnoc.out s hs)
        obtain ⟨n1, i1⟩ := s
        have c1 := g1 0 _ rfl
        have c2 := g1 1 _ rfl
        simp only [Nat.add_zero] at c1
        have hltz : (kk : Int) < (all.length : Int) := by omega
        have hg0 := hid (Gw.alloc_of wr (.cells #[.string n1, .int .i64 i1] 25))
        have b0 : (wr.alloc (.cells #[.string n1, .int .i64 i1] 25)).cell? ⟨wr.heap.size, 0, none⟩ = some (.string n1) := cell_box _ _ _ _ 0
        have b1 : (wr.alloc (.cells #[.string n1, .int .i64 i1] 25)).cell? ⟨wr.heap.size, 1, none⟩ = some (.int .i64 i1) := cell_box _ _ _ _ 1
        have hI1 := refIn out (n1, i1) _ _ (hso.out.below hg0.out.below)
        have hb0 := hid b0
        have hb1' := hid b1
        clear g1 hs
        change Calls _ _ #[_, .agg #[.string n1, .int .i64 i1]] _ _ at hI1
        cases hin : inL out (n1, i1) with
        | true =>
          rw [hin] at hI1
          have hst : refStep ls true out (n1, i1) = out := refStep_skip (by simp [skipS, hin])
          replace hst := hid hst
          go_wp2_with (go_at_call 26; refine hI1.mono ?_; rintro e w3 ⟨rfl, hg3⟩; replace hg3 := hid (hg0.out.trans hg3); clear hI1)
          go_roundg (all.length - (kk + 1))
          case measure => omega
          case rel => exact ⟨kk + 1, by omega, by omega, by go_num, by show NoteJ _ _ _ _ _ _; rw [hsnoc.out, hst.out]; exact B.out.gw hg3.out⟩
        | false =>
          rw [hin] at hI1
          have hst : refStep ls true out (n1, i1) = insS out (n1, i1) := refStep_ins (by simp [skipS, hin])
          replace hst := hid hst
          go_wp2_with (go_at_call 26; refine hI1.mono ?_; rintro e w4 ⟨rfl, hg4⟩; have e0 : w4.cell? ⟨wr.heap.size, 0, none⟩ = some (.string n1) := below_cell hg4.below hb0.out; have e1 : w4.cell? ⟨wr.heap.size, 1, none⟩ = some (.int .i64 i1) := below_cell hg4.below hb1'.out; replace hg4 := hid (hg0.out.trans hg4); clear hI1)
          clear b0 b1
          generalize hnb : wr.heap.size = nb at *
          replace hnb := hid hnb
          try clear d0 d1
          have e0 := hid e0
          have e1 := hid e1
          go_loopg [11] out.length (fun g s11 wr => ∃ a : Nat, a ≤ out.length ∧ a ≤ g ∧ s11 = .int .i64 a ∧ Hid (posOf out (n1, i1) a = posOf out (n1, i1) out.length ∧ Gw w4 wr))
          case atStart => exact ⟨_, Nat.le_refl _, Nat.le_refl _, rfl, rfl, Gw.refl _⟩
          case round =>
            obtain ⟨a, ha, hga, hs11, B2⟩ := hrel
            have f0 : wr.cell? ⟨nb, 0, none⟩ = some (.string n1) := below_cell B2.out.2.below e0.out
            have f1 : wr.cell? ⟨nb, 1, none⟩ = some (.int .i64 i1) := below_cell B2.out.2.below e1.out
            cases a with
            | zero =>
              subst hs11
              have hB2 := hid B2.out.2
              have hp0 := hid B2.out.1
              clear B2
              go_wp2_with fail
              go_quiet (fail)
              go_wp2_with fail
              have hpos : posOf out (n1, i1) out.length = 0 := hp0.out.symm
              have hins : insS out (n1, i1) = out.take 0 ++ [(n1, i1)] ++ out.drop 0 := by unfold insS; rw [hpos]
              have hWq : Hid (Gw w4 (wr.drewN nq)) := hB2.out.drewN nq
              have hsl := hid (hso.out.below (hg4.out.trans hWq.out).below)
              have hbase := hid (below_seq B.out.bel (hg4.out.trans hWq.out).below)
              have hallq := hid (B.out.all.below (hg4.out.trans hWq.out).below)
              have q0 : ((wr.drewN nq)).cell? ⟨nb, 0, none⟩ = some (.string n1) := below_cell hWq.out.below e0.out
              have q1 : ((wr.drewN nq)).cell? ⟨nb, 1, none⟩ = some (.int .i64 i1) := below_cell hWq.out.below e1.out
              have q0 := hid q0
              have q1 := hid q1
              have hlo : out.length ≤ 80 := by have := hle.out; have := hall.out; omega
              have hlo' := hid hlo
              have hins := hid hins
              have hAN : 0 ≤ out.length := by omega
              have hAN' : 0 ≤ (c8 : Int) := by omega
              have hAN2 : 0 ≤ (out.length : Int) := by omega
              have hAN3 : ¬ (0 < (0 : Int)) := by omega
              clear hpos hlo
              refine wp_region_VL (InsJ encS 25 2 ((wr.drewN nq)) (n1, i1) (out.take 0) (out.take 0 ++ [(n1, i1)]) (out.take 0 ++ [(n1, i1)] ++ out.drop 0)
                [(1, .slice A8 out.length c8), (2, .int .i64 0), (3, .slice A8 0 c8), (5, .agg #[.string n1, .int .i64 i1]), (8, .slice A8 out.length c8), (9, .int .i64 0), (10, .slice (if c8 = 0 then A8 else A8.map (·.add (0 * 2))) (out.length - 0) (c8 - 0))])
                follows (by kernel_rfl) (by kernel_rfl) (InsJ.start (below_drewN (Below.refl _ _) 1)) ?_
              intro l o hl ho
              simp only [List.dropLast] at hl
              simp only [List.getLast?, List.getLast] at ho
              subst hl
              cases ho
              refine ⟨?_, ?_⟩
              · simp only [stepV, and_true]
                refine ⟨?_, ?_, ?_, ?_, ?_, ?_, ?_, ?_, ?_, ?_, ?_, ?_⟩
                all_goals
                  intro L V W hL hp hcl hJ
                  rw [if_pos (by rfl)]
                case refine_1 =>
                  exact does_val (v := .slice (some ⟨W.heap.size, 0, none⟩) 0 0) (w' := W.alloc (.cells #[] 25)) (by simp [execOp, Act.eval, go_sem])
                    (hJ.zero hL (closed_for hcl (i := 4) rfl 0 (by kernel_rfl)) (fun h => closed_for hcl (i := 4) rfl 0 (by kernel_rfl) (closed_for hcl (i := 7) rfl 4 (by kernel_rfl) h)) (fun h => closed_for hcl (i := 4) rfl 0 (by kernel_rfl) (closed_for hcl (i := 7) rfl 4 (by kernel_rfl) (closed_for hcl (i := 11) rfl 7 (by kernel_rfl) h))) (by simp))
                case refine_7 =>
                  have v5 := hJ.fix 5 (.agg #[.string n1, .int .i64 i1]) (by simp) (waits_arr hp 5 (by kernel_rfl))
                  exact does_val (v := .slice (some ⟨W.heap.size, 0, none⟩) 1 1) (w' := W.alloc (.cells #[.string n1, .int .i64 i1] 25)) (by simp [execOp, Act.eval, go_sem, putAll, resV, Act.put, v5]) (hJ.lay (by simp))
                case refine_5 =>
                  have l0 := waits_arr hp 0 (by kernel_rfl)
                  have v3 := hJ.fix 3 (.slice A8 0 c8) (by simp) (waits_arr hp 3 (by kernel_rfl))
                  have n7 : L 7 = false := by
                    cases h : L 7 with
                    | false => rfl
                    | true => rw [closed_for hcl (i := 7) rfl 4 (by kernel_rfl) h] at hL; cases hL
                  have n11 : L 11 = false := by
                    cases h : L 11 with
                    | false => rfl
                    | true => rw [closed_for hcl (i := 11) rfl 7 (by kernel_rfl) h] at n7; cases n7
                  obtain ⟨v', W', hrun, hJ'⟩ := hJ.app elemS 4 (by decide) (by simp) (v := V 0) (ys := []) (zs := out.take 0) (u := V 3) (by simp [curV, n11, n7, hL, l0]) (by rw [v3]; exact (hsl.out.below hJ.bel).takeN _ hAN) (fun v' => by simp [curV, upd, n11, n7]) (by have := hlo'.out; first | (simp [maxLen]; done) | (simp [maxLen]; omega)) (by have := hlo'.out; first | (simp; done) | (simp; omega)) 22
                  exact does_val (w' := W') (exec_append rfl (v := V 0) (u := V 3) (by simp [putAll, resV, Act.put, Act.eval]) (by simp [putAll, resV, Act.put, Act.eval]) hrun) hJ'
                case refine_8 =>
                  have l4 := waits_arr hp 4 (by kernel_rfl)
                  have l6 := waits_arr hp 6 (by kernel_rfl)
                  have n11 : L 11 = false := by
                    cases h : L 11 with
                    | false => rfl
                    | true => rw [closed_for hcl (i := 11) rfl 7 (by kernel_rfl) h] at hL; cases hL
                  obtain ⟨v', W', hrun, hJ'⟩ := hJ.app elemS 7 (by decide) (by simp) (v := V 4) (ys := out.take 0) (zs := [(n1, i1)]) (u := V 6) (by simp [curV, n11, hL, l4]) (hJ.sixSl l6) (fun v' => by simp [curV, upd, n11]) (by have := hlo'.out; first | (simp [maxLen]; done) | (simp [maxLen]; omega)) (by have := hlo'.out; first | (simp; done) | (simp; omega)) 22
                  exact does_val (w' := W') (exec_append rfl (v := V 4) (u := V 6) (by simp [putAll, resV, Act.put, Act.eval]) (by simp [putAll, resV, Act.put, Act.eval]) hrun) hJ'
                case refine_12 =>
                  have l7 := waits_arr hp 7 (by kernel_rfl)
                  have v10 := hJ.fix 10 (.slice (if c8 = 0 then A8 else A8.map (·.add (0 * 2))) (out.length - 0) (c8 - 0)) (by simp) (waits_arr hp 10 (by kernel_rfl))
                  obtain ⟨v', W', hrun, hJ'⟩ := hJ.app elemS 11 (by decide) (by simp) (v := V 7) (ys := out.take 0 ++ [(n1, i1)]) (zs := out.drop 0) (u := V 10) (by simp [curV, hL, l7]) (by rw [v10]; exact Sl.cut (enc := encS) (size := 2) (fun _ => rfl) (hsl.out.below hJ.bel) _ hAN) (fun v' => by simp [curV, upd]) (by have := hlo'.out; first | (simp [maxLen]; done) | (simp [maxLen]; omega)) (by have := hlo'.out; first | (simp; done) | (simp; omega)) 22
                  exact does_val (w' := W') (exec_append rfl (v := V 7) (u := V 10) (by simp [putAll, resV, Act.put, Act.eval]) (by simp [putAll, resV, Act.put, Act.eval]) hrun) hJ'
                case refine_4 =>
                  have v1 := hJ.fix 1 (.slice A8 out.length c8) (by simp) (waits_arr hp 1 (by kernel_rfl))
                  have v2 := hJ.fix 2 (.int .i64 0) (by simp) (waits_arr hp 2 (by kernel_rfl))
                  exact does_val (v := .slice A8 0 c8) (w' := W) (by simp [execOp, Act.eval, go_sem, putAll, resV, Act.put, v1, v2, hAN', hAN3]) (hJ.val 3 _ (by decide) (by decide) (by decide) (by decide) (by decide) (by simp))
                case refine_11 =>
                  have v8 := hJ.fix 8 (.slice A8 out.length c8) (by simp) (waits_arr hp 8 (by kernel_rfl))
                  have v9 := hJ.fix 9 (.int .i64 0) (by simp) (waits_arr hp 9 (by kernel_rfl))
                  exact does_val (v := .slice (if c8 = 0 then A8 else A8.map (·.add (0 * 2))) (out.length - 0) (c8 - 0)) (w' := W) (by simp [execOp, Act.eval, go_sem, putAll, resV, Act.put, v8, v9, hAN2, hAN3]) (hJ.val 10 _ (by decide) (by decide) (by decide) (by decide) (by decide) (by simp))
                case refine_6 =>
                  have l0 := below_cell hJ.bel q0.out
                  have l1 := below_cell hJ.bel q1.out
                  exact does_val (v := .agg #[.string n1, .int .i64 i1]) (w' := W) (by simp [execOp, Act.eval, go_sem, putAll, resV, Act.put, l0, l1]) (hJ.val 5 _ (by decide) (by decide) (by decide) (by decide) (by decide) (by simp))
                case refine_2 => exact does_val (v := .slice A8 out.length c8) (w' := W) (by simp [execOp, Act.eval, go_sem, putAll, resV, Act.put]) (hJ.val 1 _ (by decide) (by decide) (by decide) (by decide) (by decide) (by simp))
                case refine_3 => exact does_val (v := .int .i64 0) (w' := W) (by simp [execOp, Act.eval, go_sem, putAll, resV, Act.put]) (hJ.val 2 _ (by decide) (by decide) (by decide) (by decide) (by decide) (by simp))
                case refine_9 => exact does_val (v := .slice A8 out.length c8) (w' := W) (by simp [execOp, Act.eval, go_sem, putAll, resV, Act.put]) (hJ.val 8 _ (by decide) (by decide) (by decide) (by decide) (by decide) (by simp))
                case refine_10 => exact does_val (v := .int .i64 0) (w' := W) (by simp [execOp, Act.eval, go_sem, putAll, resV, Act.put]) (hJ.val 9 _ (by decide) (by decide) (by decide) (by decide) (by decide) (by simp))
              · intro L V W hall' hJ
                have hown := hJ.own (V 11) (out.take 0 ++ [(n1, i1)] ++ out.drop 0) (by simp [curV, hall' 11 (by simp)])
                rw [← hins.out] at hown
                have hbel := hid hJ.bel
                refine does_val (v := V 11) (w' := W) (by simp [execOp, Act.eval, go_sem, putAll, resV, Act.put]) ?_
                clear hJ hall'
                generalize V 11 = v11 at *
                have hown := hid hown
                simp only [putAll, resV, Act.put, List.setIfInBounds_toArray, List.set_cons_zero, List.set_cons_succ]
                go_wp2
                go_roundg (all.length - (kk + 1))
                case measure => omega
                case rel => exact ⟨kk + 1, by omega, by omega, by go_num, by show NoteJ _ _ _ _ _ _; rw [hsnoc.out, hst.out]; exact ⟨below_seq hbase.out hbel.out, owns_down hown.out hbase.out.size, hallq.out.below hbel.out⟩⟩
            | succ a =>
              have hs12 := hs11.trans (show Value.int .i64 ((a + 1 : Nat) : Int) = .int .i64 ((a : Int) + 1) by go_num)
              clear hs11
              subst hs12
              obtain ⟨y, hy⟩ : ∃ y, out[a]? = some y := ⟨_, List.getElem?_eq_getElem (by omega)⟩
              have hah : aheadAt out (n1, i1) a = decide (sLt (n1, i1) y) := by unfold aheadAt; rw [hy]
              obtain ⟨b2, o2, hA8, g2⟩ := hso.out.loads (sz := 2) (fun _ => rfl) a y hy
              obtain ⟨yn, yi⟩ := y
              have k0 : wr.cell? ⟨b2, o2 + a * 2, none⟩ = some (.string yn) := below_cell (hg4.out.trans B2.out.2).below (by simpa using g2 0 _ rfl)
              have k1 : wr.cell? ⟨b2, o2 + a * 2 + 1, none⟩ = some (.int .i64 yi) := below_cell (hg4.out.trans B2.out.2).below (g2 1 _ rfl)
              have hw1 := hid (show wrap64 (a : Int) = a by have := hle.out; have := hall.out; unfold wrap64; omega)
              have hw2 := hid (show IntKind.i64.wrap (a : Int) = a by have := hle.out; have := hall.out; rw [IntKind.wrap_i64]; omega)
              have hax : a < out.length := by omega
              have hax' : (a : Int) < (out.length : Int) := by omega
              have hcell : Hid (∀ W, Gw wr W → (W.cell? ⟨nb, 0, none⟩ = some (.string n1) ∧ W.cell? ⟨nb, 1, none⟩ = some (.int .i64 i1)) ∧ (W.cell? ⟨b2, o2 + a * 2, none⟩ = some (.string yn) ∧ W.cell? ⟨b2, o2 + a * 2 + 1, none⟩ = some (.int .i64 yi))) := fun W hW => ⟨⟨below_cell hW.below f0, below_cell hW.below f1⟩, ⟨below_cell hW.below k0, below_cell hW.below k1⟩⟩
              have hB2 := hid B2.out.2
              have hp0 := hid B2.out.1
              have hy := hid hy
              have hA8 := hid hA8
              clear g2 B2 f0 f1 k0 k1
              have hL := fun W => refLess (n1, i1) (yn, yi) W
              replace hL := hid hL
              generalize hcm : decide (sLt (n1, i1) (yn, yi)) = cm at *
              replace hcm := hid hcm
              replace hah := hid hah
              go_wp2_with fail
              refine wp_region_F [.int .i64 ((a : Int) + 1), .bool true, .bool true, .agg #[.string n1, .int .i64 i1], .slice A8 out.length c8, .int .i64 ((a : Int) + 1), .int .i64 (a : Int), .pointer (some ⟨b2, o2 + a * 2, none⟩), .agg #[.string yn, .int .i64 yi], .bool cm, .bool cm]
                (fun _ W => Gw wr W) follows (by kernel_rfl) rfl (Gw.of_drewN _ 1) ?_
              intro aS hS'
              simp only [putAll, Act.put, List.setIfInBounds_toArray, List.set_cons_zero, List.set_cons_succ] at hS'
              subst hS'
              refine ⟨?_, ?_⟩
              · simp only [stepF, and_true]
                refine ⟨?_, ?_, ?_, ?_, ?_, ?_, ?_, ?_, ?_, ?_, ?_⟩
                all_goals
                  intro L' W hL' hp hcl hJ
                  rw [if_pos (by rfl)]
                  obtain ⟨⟨l0, l1⟩, ⟨l2, l3⟩⟩ := hcell.out W hJ
                case refine_8 =>
                  have hA := hA8.out
                  subst hA
                  exact does_val (w' := W) (by simp [execOp, Act.eval, go_sem, hax]) ⟨rfl, hJ⟩
                case refine_10 =>
                  refine does_call (f := 27) (args := #[.agg #[.string n1, .int .i64 i1], .agg #[.string yn, .int .i64 yi]]) (w' := W) (by simp [execOp, Act.eval, go_sem]) ((hL.out W).mono ?_)
                  rintro e w' ⟨rfl, hg⟩
                  exact ⟨_, rfl, rfl, hJ.trans hg⟩
                all_goals
                  exact does_val (w' := W) (by simp [execOp, Act.eval, go_sem, l0, l1, l2, l3, hw1.out, hw2.out]) ⟨rfl, hJ⟩
              · intro L' W hall2 hJ
                have hJ := hid hJ
                clear hall2
                cases cm with
                | true =>
                  go_wp2
                  go_roundg a
                  case measure => omega
                  case rel => exact ⟨a, by omega, by omega, by go_num, by rw [← hp0.out, posOf_step hah.out], hB2.out.trans hJ.out⟩
                | false =>
                  go_wp2_with fail
                  have hpos : posOf out (n1, i1) out.length = (a + 1) := by rw [← hp0.out, posOf_stop hah.out]
                  have hins : insS out (n1, i1) = out.take (a + 1) ++ [(n1, i1)] ++ out.drop (a + 1) := by unfold insS; rw [hpos]
                  have hWq : Hid (Gw w4 W) := hB2.out.trans hJ.out
                  have hsl := hid (hso.out.below (hg4.out.trans hWq.out).below)
                  have hbase := hid (below_seq B.out.bel (hg4.out.trans hWq.out).below)
                  have hallq := hid (B.out.all.below (hg4.out.trans hWq.out).below)
                  have q0 : (W).cell? ⟨nb, 0, none⟩ = some (.string n1) := below_cell hWq.out.below e0.out
                  have q1 : (W).cell? ⟨nb, 1, none⟩ = some (.int .i64 i1) := below_cell hWq.out.below e1.out
                  have q0 := hid q0
                  have q1 := hid q1
                  have hlo : out.length ≤ 80 := by have := hle.out; have := hall.out; omega
                  have hlo' := hid hlo
                  have hins := hid hins
                  have hAN : (a + 1) ≤ out.length := by omega
                  have hAN' : ((a : Int) + 1) ≤ (c8 : Int) := by omega
                  have hAN2 : ((a : Int) + 1) ≤ (out.length : Int) := by omega
                  have hAN3 : ¬ (((a : Int) + 1) < (0 : Int)) := by omega
                  clear hpos hlo
                  refine wp_region_VL (InsJ encS 25 2 (W) (n1, i1) (out.take (a + 1)) (out.take (a + 1) ++ [(n1, i1)]) (out.take (a + 1) ++ [(n1, i1)] ++ out.drop (a + 1))
                    [(1, .slice A8 out.length c8), (2, .int .i64 ((a : Int) + 1)), (3, .slice A8 (a + 1) c8), (5, .agg #[.string n1, .int .i64 i1]), (8, .slice A8 out.length c8), (9, .int .i64 ((a : Int) + 1)), (10, .slice (if c8 = (a + 1) then A8 else A8.map (·.add ((a + 1) * 2))) (out.length - (a + 1)) (c8 - (a + 1)))])
                    follows (by kernel_rfl) (by kernel_rfl) (InsJ.start (below_drewN (Below.refl _ _) 1)) ?_
                  intro l o hl ho
                  simp only [List.dropLast] at hl
                  simp only [List.getLast?, List.getLast] at ho
                  subst hl
                  cases ho
                  refine ⟨?_, ?_⟩
                  · simp only [stepV, and_true]
                    refine ⟨?_, ?_, ?_, ?_, ?_, ?_, ?_, ?_, ?_, ?_, ?_, ?_⟩
                    all_goals
                      intro L V W hL hp hcl hJ
                      rw [if_pos (by rfl)]
                    case refine_1 =>
                      exact does_val (v := .slice (some ⟨W.heap.size, 0, none⟩) 0 0) (w' := W.alloc (.cells #[] 25)) (by simp [execOp, Act.eval, go_sem])
                        (hJ.zero hL (closed_for hcl (i := 4) rfl 0 (by kernel_rfl)) (fun h => closed_for hcl (i := 4) rfl 0 (by kernel_rfl) (closed_for hcl (i := 7) rfl 4 (by kernel_rfl) h)) (fun h => closed_for hcl (i := 4) rfl 0 (by kernel_rfl) (closed_for hcl (i := 7) rfl 4 (by kernel_rfl) (closed_for hcl (i := 11) rfl 7 (by kernel_rfl) h))) (by simp))
                    case refine_7 =>
                      have v5 := hJ.fix 5 (.agg #[.string n1, .int .i64 i1]) (by simp) (waits_arr hp 5 (by kernel_rfl))
                      exact does_val (v := .slice (some ⟨W.heap.size, 0, none⟩) 1 1) (w' := W.alloc (.cells #[.string n1, .int .i64 i1] 25)) (by simp [execOp, Act.eval, go_sem, putAll, resV, Act.put, v5]) (hJ.lay (by simp))
                    case refine_5 =>
                      have l0 := waits_arr hp 0 (by kernel_rfl)
                      have v3 := hJ.fix 3 (.slice A8 (a + 1) c8) (by simp) (waits_arr hp 3 (by kernel_rfl))
                      have n7 : L 7 = false := by
                        cases h : L 7 with
                        | false => rfl
                        | true => rw [closed_for hcl (i := 7) rfl 4 (by kernel_rfl) h] at hL; cases hL
                      have n11 : L 11 = false := by
                        cases h : L 11 with
                        | false => rfl
                        | true => rw [closed_for hcl (i := 11) rfl 7 (by kernel_rfl) h] at n7; cases n7
                      obtain ⟨v', W', hrun, hJ'⟩ := hJ.app elemS 4 (by decide) (by simp) (v := V 0) (ys := []) (zs := out.take (a + 1)) (u := V 3) (by simp [curV, n11, n7, hL, l0]) (by rw [v3]; exact (hsl.out.below hJ.bel).takeN _ hAN) (fun v' => by simp [curV, upd, n11, n7]) (by have := hlo'.out; first | (simp [maxLen]; done) | (simp [maxLen]; omega)) (by have := hlo'.out; first | (simp; done) | (simp; omega)) 22
                      exact does_val (w' := W') (exec_append rfl (v := V 0) (u := V 3) (by simp [putAll, resV, Act.put, Act.eval]) (by simp [putAll, resV, Act.put, Act.eval]) hrun) hJ'
                    case refine_8 =>
                      have l4 := waits_arr hp 4 (by kernel_rfl)
                      have l6 := waits_arr hp 6 (by kernel_rfl)
                      have n11 : L 11 = false := by
                        cases h : L 11 with
                        | false => rfl
                        | true => rw [closed_for hcl (i := 11) rfl 7 (by kernel_rfl) h] at hL; cases hL
                      obtain ⟨v', W', hrun, hJ'⟩ := hJ.app elemS 7 (by decide) (by simp) (v := V 4) (ys := out.take (a + 1)) (zs := [(n1, i1)]) (u := V 6) (by simp [curV, n11, hL, l4]) (hJ.sixSl l6) (fun v' => by simp [curV, upd, n11]) (by have := hlo'.out; first | (simp [maxLen]; done) | (simp [maxLen]; omega)) (by have := hlo'.out; first | (simp; done) | (simp; omega)) 22
                      exact does_val (w' := W') (exec_append rfl (v := V 4) (u := V 6) (by simp [putAll, resV, Act.put, Act.eval]) (by simp [putAll, resV, Act.put, Act.eval]) hrun) hJ'
                    case refine_12 =>
                      have l7 := waits_arr hp 7 (by kernel_rfl)
                      have v10 := hJ.fix 10 (.slice (if c8 = (a + 1) then A8 else A8.map (·.add ((a + 1) * 2))) (out.length - (a + 1)) (c8 - (a + 1))) (by simp) (waits_arr hp 10 (by kernel_rfl))
                      obtain ⟨v', W', hrun, hJ'⟩ := hJ.app elemS 11 (by decide) (by simp) (v := V 7) (ys := out.take (a + 1) ++ [(n1, i1)]) (zs := out.drop (a + 1)) (u := V 10) (by simp [curV, hL, l7]) (by rw [v10]; exact Sl.cut (enc := encS) (size := 2) (fun _ => rfl) (hsl.out.below hJ.bel) _ hAN) (fun v' => by simp [curV, upd]) (by have := hlo'.out; first | (simp [maxLen]; done) | (simp [maxLen]; omega)) (by have := hlo'.out; first | (simp; done) | (simp; omega)) 22
                      exact does_val (w' := W') (exec_append rfl (v := V 7) (u := V 10) (by simp [putAll, resV, Act.put, Act.eval]) (by simp [putAll, resV, Act.put, Act.eval]) hrun) hJ'
                    case refine_4 =>
                      have v1 := hJ.fix 1 (.slice A8 out.length c8) (by simp) (waits_arr hp 1 (by kernel_rfl))
                      have v2 := hJ.fix 2 (.int .i64 ((a : Int) + 1)) (by simp) (waits_arr hp 2 (by kernel_rfl))
                      exact does_val (v := .slice A8 (a + 1) c8) (w' := W) (by simp [execOp, Act.eval, go_sem, putAll, resV, Act.put, v1, v2, hAN', hAN3]) (hJ.val 3 _ (by decide) (by decide) (by decide) (by decide) (by decide) (by simp))
                    case refine_11 =>
                      have v8 := hJ.fix 8 (.slice A8 out.length c8) (by simp) (waits_arr hp 8 (by kernel_rfl))
                      have v9 := hJ.fix 9 (.int .i64 ((a : Int) + 1)) (by simp) (waits_arr hp 9 (by kernel_rfl))
                      exact does_val (v := .slice (if c8 = (a + 1) then A8 else A8.map (·.add ((a + 1) * 2))) (out.length - (a + 1)) (c8 - (a + 1))) (w' := W) (by simp [execOp, Act.eval, go_sem, putAll, resV, Act.put, v8, v9, hAN2, hAN3]) (hJ.val 10 _ (by decide) (by decide) (by decide) (by decide) (by decide) (by simp))
                    case refine_6 =>
                      have l0 := below_cell hJ.bel q0.out
                      have l1 := below_cell hJ.bel q1.out
                      exact does_val (v := .agg #[.string n1, .int .i64 i1]) (w' := W) (by simp [execOp, Act.eval, go_sem, putAll, resV, Act.put, l0, l1]) (hJ.val 5 _ (by decide) (by decide) (by decide) (by decide) (by decide) (by simp))
                    case refine_2 => exact does_val (v := .slice A8 out.length c8) (w' := W) (by simp [execOp, Act.eval, go_sem, putAll, resV, Act.put]) (hJ.val 1 _ (by decide) (by decide) (by decide) (by decide) (by decide) (by simp))
                    case refine_3 => exact does_val (v := .int .i64 ((a : Int) + 1)) (w' := W) (by simp [execOp, Act.eval, go_sem, putAll, resV, Act.put]) (hJ.val 2 _ (by decide) (by decide) (by decide) (by decide) (by decide) (by simp))
                    case refine_9 => exact does_val (v := .slice A8 out.length c8) (w' := W) (by simp [execOp, Act.eval, go_sem, putAll, resV, Act.put]) (hJ.val 8 _ (by decide) (by decide) (by decide) (by decide) (by decide) (by simp))
                    case refine_10 => exact does_val (v := .int .i64 ((a : Int) + 1)) (w' := W) (by simp [execOp, Act.eval, go_sem, putAll, resV, Act.put]) (hJ.val 9 _ (by decide) (by decide) (by decide) (by decide) (by decide) (by simp))
                  · intro L V W hall' hJ
                    have hown := hJ.own (V 11) (out.take (a + 1) ++ [(n1, i1)] ++ out.drop (a + 1)) (by simp [curV, hall' 11 (by simp)])
                    rw [← hins.out] at hown
                    have hbel := hid hJ.bel
                    refine does_val (v := V 11) (w' := W) (by simp [execOp, Act.eval, go_sem, putAll, resV, Act.put]) ?_
                    clear hJ hall'
                    generalize V 11 = v11 at *
                    have hown := hid hown
                    simp only [putAll, resV, Act.put, List.setIfInBounds_toArray, List.set_cons_zero, List.set_cons_succ]
                    go_wp2
                    go_roundg (all.length - (kk + 1))
                    case measure => omega
                    case rel => exact ⟨kk + 1, by omega, by omega, by go_num, by show NoteJ _ _ _ _ _ _; rw [hsnoc.out, hst.out]; exact ⟨below_seq hbase.out hbel.out, owns_down hown.out hbase.out.size, hallq.out.below hbel.out⟩⟩
      · have hltz : ¬ (kk : Int) < (all.length : Int) := by omega
        have hkl : kk = all.length := by omega
        have hof : out = refFold ls true all := by rw [← hout.out, List.take_of_length_le (by omega)]
        have hown := B.out.own
        have hbel := hid B.out.bel
        rw [hof] at hown
        have hln : out.length = (refFold ls true all).length := by rw [hof]
        clear hof hout hsnoc hle
        replace hown := hid hown
        replace hln := hid hln
        go_wp2
        go_ret
        refine ⟨_, rfl, ?_, hbel.out⟩
        have := hown.out
        rwa [← hln.out] at this ⊢
  | false =>
    have hA : refAll xs ls false = xs := rfl
    rw [hA]
    go_enter Tryd.func11, Tryd.ntmps11
    go_wp2_with (at_builtin; refine wpList_append_sl elemS rfl _ _ rfl w.heap.size _ _ _ rfl hm.out _ rfl xs (H.out.below hb1.out) (by have := hx.out; simp [maxLen]; omega) (by have := hx.out; omega) hb1.out.size ?_; intro v7 w2 hown2 hgrow2 _; have hb7 := hid (below_app hb1.out hm.out hgrow2); simp only [Nat.zero_add, List.nil_append] at hown2; obtain ⟨A7, c7, rfl⟩ := own_slice hown2; have hown7 := hid hown2; clear hown2 hgrow2)
    have hall : Hid (xs.length ≤ 80) := by have := hx.out; show _ ≤ _; omega
    generalize hxs : xs = all at *
    have hS7 := hid (Sl.of_owns hown7.out)
    go_loopg [8, 10, 11, 21] all.length (fun g s8 s10 s11 s21 wr => ∃ kk : Nat, kk ≤ all.length ∧ all.length - kk ≤ g ∧ s21 = .int .i64 kk ∧ Hid (NoteJ w wr (.slice A7 all.length c7) s8 all (refFold ls false (all.take kk))))
    case atStart => exact ⟨0, Nat.zero_le _, by omega, rfl, hb7.out, by simpa [refFold] using World.ownsRow_nil _ _ _ _, hS7.out⟩
    case round =>
      obtain ⟨kk, hkk, hg, rfl, B⟩ := hrel
      have hkb : kk ≤ 80 := by have := hall.out; omega
      have hle := hid (refFold_len ls false all kk)
      have hsnoc := hid (fun s (h : all[kk]? = some s) => refFold_snoc (ls := ls) (b := false) h)
      generalize hout : refFold ls false (all.take kk) = out at *
      replace hout := hid hout
      obtain ⟨A8, c8, rfl⟩ := own_slice B.out.own
      have hso := hid (Sl.of_owns B.out.own)
      obtain ⟨_, c8', e8, i8, j8⟩ := hso.out.form
      cases e8
      unfold maxLen at j8
      by_cases hlt : kk < all.length
      · obtain ⟨s, hs⟩ : ∃ s, all[kk]? = some s := ⟨_, List.getElem?_eq_getElem (by omega)⟩
        obtain ⟨b, o, rfl, g1⟩ := B.out.all.loads (sz := 2) (fun _ => rfl) kk s hs
        replace hsnoc := hid (hsnoc.out s hs)
        obtain ⟨n1, i1⟩ := s
        have c1 := g1 0 _ rfl
        have c2 := g1 1 _ rfl
        simp only [Nat.add_zero] at c1
        have hltz : (kk : Int) < (all.length : Int) := by omega
        have hg0 := hid (Gw.alloc_of wr (.cells #[.string n1, .int .i64 i1] 25))
        have b0 : (wr.alloc (.cells #[.string n1, .int .i64 i1] 25)).cell? ⟨wr.heap.size, 0, none⟩ = some (.string n1) := cell_box _ _ _ _ 0
        have b1 : (wr.alloc (.cells #[.string n1, .int .i64 i1] 25)).cell? ⟨wr.heap.size, 1, none⟩ = some (.int .i64 i1) := cell_box _ _ _ _ 1
        have hI1 := refIn out (n1, i1) _ _ (hso.out.below hg0.out.below)
        have hb0 := hid b0
        have hb1' := hid b1
        clear g1 hs
        change Calls _ _ #[_, .agg #[.string n1, .int .i64 i1]] _ _ at hI1
        cases hin : inL out (n1, i1) with
        | true =>
          rw [hin] at hI1
          have hst : refStep ls false out (n1, i1) = out := refStep_skip (by simp [skipS, hin])
          replace hst := hid hst
          go_wp2_with (go_at_call 26; refine hI1.mono ?_; rintro e w3 ⟨rfl, hg3⟩; replace hg3 := hid (hg0.out.trans hg3); clear hI1)
          go_roundg (all.length - (kk + 1))
          case measure => omega
          case rel => exact ⟨kk + 1, by omega, by omega, by go_num, by show NoteJ _ _ _ _ _ _; rw [hsnoc.out, hst.out]; exact B.out.gw hg3.out⟩
        | false =>
          rw [hin] at hI1
          have hI2 := hid (fun W (hW : Gw (wr.alloc (.cells #[.string n1, .int .i64 i1] 25)) W) => refIn ls (n1, i1) (.slice A' ls.length cap') W (K.out.below (below_seq B.out.bel (hg0.out.trans hW).below)))
          cases hin2 : inL ls (n1, i1) with
          | true =>
            have hst : refStep ls false out (n1, i1) = out := refStep_skip (by simp [skipS, hin2])
            replace hst := hid hst
            rw [hin2] at hI2
            go_wp2_with (first | (go_at_call 26; refine hI1.mono ?_; rintro e w3 ⟨rfl, hg3⟩; have d0 : w3.cell? ⟨wr.heap.size, 0, none⟩ = some (.string n1) := below_cell hg3.below hb0.out; have d1 : w3.cell? ⟨wr.heap.size, 1, none⟩ = some (.int .i64 i1) := below_cell hg3.below hb1'.out; replace hg3 := hid hg3; clear hI1) | (go_at_call 26; refine (hI2.out _ hg3.out).mono ?_; rintro e w4 ⟨rfl, hg4⟩; replace hg4 := hid (hg0.out.trans (hg3.out.trans hg4)); clear hI2))
            go_roundg (all.length - (kk + 1))
            case measure => omega
            case rel => exact ⟨kk + 1, by omega, by omega, by go_num, by show NoteJ _ _ _ _ _ _; rw [hsnoc.out, hst.out]; exact B.out.gw hg4.out⟩
          | false =>
            have hst : refStep ls false out (n1, i1) = insS out (n1, i1) := refStep_ins (by simp [skipS, hin, hin2])
            replace hst := hid hst
            rw [hin2] at hI2
            go_wp2_with (first | (go_at_call 26; refine hI1.mono ?_; rintro e w3 ⟨rfl, hg3⟩; have d0 : w3.cell? ⟨wr.heap.size, 0, none⟩ = some (.string n1) := below_cell hg3.below hb0.out; have d1 : w3.cell? ⟨wr.heap.size, 1, none⟩ = some (.int .i64 i1) := below_cell hg3.below hb1'.out; replace hg3 := hid hg3; clear hI1) | (go_at_call 26; refine (hI2.out _ hg3.out).mono ?_; rintro e w4 ⟨rfl, hg4⟩; have e0 : w4.cell? ⟨wr.heap.size, 0, none⟩ = some (.string n1) := below_cell hg4.below d0; have e1 : w4.cell? ⟨wr.heap.size, 1, none⟩ = some (.int .i64 i1) := below_cell hg4.below d1; replace hg4 := hid (hg0.out.trans (hg3.out.trans hg4)); clear hI2))
            clear b0 b1
            generalize hnb : wr.heap.size = nb at *
            replace hnb := hid hnb
            try clear d0 d1
            have e0 := hid e0
            have e1 := hid e1
            go_loopg [11] out.length (fun g s11 wr => ∃ a : Nat, a ≤ out.length ∧ a ≤ g ∧ s11 = .int .i64 a ∧ Hid (posOf out (n1, i1) a = posOf out (n1, i1) out.length ∧ Gw w4 wr))
            case atStart => exact ⟨_, Nat.le_refl _, Nat.le_refl _, rfl, rfl, Gw.refl _⟩
            case round =>
              obtain ⟨a, ha, hga, hs11, B2⟩ := hrel
              have f0 : wr.cell? ⟨nb, 0, none⟩ = some (.string n1) := below_cell B2.out.2.below e0.out
              have f1 : wr.cell? ⟨nb, 1, none⟩ = some (.int .i64 i1) := below_cell B2.out.2.below e1.out
              cases a with
              | zero =>
                subst hs11
                have hB2 := hid B2.out.2
                have hp0 := hid B2.out.1
                clear B2
                go_wp2_with fail
                go_quiet (fail)
                go_wp2_with fail
                have hpos : posOf out (n1, i1) out.length = 0 := hp0.out.symm
                have hins : insS out (n1, i1) = out.take 0 ++ [(n1, i1)] ++ out.drop 0 := by unfold insS; rw [hpos]
                have hWq : Hid (Gw w4 (wr.drewN nq)) := hB2.out.drewN nq
                have hsl := hid (hso.out.below (hg4.out.trans hWq.out).below)
                have hbase := hid (below_seq B.out.bel (hg4.out.trans hWq.out).below)
                have hallq := hid (B.out.all.below (hg4.out.trans hWq.out).below)
                have q0 : ((wr.drewN nq)).cell? ⟨nb, 0, none⟩ = some (.string n1) := below_cell hWq.out.below e0.out
                have q1 : ((wr.drewN nq)).cell? ⟨nb, 1, none⟩ = some (.int .i64 i1) := below_cell hWq.out.below e1.out
                have q0 := hid q0
                have q1 := hid q1
                have hlo : out.length ≤ 80 := by have := hle.out; have := hall.out; omega
                have hlo' := hid hlo
                have hins := hid hins
                have hAN : 0 ≤ out.length := by omega
                have hAN' : 0 ≤ (c8 : Int) := by omega
                have hAN2 : 0 ≤ (out.length : Int) := by omega
                have hAN3 : ¬ (0 < (0 : Int)) := by omega
                clear hpos hlo
                refine wp_region_VL (InsJ encS 25 2 ((wr.drewN nq)) (n1, i1) (out.take 0) (out.take 0 ++ [(n1, i1)]) (out.take 0 ++ [(n1, i1)] ++ out.drop 0)
                  [(1, .slice A8 out.length c8), (2, .int .i64 0), (3, .slice A8 0 c8), (5, .agg #[.string n1, .int .i64 i1]), (8, .slice A8 out.length c8), (9, .int .i64 0), (10, .slice (if c8 = 0 then A8 else A8.map (·.add (0 * 2))) (out.length - 0) (c8 - 0))])
                  follows (by kernel_rfl) (by kernel_rfl) (InsJ.start (below_drewN (Below.refl _ _) 1)) ?_
                intro l o hl ho
                simp only [List.dropLast] at hl
                simp only [List.getLast?, List.getLast] at ho
                subst hl
                cases ho
                refine ⟨?_, ?_⟩
                · simp only [stepV, and_true]
                  refine ⟨?_, ?_, ?_, ?_, ?_, ?_, ?_, ?_, ?_, ?_, ?_, ?_⟩
                  all_goals
                    intro L V W hL hp hcl hJ
                    rw [if_pos (by rfl)]
                  case refine_1 =>
                    exact does_val (v := .slice (some ⟨W.heap.size, 0, none⟩) 0 0) (w' := W.alloc (.cells #[] 25)) (by simp [execOp, Act.eval, go_sem])
                      (hJ.zero hL (closed_for hcl (i := 4) rfl 0 (by kernel_rfl)) (fun h => closed_for hcl (i := 4) rfl 0 (by kernel_rfl) (closed_for hcl (i := 7) rfl 4 (by kernel_rfl) h)) (fun h => closed_for hcl (i := 4) rfl 0 (by kernel_rfl) (closed_for hcl (i := 7) rfl 4 (by kernel_rfl) (closed_for hcl (i := 11) rfl 7 (by kernel_rfl) h))) (by simp))
                  case refine_7 =>
                    have v5 := hJ.fix 5 (.agg #[.string n1, .int .i64 i1]) (by simp) (waits_arr hp 5 (by kernel_rfl))
                    exact does_val (v := .slice (some ⟨W.heap.size, 0, none⟩) 1 1) (w' := W.alloc (.cells #[.string n1, .int .i64 i1] 25)) (by simp [execOp, Act.eval, go_sem, putAll, resV, Act.put, v5]) (hJ.lay (by simp))
                  case refine_5 =>
                    have l0 := waits_arr hp 0 (by kernel_rfl)
                    have v3 := hJ.fix 3 (.slice A8 0 c8) (by simp) (waits_arr hp 3 (by kernel_rfl))
                    have n7 : L 7 = false := by
                      cases h : L 7 with
                      | false => rfl
                      | true => rw [closed_for hcl (i := 7) rfl 4 (by kernel_rfl) h] at hL; cases hL
                    have n11 : L 11 = false := by
                      cases h : L 11 with
                      | false => rfl
                      | true => rw [closed_for hcl (i := 11) rfl 7 (by kernel_rfl) h] at n7; cases n7
                    obtain ⟨v', W', hrun, hJ'⟩ := hJ.app elemS 4 (by decide) (by simp) (v := V 0) (ys := []) (zs := out.take 0) (u := V 3) (by simp [curV, n11, n7, hL, l0]) (by rw [v3]; exact (hsl.out.below hJ.bel).takeN _ hAN) (fun v' => by simp [curV, upd, n11, n7]) (by have := hlo'.out; first | (simp [maxLen]; done) | (simp [maxLen]; omega)) (by have := hlo'.out; first | (simp; done) | (simp; omega)) 22
                    exact does_val (w' := W') (exec_append rfl (v := V 0) (u := V 3) (by simp [putAll, resV, Act.put, Act.eval]) (by simp [putAll, resV, Act.put, Act.eval]) hrun) hJ'
                  case refine_8 =>
                    have l4 := waits_arr hp 4 (by kernel_rfl)
                    have l6 := waits_arr hp 6 (by kernel_rfl)
                    have n11 : L 11 = false := by
                      cases h : L 11 with
                      | false => rfl
                      | true => rw [closed_for hcl (i := 11) rfl 7 (by kernel_rfl) h] at hL; cases hL
                    obtain ⟨v', W', hrun, hJ'⟩ := hJ.app elemS 7 (by decide) (by simp) (v := V 4) (ys := out.take 0) (zs := [(n1, i1)]) (u := V 6) (by simp [curV, n11, hL, l4]) (hJ.sixSl l6) (fun v' => by simp [curV, upd, n11]) (by have := hlo'.out; first | (simp [maxLen]; done) | (simp [maxLen]; omega)) (by have := hlo'.out; first | (simp; done) | (simp; omega)) 22
                    exact does_val (w' := W') (exec_append rfl (v := V 4) (u := V 6) (by simp [putAll, resV, Act.put, Act.eval]) (by simp [putAll, resV, Act.put, Act.eval]) hrun) hJ'
                  case refine_12 =>
                    have l7 := waits_arr hp 7 (by kernel_rfl)
                    have v10 := hJ.fix 10 (.slice (if c8 = 0 then A8 else A8.map (·.add (0 * 2))) (out.length - 0) (c8 - 0)) (by simp) (waits_arr hp 10 (by kernel_rfl))
                    obtain ⟨v', W', hrun, hJ'⟩ := hJ.app elemS 11 (by decide) (by simp) (v := V 7) (ys := out.take 0 ++ [(n1, i1)]) (zs := out.drop 0) (u := V 10) (by simp [curV, hL, l7]) (by rw [v10]; exact Sl.cut (enc := encS) (size := 2) (fun _ => rfl) (hsl.out.below hJ.bel) _ hAN) (fun v' => by simp [curV, upd]) (by have := hlo'.out; first | (simp [maxLen]; done) | (simp [maxLen]; omega)) (by have := hlo'.out; first | (simp; done) | (simp; omega)) 22
                    exact does_val (w' := W') (exec_append rfl (v := V 7) (u := V 10) (by simp [putAll, resV, Act.put, Act.eval]) (by simp [putAll, resV, Act.put, Act.eval]) hrun) hJ'
                  case refine_4 =>
                    have v1 := hJ.fix 1 (.slice A8 out.length c8) (by simp) (waits_arr hp 1 (by kernel_rfl))
                    have v2 := hJ.fix 2 (.int .i64 0) (by simp) (waits_arr hp 2 (by kernel_rfl))
                    exact does_val (v := .slice A8 0 c8) (w' := W) (by simp [execOp, Act.eval, go_sem, putAll, resV, Act.put, v1, v2, hAN', hAN3]) (hJ.val 3 _ (by decide) (by decide) (by decide) (by decide) (by decide) (by simp))
                  case refine_11 =>
                    have v8 := hJ.fix 8 (.slice A8 out.length c8) (by simp) (waits_arr hp 8 (by kernel_rfl))
                    have v9 := hJ.fix 9 (.int .i64 0) (by simp) (waits_arr hp 9 (by kernel_rfl))
                    exact does_val (v := .slice (if c8 = 0 then A8 else A8.map (·.add (0 * 2))) (out.length - 0) (c8 - 0)) (w' := W) (by simp [execOp, Act.eval, go_sem, putAll, resV, Act.put, v8, v9, hAN2, hAN3]) (hJ.val 10 _ (by decide) (by decide) (by decide) (by decide) (by decide) (by simp))
                  case refine_6 =>
                    have l0 := below_cell hJ.bel q0.out
                    have l1 := below_cell hJ.bel q1.out
                    exact does_val (v := .agg #[.string n1, .int .i64 i1]) (w' := W) (by simp [execOp, Act.eval, go_sem, putAll, resV, Act.put, l0, l1]) (hJ.val 5 _ (by decide) (by decide) (by decide) (by decide) (by decide) (by simp))
                  case refine_2 => exact does_val (v := .slice A8 out.length c8) (w' := W) (by simp [execOp, Act.eval, go_sem, putAll, resV, Act.put]) (hJ.val 1 _ (by decide) (by decide) (by decide) (by decide) (by decide) (by simp))
                  case refine_3 => exact does_val (v := .int .i64 0) (w' := W) (by simp [execOp, Act.eval, go_sem, putAll, resV, Act.put]) (hJ.val 2 _ (by decide) (by decide) (by decide) (by decide) (by decide) (by simp))
                  case refine_9 => exact does_val (v := .slice A8 out.length c8) (w' := W) (by simp [execOp, Act.eval, go_sem, putAll, resV, Act.put]) (hJ.val 8 _ (by decide) (by decide) (by decide) (by decide) (by decide) (by simp))
                  case refine_10 => exact does_val (v := .int .i64 0) (w' := W) (by simp [execOp, Act.eval, go_sem, putAll, resV, Act.put]) (hJ.val 9 _ (by decide) (by decide) (by decide) (by decide) (by decide) (by simp))
                · intro L V W hall' hJ
                  have hown := hJ.own (V 11) (out.take 0 ++ [(n1, i1)] ++ out.drop 0) (by simp [curV, hall' 11 (by simp)])
                  rw [← hins.out] at hown
                  have hbel := hid hJ.bel
                  refine does_val (v := V 11) (w' := W) (by simp [execOp, Act.eval, go_sem, putAll, resV, Act.put]) ?_
                  clear hJ hall'
                  generalize V 11 = v11 at *
                  have hown := hid hown
                  simp only [putAll, resV, Act.put, List.setIfInBounds_toArray, List.set_cons_zero, List.set_cons_succ]
                  go_wp2
                  go_roundg (all.length - (kk + 1))
                  case measure => omega
                  case rel => exact ⟨kk + 1, by omega, by omega, by go_num, by show NoteJ _ _ _ _ _ _; rw [hsnoc.out, hst.out]; exact ⟨below_seq hbase.out hbel.out, owns_down hown.out hbase.out.size, hallq.out.below hbel.out⟩⟩
              | succ a =>
                have hs12 := hs11.trans (show Value.int .i64 ((a + 1 : Nat) : Int) = .int .i64 ((a : Int) + 1) by go_num)
                clear hs11
                subst hs12
                obtain ⟨y, hy⟩ : ∃ y, out[a]? = some y := ⟨_, List.getElem?_eq_getElem (by omega)⟩
                have hah : aheadAt out (n1, i1) a = decide (sLt (n1, i1) y) := by unfold aheadAt; rw [hy]
                obtain ⟨b2, o2, hA8, g2⟩ := hso.out.loads (sz := 2) (fun _ => rfl) a y hy
                obtain ⟨yn, yi⟩ := y
                have k0 : wr.cell? ⟨b2, o2 + a * 2, none⟩ = some (.string yn) := below_cell (hg4.out.trans B2.out.2).below (by simpa using g2 0 _ rfl)
                have k1 : wr.cell? ⟨b2, o2 + a * 2 + 1, none⟩ = some (.int .i64 yi) := below_cell (hg4.out.trans B2.out.2).below (g2 1 _ rfl)
                have hw1 := hid (show wrap64 (a : Int) = a by have := hle.out; have := hall.out; unfold wrap64; omega)
                have hw2 := hid (show IntKind.i64.wrap (a : Int) = a by have := hle.out; have := hall.out; rw [IntKind.wrap_i64]; omega)
                have hax : a < out.length := by omega
                have hax' : (a : Int) < (out.length : Int) := by omega
                have hcell : Hid (∀ W, Gw wr W → (W.cell? ⟨nb, 0, none⟩ = some (.string n1) ∧ W.cell? ⟨nb, 1, none⟩ = some (.int .i64 i1)) ∧ (W.cell? ⟨b2, o2 + a * 2, none⟩ = some (.string yn) ∧ W.cell? ⟨b2, o2 + a * 2 + 1, none⟩ = some (.int .i64 yi))) := fun W hW => ⟨⟨below_cell hW.below f0, below_cell hW.below f1⟩, ⟨below_cell hW.below k0, below_cell hW.below k1⟩⟩
                have hB2 := hid B2.out.2
                have hp0 := hid B2.out.1
                have hy := hid hy
                have hA8 := hid hA8
                clear g2 B2 f0 f1 k0 k1
                have hL := fun W => refLess (n1, i1) (yn, yi) W
                replace hL := hid hL
                generalize hcm : decide (sLt (n1, i1) (yn, yi)) = cm at *
                replace hcm := hid hcm
                replace hah := hid hah
                go_wp2_with fail
                refine wp_region_F [.int .i64 ((a : Int) + 1), .bool true, .bool true, .agg #[.string n1, .int .i64 i1], .slice A8 out.length c8, .int .i64 ((a : Int) + 1), .int .i64 (a : Int), .pointer (some ⟨b2, o2 + a * 2, none⟩), .agg #[.string yn, .int .i64 yi], .bool cm, .bool cm]
                  (fun _ W => Gw wr W) follows (by kernel_rfl) rfl (Gw.of_drewN _ 1) ?_
                intro aS hS'
                simp only [putAll, Act.put, List.setIfInBounds_toArray, List.set_cons_zero, List.set_cons_succ] at hS'
                subst hS'
                refine ⟨?_, ?_⟩
                · simp only [stepF, and_true]
                  refine ⟨?_, ?_, ?_, ?_, ?_, ?_, ?_, ?_, ?_, ?_, ?_⟩
                  all_goals
                    intro L' W hL' hp hcl hJ
                    rw [if_pos (by rfl)]
                    obtain ⟨⟨l0, l1⟩, ⟨l2, l3⟩⟩ := hcell.out W hJ
                  case refine_8 =>
                    have hA := hA8.out
                    subst hA
                    exact does_val (w' := W) (by simp [execOp, Act.eval, go_sem, hax]) ⟨rfl, hJ⟩
                  case refine_10 =>
                    refine does_call (f := 27) (args := #[.agg #[.string n1, .int .i64 i1], .agg #[.string yn, .int .i64 yi]]) (w' := W) (by simp [execOp, Act.eval, go_sem]) ((hL.out W).mono ?_)
                    rintro e w' ⟨rfl, hg⟩
                    exact ⟨_, rfl, rfl, hJ.trans hg⟩
                  all_goals
                    exact does_val (w' := W) (by simp [execOp, Act.eval, go_sem, l0, l1, l2, l3, hw1.out, hw2.out]) ⟨rfl, hJ⟩
                · intro L' W hall2 hJ
                  have hJ := hid hJ
                  clear hall2
                  cases cm with
                  | true =>
                    go_wp2
                    go_roundg a
                    case measure => omega
                    case rel => exact ⟨a, by omega, by omega, by go_num, by rw [← hp0.out, posOf_step hah.out], hB2.out.trans hJ.out⟩
                  | false =>
                    go_wp2_with fail
                    have hpos : posOf out (n1, i1) out.length = (a + 1) := by rw [← hp0.out, posOf_stop hah.out]
                    have hins : insS out (n1, i1) = out.take (a + 1) ++ [(n1, i1)] ++ out.drop (a + 1) := by unfold insS; rw [hpos]
                    have hWq : Hid (Gw w4 W) := hB2.out.trans hJ.out
                    have hsl := hid (hso.out.below (hg4.out.trans hWq.out).below)
                    have hbase := hid (below_seq B.out.bel (hg4.out.trans hWq.out).below)
                    have hallq := hid (B.out.all.below (hg4.out.trans hWq.out).below)
                    have q0 : (W).cell? ⟨nb, 0, none⟩ = some (.string n1) := below_cell hWq.out.below e0.out
                    have q1 : (W).cell? ⟨nb, 1, none⟩ = some (.int .i64 i1) := below_cell hWq.out.below e1.out
                    have q0 := hid q0
                    have q1 := hid q1
                    have hlo : out.length ≤ 80 := by have := hle.out; have := hall.out; omega
                    have hlo' := hid hlo
                    have hins := hid hins
                    have hAN : (a + 1) ≤ out.length := by omega
                    have hAN' : ((a : Int) + 1) ≤ (c8 : Int) := by omega
                    have hAN2 : ((a : Int) + 1) ≤ (out.length : Int) := by omega
                    have hAN3 : ¬ (((a : Int) + 1) < (0 : Int)) := by omega
                    clear hpos hlo
                    refine wp_region_VL (InsJ encS 25 2 (W) (n1, i1) (out.take (a + 1)) (out.take (a + 1) ++ [(n1, i1)]) (out.take (a + 1) ++ [(n1, i1)] ++ out.drop (a + 1))
                      [(1, .slice A8 out.length c8), (2, .int .i64 ((a : Int) + 1)), (3, .slice A8 (a + 1) c8), (5, .agg #[.string n1, .int .i64 i1]), (8, .slice A8 out.length c8), (9, .int .i64 ((a : Int) + 1)), (10, .slice (if c8 = (a + 1) then A8 else A8.map (·.add ((a + 1) * 2))) (out.length - (a + 1)) (c8 - (a + 1)))])
                      follows (by kernel_rfl) (by kernel_rfl) (InsJ.start (below_drewN (Below.refl _ _) 1)) ?_
                    intro l o hl ho
                    simp only [List.dropLast] at hl
                    simp only [List.getLast?, List.getLast] at ho
                    subst hl
                    cases ho
                    refine ⟨?_, ?_⟩
                    · simp only [stepV, and_true]
                      refine ⟨?_, ?_, ?_, ?_, ?_, ?_, ?_, ?_, ?_, ?_, ?_, ?_⟩
                      all_goals
                        intro L V W hL hp hcl hJ
                        rw [if_pos (by rfl)]
                      case refine_1 =>
                        exact does_val (v := .slice (some ⟨W.heap.size, 0, none⟩) 0 0) (w' := W.alloc (.cells #[] 25)) (by simp [execOp, Act.eval, go_sem])
                          (hJ.zero hL (closed_for hcl (i := 4) rfl 0 (by kernel_rfl)) (fun h => closed_for hcl (i := 4) rfl 0 (by kernel_rfl) (closed_for hcl (i := 7) rfl 4 (by kernel_rfl) h)) (fun h => closed_for hcl (i := 4) rfl 0 (by kernel_rfl) (closed_for hcl (i := 7) rfl 4 (by kernel_rfl) (closed_for hcl (i := 11) rfl 7 (by kernel_rfl) h))) (by simp))
                      case refine_7 =>
                        have v5 := hJ.fix 5 (.agg #[.string n1, .int .i64 i1]) (by simp) (waits_arr hp 5 (by kernel_rfl))
                        exact does_val (v := .slice (some ⟨W.heap.size, 0, none⟩) 1 1) (w' := W.alloc (.cells #[.string n1, .int .i64 i1] 25)) (by simp [execOp, Act.eval, go_sem, putAll, resV, Act.put, v5]) (hJ.lay (by simp))
                      case refine_5 =>
                        have l0 := waits_arr hp 0 (by kernel_rfl)
                        have v3 := hJ.fix 3 (.slice A8 (a + 1) c8) (by simp) (waits_arr hp 3 (by kernel_rfl))
                        have n7 : L 7 = false := by
                          cases h : L 7 with
                          | false => rfl
                          | true => rw [closed_for hcl (i := 7) rfl 4 (by kernel_rfl) h] at hL; cases hL
                        have n11 : L 11 = false := by
                          cases h : L 11 with
                          | false => rfl
                          | true => rw [closed_for hcl (i := 11) rfl 7 (by kernel_rfl) h] at n7; cases n7
                        obtain ⟨v', W', hrun, hJ'⟩ := hJ.app elemS 4 (by decide) (by simp) (v := V 0) (ys := []) (zs := out.take (a + 1)) (u := V 3) (by simp [curV, n11, n7, hL, l0]) (by rw [v3]; exact (hsl.out.below hJ.bel).takeN _ hAN) (fun v' => by simp [curV, upd, n11, n7]) (by have := hlo'.out; first | (simp [maxLen]; done) | (simp [maxLen]; omega)) (by have := hlo'.out; first | (simp; done) | (simp; omega)) 22
                        exact does_val (w' := W') (exec_append rfl (v := V 0) (u := V 3) (by simp [putAll, resV, Act.put, Act.eval]) (by simp [putAll, resV, Act.put, Act.eval]) hrun) hJ'
                      case refine_8 =>
                        have l4 := waits_arr hp 4 (by kernel_rfl)
                        have l6 := waits_arr hp 6 (by kernel_rfl)
                        have n11 : L 11 = false := by
                          cases h : L 11 with
                          | false => rfl
                          | true => rw [closed_for hcl (i := 11) rfl 7 (by kernel_rfl) h] at hL; cases hL
                        obtain ⟨v', W', hrun, hJ'⟩ := hJ.app elemS 7 (by decide) (by simp) (v := V 4) (ys := out.take (a + 1)) (zs := [(n1, i1)]) (u := V 6) (by simp [curV, n11, hL, l4]) (hJ.sixSl l6) (fun v' => by simp [curV, upd, n11]) (by have := hlo'.out; first | (simp [maxLen]; done) | (simp [maxLen]; omega)) (by have := hlo'.out; first | (simp; done) | (simp; omega)) 22
                        exact does_val (w' := W') (exec_append rfl (v := V 4) (u := V 6) (by simp [putAll, resV, Act.put, Act.eval]) (by simp [putAll, resV, Act.put, Act.eval]) hrun) hJ'
                      case refine_12 =>
                        have l7 := waits_arr hp 7 (by kernel_rfl)
                        have v10 := hJ.fix 10 (.slice (if c8 = (a + 1) then A8 else A8.map (·.add ((a + 1) * 2))) (out.length - (a + 1)) (c8 - (a + 1))) (by simp) (waits_arr hp 10 (by kernel_rfl))
                        obtain ⟨v', W', hrun, hJ'⟩ := hJ.app elemS 11 (by decide) (by simp) (v := V 7) (ys := out.take (a + 1) ++ [(n1, i1)]) (zs := out.drop (a + 1)) (u := V 10) (by simp [curV, hL, l7]) (by rw [v10]; exact Sl.cut (enc := encS) (size := 2) (fun _ => rfl) (hsl.out.below hJ.bel) _ hAN) (fun v' => by simp [curV, upd]) (by have := hlo'.out; first | (simp [maxLen]; done) | (simp [maxLen]; omega)) (by have := hlo'.out; first | (simp; done) | (simp; omega)) 22
                        exact does_val (w' := W') (exec_append rfl (v := V 7) (u := V 10) (by simp [putAll, resV, Act.put, Act.eval]) (by simp [putAll, resV, Act.put, Act.eval]) hrun) hJ'
                      case refine_4 =>
                        have v1 := hJ.fix 1 (.slice A8 out.length c8) (by simp) (waits_arr hp 1 (by kernel_rfl))
                        have v2 := hJ.fix 2 (.int .i64 ((a : Int) + 1)) (by simp) (waits_arr hp 2 (by kernel_rfl))
                        exact does_val (v := .slice A8 (a + 1) c8) (w' := W) (by simp [execOp, Act.eval, go_sem, putAll, resV, Act.put, v1, v2, hAN', hAN3]) (hJ.val 3 _ (by decide) (by decide) (by decide) (by decide) (by decide) (by simp))
                      case refine_11 =>
                        have v8 := hJ.fix 8 (.slice A8 out.length c8) (by simp) (waits_arr hp 8 (by kernel_rfl))
                        have v9 := hJ.fix 9 (.int .i64 ((a : Int) + 1)) (by simp) (waits_arr hp 9 (by kernel_rfl))
                        exact does_val (v := .slice (if c8 = (a + 1) then A8 else A8.map (·.add ((a + 1) * 2))) (out.length - (a + 1)) (c8 - (a + 1))) (w' := W) (by simp [execOp, Act.eval, go_sem, putAll, resV, Act.put, v8, v9, hAN2, hAN3]) (hJ.val 10 _ (by decide) (by decide) (by decide) (by decide) (by decide) (by simp))
                      case refine_6 =>
                        have l0 := below_cell hJ.bel q0.out
                        have l1 := below_cell hJ.bel q1.out
                        exact does_val (v := .agg #[.string n1, .int .i64 i1]) (w' := W) (by simp [execOp, Act.eval, go_sem, putAll, resV, Act.put, l0, l1]) (hJ.val 5 _ (by decide) (by decide) (by decide) (by decide) (by decide) (by simp))
                      case refine_2 => exact does_val (v := .slice A8 out.length c8) (w' := W) (by simp [execOp, Act.eval, go_sem, putAll, resV, Act.put]) (hJ.val 1 _ (by decide) (by decide) (by decide) (by decide) (by decide) (by simp))
                      case refine_3 => exact does_val (v := .int .i64 ((a : Int) + 1)) (w' := W) (by simp [execOp, Act.eval, go_sem, putAll, resV, Act.put]) (hJ.val 2 _ (by decide) (by decide) (by decide) (by decide) (by decide) (by simp))
                      case refine_9 => exact does_val (v := .slice A8 out.length c8) (w' := W) (by simp [execOp, Act.eval, go_sem, putAll, resV, Act.put]) (hJ.val 8 _ (by decide) (by decide) (by decide) (by decide) (by decide) (by simp))
                      case refine_10 => exact does_val (v := .int .i64 ((a : Int) + 1)) (w' := W) (by simp [execOp, Act.eval, go_sem, putAll, resV, Act.put]) (hJ.val 9 _ (by decide) (by decide) (by decide) (by decide) (by decide) (by simp))
                    · intro L V W hall' hJ
                      have hown := hJ.own (V 11) (out.take (a + 1) ++ [(n1, i1)] ++ out.drop (a + 1)) (by simp [curV, hall' 11 (by simp)])
                      rw [← hins.out] at hown
                      have hbel := hid hJ.bel
                      refine does_val (v := V 11) (w' := W) (by simp [execOp, Act.eval, go_sem, putAll, resV, Act.put]) ?_
                      clear hJ hall'
                      generalize V 11 = v11 at *
                      have hown := hid hown
                      simp only [putAll, resV, Act.put, List.setIfInBounds_toArray, List.set_cons_zero, List.set_cons_succ]
                      go_wp2
                      go_roundg (all.length - (kk + 1))
                      case measure => omega
                      case rel => exact ⟨kk + 1, by omega, by omega, by go_num, by show NoteJ _ _ _ _ _ _; rw [hsnoc.out, hst.out]; exact ⟨below_seq hbase.out hbel.out, owns_down hown.out hbase.out.size, hallq.out.below hbel.out⟩⟩
      · have hltz : ¬ (kk : Int) < (all.length : Int) := by omega
        have hkl : kk = all.length := by omega
        have hof : out = refFold ls false all := by rw [← hout.out, List.take_of_length_le (by omega)]
        have hown := B.out.own
        have hbel := hid B.out.bel
        rw [hof] at hown
        have hln : out.length = (refFold ls false all).length := by rw [hof]
        clear hof hout hsnoc hle
        replace hown := hid hown
        replace hln := hid hln
        go_wp2
        go_ret
        refine ⟨_, rfl, ?_, hbel.out⟩
        have := hown.out
        rwa [← hln.out] at this ⊢
end Go.Proofs.YtoilokfpfmicaaaDoor
