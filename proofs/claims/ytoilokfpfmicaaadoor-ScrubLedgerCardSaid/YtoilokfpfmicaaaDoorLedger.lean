/- The law on ledgers: what was added is there, what was taken out is not. -/
import Derived.Test.YtoilokfpfmicaaaDoorLedgerP
import Derived.Test.YtoilokfpfmicaaaDoorAwake
set_option linter.unusedVariables false
set_option linter.unusedSimpArgs false
namespace Go.Proofs.YtoilokfpfmicaaaDoor
open Go.RowKit Go.ChangeMaps
set_option maxHeartbeats 400000

theorem min40 {α : Type} (xs : List α) : (min (xs.length : Int) 40).toNat = (xs.take 40).length := by
  simp
  omega
set_option maxRecDepth 100000 in
set_option maxHeartbeats 8000000 in
theorem ledger (xs ls : List (ByteArray × Int)) (v u : Value) (w : World) (h : Sl encS w v xs) (k : Sl encS w u ls) :
    Calls Tryd.prog 3 #[v, u] w fun e w' => e = .returned (.bool true) ∧ Below w.heap.size w w' := by
  obtain ⟨A, cap, rfl, h1, h2⟩ := h.form
  obtain ⟨A', cap', rfl, h1', h2'⟩ := k.form
  unfold maxLen at h2 h2'
  have H := h.take 40
  have K := k.take 40
  have hX : (xs.take 40).length ≤ 40 := by simp; omega
  have hL : (ls.take 40).length ≤ 40 := by simp; omega
  have e1 := min40 xs
  have e2 := min40 ls
  generalize xs.take 40 = X at *
  generalize ls.take 40 = L at *
  replace H := hid H
  replace K := hid K
  have hXc : X.length ≤ cap := by obtain ⟨A, c, hv, h1, _⟩ := H.out; cases hv; exact h1
  have hLc : L.length ≤ cap' := by obtain ⟨A, c, hv, h1, _⟩ := K.out; cases hv; exact h1
  clear h k
  go_enter Tryd.func3, Tryd.ntmps3
  go_wp2_with fail
  go_quiet (fail)
  clear e1 e2
  have hN := note X L (.slice A X.length cap) (.slice A' L.length cap') true (w.drewN nq) (H.out.below (below_drewN (Below.refl _ w) nq)) (K.out.below (below_drewN (Below.refl _ w) nq)) (by omega)
  go_wp2_with (go_at_call 6; refine hN.mono ?_; rintro e w1 ⟨v5, rfl, hown, hb1⟩; replace hb1 := hid (below_seq (below_drewN (Below.refl _ w) nq) hb1); clear hN)
  have hN2 := note (noteL X L true) L v5 (.slice A' L.length cap') false w1 (Sl.of_owns hown) (K.out.below hb1.out) (by have := noteL_len_add X L; omega)
  have hM := hid (Sl.of_owns hown)
  have hlM := hid (noteL_len_add X L)
  clear hown
  go_wp2_with (go_at_call 6; refine hN2.mono ?_; rintro e w2 ⟨v6, rfl, hown, hb2⟩; clear hN2)
  have hS := hid (Sl.of_owns hown)
  have hM2 := hid (hM.out.below hb2)
  have hb3 := hid (below_seq hb1.out hb2)
  have hK2 := hid (K.out.below hb3.out)
  have hH2 := hid (H.out.below hb3.out)
  clear hown hb2 hM
  have hinM : Hid (∀ x ∈ L, inL (noteL X L true) x = true ∧ inL (noteL (noteL X L true) L false) x = false) := fun x hx => ⟨inL_true (note_add.2 (.inr hx)), inL_false (fun h => (note_out.1 h).2 hx)⟩
  have hinX : Hid (∀ x ∈ X, inL (noteL X L true) x = true ∧ inL (noteL (noteL X L true) L false) x = !inL L x) := fun x hx => ⟨inL_true (note_add.2 (.inl hx)), by
    cases e : inL L x with
    | true => exact inL_false (fun h => (note_out.1 h).2 (inL_iff.1 e))
    | false => exact inL_true (note_out.2 ⟨note_add.2 (.inl hx), fun h => by rw [inL_true h] at e; cases e⟩)⟩
  have hlS := hid (noteL_len_out (noteL X L true) L)
  generalize noteL (noteL X L true) L false = S at *
  generalize noteL X L true = M at *
  obtain ⟨A5, c5, rfl, i5, j5⟩ := hM2.out.form
  obtain ⟨A6, c6, rfl, i6, j6⟩ := hS.out.form
  have hr1 := hid (hK2.out.loads (sz := 2) (fun _ => rfl))
  go_wp2_with fail
  go_loopg [8, 29] L.length (fun g s8 s29 wr => ∃ kk : Nat, kk ≤ L.length ∧ L.length - kk ≤ g ∧ s29 = .int .i64 kk ∧ Hid (Below w2.heap.size w2 wr))
  case atStart => exact ⟨0, Nat.zero_le _, by omega, rfl, Below.refl _ _⟩
  case round =>
    obtain ⟨kk, hkk, hg, rfl, B⟩ := hrel
    by_cases hlt : kk < L.length
    · obtain ⟨x, hx⟩ : ∃ x, L[kk]? = some x := ⟨_, List.getElem?_eq_getElem hlt⟩
      obtain ⟨b, o, rfl, g1⟩ := hr1.out kk x hx
      obtain ⟨n1, i1⟩ := x
      have c1 := below_cell B.out (g1 0 _ rfl)
      have c2 := below_cell B.out (g1 1 _ rfl)
      simp only [Nat.add_zero] at c1
      have hin := hinM.out (n1, i1) (List.mem_of_getElem? hx)
      have hg0 := Gw.alloc_of wr (.cells #[.string n1, .int .i64 i1] 25)
      have hC1 := containsS M (n1, i1) _ _ (hM2.out.below (below_seq B.out hg0.below))
      rw [hin.1] at hC1
      have hC2 := fun w3 (h3 : Gw (wr.alloc (.cells #[.string n1, .int .i64 i1] 25)) w3) => containsS S (n1, i1) _ _ (hS.out.below (below_seq B.out (hg0.trans h3).below))
      simp only [hin.2] at hC2
      have hltz : (kk : Int) < (L.length : Int) := by omega
      have hbx := fun j => cell_box wr #[.string n1, .int .i64 i1] 25 (0, 0) j
      replace hC2 := hid hC2
      change Calls _ _ #[_, .agg #[.string n1, .int .i64 i1]] _ _ at hC1
      clear g1 hx hin
      go_wp2_with (first | (go_at_call 7; refine hC1.mono ?_; rintro e w3 ⟨rfl, hg3⟩; have hd0 := below_cell hg3.below (hbx 0); have hd1 := below_cell hg3.below (hbx 1); clear hC1) | (go_at_call 7; refine (hC2.out _ hg3).mono ?_; rintro e w4 ⟨rfl, hg4⟩))
      go_roundg (L.length - (kk + 1))
      case measure => omega
      case rel => exact ⟨kk + 1, by omega, by omega, by go_num, below_seq B.out ((hg0.trans hg3).trans hg4).below⟩
    · have hltz : ¬ (kk : Int) < (L.length : Int) := by omega
      have hr2 := hid (hH2.out.loads (sz := 2) (fun _ => rfl))
      clear hinM hlt
      go_wp2_with fail
      go_loopg [10, 45] X.length (fun g s10 s45 wr2 => ∃ kk : Nat, kk ≤ X.length ∧ X.length - kk ≤ g ∧ s45 = .int .i64 kk ∧ Hid (Below w2.heap.size w2 wr2))
      case atStart => exact ⟨0, Nat.zero_le _, by omega, rfl, B.out⟩
      case round =>
        obtain ⟨k2, hk2, hg2, rfl, B2⟩ := hrel
        by_cases hlt2 : k2 < X.length
        · obtain ⟨x, hx⟩ : ∃ x, X[k2]? = some x := ⟨_, List.getElem?_eq_getElem hlt2⟩
          obtain ⟨b, o, rfl, g1⟩ := hr2.out k2 x hx
          obtain ⟨n1, i1⟩ := x
          have c1 := below_cell B2.out (g1 0 _ rfl)
          have c2 := below_cell B2.out (g1 1 _ rfl)
          simp only [Nat.add_zero] at c1
          have hin := hinX.out (n1, i1) (List.mem_of_getElem? hx)
          have hltz2 : (k2 : Int) < (X.length : Int) := by omega
          clear g1 hx
          have hg0 := Gw.alloc_of wr (.cells #[.string n1, .int .i64 i1] 25)
          have hS1 := hid (fun W (hW : Gw (wr.alloc (.cells #[.string n1, .int .i64 i1] 25)) W) => below_seq B2.out (hg0.trans hW).below)
          have hbx := hid (fun (j : Nat) => cell_box wr #[.string n1, .int .i64 i1] 25 (0, 0) j)
          replace hin := hid hin
          go_wp2_with fail
          generalize hW1 : wr.alloc (.cells #[.string n1, .int .i64 i1] 25) = W1 at *
          generalize wr.heap.size = nb at *
          have hld : Hid (∀ W, Gw W1 W → W.cell? ⟨nb, 0, none⟩ = some (.string n1) ∧ W.cell? ⟨nb, 1, none⟩ = some (.int .i64 i1)) := fun W hW => ⟨below_cell hW.below (hbx.out 0), below_cell hW.below (hbx.out 1)⟩
          refine wp_region_F [.slice A5 M.length c5, .agg #[.string n1, .int .i64 i1], .bool true, .bool false, .bool false, .slice A6 S.length c6, .agg #[.string n1, .int .i64 i1], .bool (!inL L (n1, i1)), .slice A' L.length cap', .agg #[.string n1, .int .i64 i1], .bool (inL L (n1, i1)), .bool false, .bool false]
            (fun _ W => Gw W1 W) follows (by kernel_rfl) rfl (Gw.of_drewN _ 1) ?_
          intro aS hS'
          simp only [putAll, Act.put, List.setIfInBounds_toArray, List.set_cons_zero, List.set_cons_succ] at hS'
          subst hS'
          refine ⟨?_, ?_⟩
          · simp only [stepF, and_true]
            refine ⟨?_, ?_, ?_, ?_, ?_, ?_, ?_, ?_, ?_, ?_, ?_, ?_, ?_⟩
            all_goals
              intro L' W hL' hp hcl hJ
              rw [if_pos (by rfl)]
              obtain ⟨l0, l1⟩ := hld.out W hJ
            case refine_3 =>
              refine does_call (f := 7) (args := #[.slice A5 M.length c5, .agg #[.string n1, .int .i64 i1]]) (w' := W) (by simp [execOp, Act.eval, go_sem]) ((containsS M (n1, i1) _ W (hM2.out.below (hS1.out W hJ))).mono ?_)
              rintro e w' ⟨rfl, hg⟩
              rw [hin.out.1]
              exact ⟨_, rfl, rfl, hJ.trans hg⟩
            case refine_8 =>
              refine does_call (f := 7) (args := #[.slice A6 S.length c6, .agg #[.string n1, .int .i64 i1]]) (w' := W) (by simp [execOp, Act.eval, go_sem]) ((containsS S (n1, i1) _ W (hS.out.below (hS1.out W hJ))).mono ?_)
              rintro e w' ⟨rfl, hg⟩
              rw [hin.out.2]
              exact ⟨_, rfl, rfl, hJ.trans hg⟩
            case refine_11 =>
              refine does_call (f := 7) (args := #[.slice A' L.length cap', .agg #[.string n1, .int .i64 i1]]) (w' := W) (by simp [execOp, Act.eval, go_sem]) ((containsS L (n1, i1) _ W (hK2.out.below (hS1.out W hJ))).mono ?_)
              rintro e w' ⟨rfl, hg⟩
              exact ⟨_, rfl, rfl, hJ.trans hg⟩
            all_goals
              exact does_val (w' := W) (by simp [execOp, Act.eval, go_sem, l0, l1]) ⟨rfl, hJ⟩
          · intro L' W hall hJ
            have hend := hid (hS1.out W hJ)
            clear hld hbx hS1 hin hg0 hJ hall
            go_wp2
            go_roundg (X.length - (k2 + 1))
            case measure => omega
            case rel => exact ⟨k2 + 1, by omega, by omega, by go_num, hend.out⟩
        · have hltz2 : ¬ (k2 : Int) < (X.length : Int) := by omega
          have ha := hid (awake20 wr)
          have q1 : decide ((S.length : Int) ≤ (M.length : Int)) = true := decide_eq_true (by have := hlS.out; omega)
          have q2 : decide ((M.length : Int) ≤ (X.length : Int) + (L.length : Int)) = true := decide_eq_true (by have := hlM.out; omega)
          have hw : wrap64 ((X.length : Int) + (L.length : Int)) = (X.length : Int) + (L.length : Int) := (wrap_sum (c := X.length + L.length) rfl (by omega)).trans (Int.natCast_add _ _)
          have hend := hid (fun w' (hb : Below wr.heap.size wr w') => below_seq hb3.out (below_seq B2.out hb))
          replace hX := hid hX
          replace hL := hid hL
          clear hlt2
          go_wp2_with (go_at_call 8; refine ha.out.mono ?_; rintro e w' ⟨rfl, hb⟩; clear ha)
          go_ret
          exact ⟨rfl, hend.out _ hb⟩
end Go.Proofs.YtoilokfpfmicaaaDoor
