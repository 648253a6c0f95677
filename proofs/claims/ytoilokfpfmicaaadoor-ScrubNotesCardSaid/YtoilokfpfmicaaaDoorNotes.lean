/- The law on the reference's ledgers: what scrub.Note hands back is what the reference does; the rows that came in stay. -/
import Derived.Test.YtoilokfpfmicaaaDoorNotesP
import Derived.Test.YtoilokfpfmicaaaDoorRefNote
import Derived.Test.YtoilokfpfmicaaaDoorAwake
set_option linter.unusedVariables false
set_option linter.unusedSimpArgs false
namespace Go.Proofs.YtoilokfpfmicaaaDoor
open Go.RowKit Go.ChangeMaps
set_option maxHeartbeats 400000

theorem min40' {α : Type} (xs : List α) : (min (xs.length : Int) 40).toNat = (xs.take 40).length := by
  simp
  omega
theorem equal_yes (xs : List (ByteArray × Int)) (v u : Value) (w : World) (h : Sl encS w v xs) (k : Sl encS w u xs) :
    Calls Tryd.prog 10 #[v, u] w fun e w' => e = .returned (.bool true) ∧ ∃ n, w' = w.drewN n := by
  have := equalS xs xs v u w h k
  rwa [decide_eq_true rfl] at this
set_option maxRecDepth 100000 in
set_option maxHeartbeats 4000000 in
theorem notes (xs ls : List (ByteArray × Int)) (v u : Value) (b : Bool) (w : World) (h : Sl encS w v xs) (k : Sl encS w u ls) :
    Calls Tryd.prog 4 #[v, u, .bool b] w fun e w' => e = .returned (.bool true) ∧ Below w.heap.size w w' := by
  obtain ⟨A, cap, rfl, h1, h2⟩ := h.form
  obtain ⟨A', cap', rfl, h1', h2'⟩ := k.form
  unfold maxLen at h2 h2'
  have H := h.take 40
  have K := k.take 40
  have hX : (xs.take 40).length ≤ 40 := by simp; omega
  have hL : (ls.take 40).length ≤ 40 := by simp; omega
  have e1 := min40' xs
  have e2 := min40' ls
  generalize xs.take 40 = X at *
  generalize ls.take 40 = L at *
  replace H := hid H
  replace K := hid K
  clear h k
  go_enter Tryd.func4, Tryd.ntmps4
  go_wp2_with fail
  go_quiet (fail)
  clear e1 e2
  have b0 := hid (below_drewN (Below.refl w.heap.size w) nq)
  have hX := hid hX
  have hL := hid hL
  go_wp2_with fail
  refine (cloneS X _ _ (H.out.below b0.out) (by have := hX.out; omega)).mono ?_
  rintro e w1 ⟨v7, rfl, o1, g1⟩
  have b1 := hid (below_seq b0.out g1)
  have s1 := hid (Sl.of_owns o1)
  obtain ⟨A7, c7, rfl⟩ := own_slice o1
  clear o1 g1
  go_wp2_with fail
  refine (cloneS L _ _ (K.out.below b1.out) (by have := hL.out; omega)).mono ?_
  rintro e w2 ⟨v8, rfl, o2, g2⟩
  have b2 := hid (below_seq b1.out g2)
  have s2 := hid (Sl.of_owns o2)
  have s1 := hid (s1.out.below g2)
  obtain ⟨A8, c8, rfl⟩ := own_slice o2
  clear o2 g2
  go_wp2_with fail
  refine (note X L _ _ b _ s1.out s2.out (by have := hX.out; have := hL.out; omega)).mono ?_
  rintro e w3 ⟨v9, rfl, o3, g3⟩
  have b3 := hid (below_seq b2.out g3)
  have s3 := hid (Sl.of_owns o3)
  have s1 := hid (s1.out.below g3)
  have s2 := hid (s2.out.below g3)
  obtain ⟨A9, c9, rfl⟩ := own_slice o3
  clear o3 g3
  go_wp2_with fail
  refine (refNote X L _ _ b _ (H.out.below b3.out) (K.out.below b3.out) hX.out hL.out).mono ?_
  rintro e w4 ⟨v10, rfl, o4, g4⟩
  rw [← note_is_ref] at o4
  have b4 := hid (below_seq b3.out g4)
  have s4 := hid (Sl.of_owns o4)
  have s3 := hid (s3.out.below g4)
  have s1 := hid (s1.out.below g4)
  have s2 := hid (s2.out.below g4)
  obtain ⟨A10, c10, rfl⟩ := own_slice o4
  clear o4 g4
  go_wp2_with fail
  refine (equal_yes _ _ _ _ s3.out s4.out).mono ?_
  rintro e w5 ⟨rfl, n5, rfl⟩
  have b5 := hid (below_drewN b4.out n5)
  have x5 := hid (below_drewN (Below.refl w4.heap.size w4) n5)
  go_wp2_with fail
  refine (equal_yes _ _ _ _ (s1.out.below x5.out) (H.out.below b5.out)).mono ?_
  rintro e w6 ⟨rfl, n6, hw6⟩
  rw [World.drewN_drewN] at hw6
  subst hw6
  have b6 := hid (below_drewN b4.out (n5 + n6))
  have x6 := hid (below_drewN (Below.refl w4.heap.size w4) (n5 + n6))
  go_wp2_with fail
  refine (equal_yes _ _ _ _ (s2.out.below x6.out) (K.out.below b6.out)).mono ?_
  rintro e w7 ⟨rfl, n7, hw7⟩
  rw [World.drewN_drewN] at hw7
  subst hw7
  have b7 := hid (below_drewN b4.out (n5 + n6 + n7))
  go_wp2_with fail
  refine (awake20 _).mono ?_
  rintro e w8 ⟨rfl, b8⟩
  have b9 := hid (below_seq b7.out b8)
  go_wp2
  go_ret
  exact ⟨rfl, b9.out⟩
end Go.Proofs.YtoilokfpfmicaaaDoor
