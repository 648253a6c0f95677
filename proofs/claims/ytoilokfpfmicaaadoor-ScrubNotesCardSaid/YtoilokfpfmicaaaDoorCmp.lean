/- cmp.Compare at texts and numbers, cmp.Or of two. -/
import Derived.Test.YtoilokfpfmicaaaDoorSpots
set_option linter.unusedVariables false
set_option linter.unusedSimpArgs false
namespace Go.Proofs.YtoilokfpfmicaaaDoor
open Go.RowKit
set_option maxHeartbeats 400000

def cmpS (a b : ByteArray) : Int := if Op.bytesLess a.toList b.toList then -1 else if a.toList == b.toList then 0 else 1
def cmpI (a b : Int) : Int := if a < b then -1 else if a = b then 0 else 1
theorem nanS (a : ByteArray) (w : World) : Calls Tryd.prog 49 #[.string a] w fun e w' => e = .returned (.bool false) ∧ w = w' := by
  go_enter Tryd.func49, Tryd.ntmps49
  go_wp2
  go_ret
  simp
theorem nanI (a : Int) (w : World) : Calls Tryd.prog 50 #[.int .i64 a] w fun e w' => e = .returned (.bool false) ∧ w = w' := by
  go_enter Tryd.func50, Tryd.ntmps50
  go_wp2
  go_ret
  simp
theorem compareS (a b : ByteArray) (w : World) : Calls Tryd.prog 21 #[.string a, .string b] w fun e w' => e = .returned (.int .i64 (cmpS a b)) ∧ w = w' := by
  unfold cmpS
  cases h1 : Op.bytesLess a.toList b.toList with
  | true =>
    go_enter Tryd.func21, Tryd.ntmps21
    go_wp2_with (go_at_call 49; refine (nanS _ _).mono ?_; rintro e w' ⟨rfl, rfl⟩)
    go_ret
    simp
  | false =>
    cases h2 : a.toList == b.toList with
    | true =>
      go_enter Tryd.func21, Tryd.ntmps21
      go_wp2_with (go_at_call 49; refine (nanS _ _).mono ?_; rintro e w' ⟨rfl, rfl⟩)
      go_ret
      simp
    | false =>
      go_enter Tryd.func21, Tryd.ntmps21
      go_wp2_with (go_at_call 49; refine (nanS _ _).mono ?_; rintro e w' ⟨rfl, rfl⟩)
      go_ret
      simp
theorem compareI (a b : Int) (w : World) : Calls Tryd.prog 22 #[.int .i64 a, .int .i64 b] w fun e w' => e = .returned (.int .i64 (cmpI a b)) ∧ w = w' := by
  unfold cmpI
  by_cases h1 : a < b
  · go_enter Tryd.func22, Tryd.ntmps22
    go_wp2_with (go_at_call 50; refine (nanI _ _).mono ?_; rintro e w' ⟨rfl, rfl⟩)
    go_ret
    simp [h1]
  · by_cases h2 : a = b
    · subst h2
      go_enter Tryd.func22, Tryd.ntmps22
      go_wp2_with (go_at_call 50; refine (nanI _ _).mono ?_; rintro e w' ⟨rfl, rfl⟩)
      go_ret
      simp
    · have h3 : a > b := by omega
      go_enter Tryd.func22, Tryd.ntmps22
      go_wp2_with (go_at_call 50; refine (nanI _ _).mono ?_; rintro e w' ⟨rfl, rfl⟩)
      go_ret
      simp [h1, h2]
def orI (a b : Int) : Int := if a = 0 then b else a
theorem orTwo (a b : Int) (k : Nat) (w : World) (h0 : w.cell? ⟨k, 0, none⟩ = some (.int .i64 a)) (h1 : w.cell? ⟨k, 1, none⟩ = some (.int .i64 b)) :
    Calls Tryd.prog 20 #[.slice (some ⟨k, 0, none⟩) 2 2] w fun e w' => e = .returned (.int .i64 (orI a b)) ∧ w = w' := by
  unfold orI
  by_cases ha : a = 0
  · subst ha
    by_cases hb : b = 0
    · subst hb
      go_enter Tryd.func20, Tryd.ntmps20
      go_wp2
      refine wp_loop_rounds 3 ?_
      rw [rounds_succ]
      go_wp2
      rw [rounds_succ]
      go_wp2
      rw [rounds_succ]
      go_wp2
      go_ret
      simp
    · go_enter Tryd.func20, Tryd.ntmps20
      go_wp2
      refine wp_loop_rounds 3 ?_
      rw [rounds_succ]
      go_wp2
      rw [rounds_succ]
      go_wp2
      go_ret
      simp
  · go_enter Tryd.func20, Tryd.ntmps20
    go_wp2
    refine wp_loop_rounds 3 ?_
    rw [rounds_succ]
    go_wp2
    go_ret
    simp [ha]
end Go.Proofs.YtoilokfpfmicaaaDoor
