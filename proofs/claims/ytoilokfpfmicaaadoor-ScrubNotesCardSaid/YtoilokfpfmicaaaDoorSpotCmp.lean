import Derived.Test.YtoilokfpfmicaaaDoorCmp
import Derived.Test.YtoilokfpfmicaaaDoorReg2
set_option linter.unusedVariables false
set_option linter.unusedSimpArgs false
namespace Go.Proofs.YtoilokfpfmicaaaDoor
open Go.RowKit
set_option maxHeartbeats 400000
theorem follows : Tryd.prog.follows .mixedOrders = true := by kernel_rfl
theorem cmpNote (x y : ByteArray × Int) (w : World) : Calls Tryd.prog 19 #[.agg (encS x).toArray, .agg (encS y).toArray] w fun e w' => e = .returned (.int .i64 (orI (cmpS x.1 y.1) (cmpI x.2 y.2))) ∧ Gw w w' := by
  obtain ⟨n1, i1⟩ := x
  obtain ⟨n2, i2⟩ := y
  have hw0 := (Gw.alloc_of w (.cells #[.string n1, .int .i64 i1] 25)).alloc (.cells #[.string n2, .int .i64 i2] 25)
  have g1 : ((w.alloc (.cells #[.string n1, .int .i64 i1] 25)).alloc (.cells #[.string n2, .int .i64 i2] 25)).cell? ⟨w.heap.size, 0, none⟩ = some (.string n1) := cell_old (by rw [cell_box]; rfl)
  have g2 : ((w.alloc (.cells #[.string n1, .int .i64 i1] 25)).alloc (.cells #[.string n2, .int .i64 i2] 25)).cell? ⟨w.heap.size, 1, none⟩ = some (.int .i64 i1) := cell_old (by rw [cell_box]; rfl)
  have g3 : ((w.alloc (.cells #[.string n1, .int .i64 i1] 25)).alloc (.cells #[.string n2, .int .i64 i2] 25)).cell? ⟨w.heap.size + 1, 0, none⟩ = some (.string n2) := by
    simp
  have g4 : ((w.alloc (.cells #[.string n1, .int .i64 i1] 25)).alloc (.cells #[.string n2, .int .i64 i2] 25)).cell? ⟨w.heap.size + 1, 1, none⟩ = some (.int .i64 i2) := by
    simp
  have hsz : ((w.alloc (.cells #[.string n1, .int .i64 i1] 25)).alloc (.cells #[.string n2, .int .i64 i2] 25)).heap.size = w.heap.size + 2 := by simp
  change Calls _ _ #[.agg #[.string n1, .int .i64 i1], .agg #[.string n2, .int .i64 i2]] _ _
  go_enter Tryd.func19, Tryd.ntmps19
  go_wp2_with fail
  generalize (w.alloc (.cells #[.string n1, .int .i64 i1] 25)).alloc (.cells #[.string n2, .int .i64 i2] 25) = W0 at *
  generalize w.heap.size = h at *
  have key : ∀ (b : Bool) (r : Array Value) (j : Nat) (v : Value) (k : Nat), W0.cell? ⟨k, j, none⟩ = some v → (if b = true then (W0.alloc (.cells r 3)).drew else W0.drew).cell? ⟨k, j, none⟩ = some v := fun b r j v k hc => by
    cases b
    · exact hc
    · exact cell_old (o := .cells r 3) hc
  refine wp_region_F [.pointer (some ⟨h, 0, none⟩), .string n1, .pointer (some ⟨h + 1, 0, none⟩), .string n2, .int .i64 (cmpS n1 n2), .pointer (some ⟨h, 1, none⟩), .int .i64 i1, .pointer (some ⟨h + 1, 1, none⟩), .int .i64 i2, .int .i64 (cmpI i1 i2), .slice (some ⟨h + 2, 0, none⟩) 2 2, .int .i64 (orI (cmpS n1 n2) (cmpI i1 i2)), .int .i64 (orI (cmpS n1 n2) (cmpI i1 i2))]
    (fun L W => W = if L 10 = true then (W0.alloc (.cells #[.int .i64 (cmpS n1 n2), .int .i64 (cmpI i1 i2)] 3)).drew else W0.drew) follows (by kernel_rfl) rfl (by simp) ?_
  intro aS hS
  simp only [putAll, Act.put, List.setIfInBounds_toArray, List.set_cons_zero, List.set_cons_succ] at hS
  subst hS
  refine ⟨?_, ?_⟩
  · simp only [stepF, and_true]
    refine ⟨?_, ?_, ?_, ?_, ?_, ?_, ?_, ?_, ?_, ?_, ?_, ?_, ?_⟩
    all_goals
      intro L W hL hp hcl hJ
      rw [if_pos (by rfl)]
    case refine_2 =>
      have g := key (L 10) #[.int .i64 (cmpS n1 n2), .int .i64 (cmpI i1 i2)] _ _ _ g1
      rw [← hJ] at g
      exact does_val (w' := W) (by simp [execOp, Act.eval, go_sem, g]) ⟨rfl, by subst hJ; simp [upd]⟩
    case refine_4 =>
      have g := key (L 10) #[.int .i64 (cmpS n1 n2), .int .i64 (cmpI i1 i2)] _ _ _ g3
      rw [← hJ] at g
      exact does_val (w' := W) (by simp [execOp, Act.eval, go_sem, g]) ⟨rfl, by subst hJ; simp [upd]⟩
    case refine_7 =>
      have g := key (L 10) #[.int .i64 (cmpS n1 n2), .int .i64 (cmpI i1 i2)] _ _ _ g2
      rw [← hJ] at g
      exact does_val (w' := W) (by simp [execOp, Act.eval, go_sem, g]) ⟨rfl, by subst hJ; simp [upd]⟩
    case refine_9 =>
      have g := key (L 10) #[.int .i64 (cmpS n1 n2), .int .i64 (cmpI i1 i2)] _ _ _ g4
      rw [← hJ] at g
      exact does_val (w' := W) (by simp [execOp, Act.eval, go_sem, g]) ⟨rfl, by subst hJ; simp [upd]⟩
    case refine_5 =>
      refine does_call (f := 21) (args := #[.string n1, .string n2]) (w' := W) (by simp [execOp, Act.eval, go_sem]) ((compareS n1 n2 W).mono ?_)
      rintro e w' ⟨rfl, rfl⟩
      exact ⟨_, rfl, rfl, by subst hJ; simp [upd]⟩
    case refine_10 =>
      refine does_call (f := 22) (args := #[.int .i64 i1, .int .i64 i2]) (w' := W) (by simp [execOp, Act.eval, go_sem]) ((compareI i1 i2 W).mono ?_)
      rintro e w' ⟨rfl, rfl⟩
      exact ⟨_, rfl, rfl, by subst hJ; simp [upd]⟩
    case refine_11 =>
      refine does_val (w' := (W0.alloc (.cells #[.int .i64 (cmpS n1 n2), .int .i64 (cmpI i1 i2)] 3)).drew) ?_ ⟨rfl, by simp [upd]⟩
      rw [hL] at hJ
      subst hJ
      simp [execOp, Act.eval, go_sem, hsz]
    case refine_12 =>
      have h10 : L 10 = true := hp ⟨10, .data⟩ (by simp) rfl
      rw [if_pos h10] at hJ
      have k1 : W.cell? ⟨h + 2, 0, none⟩ = some (.int .i64 (cmpS n1 n2)) := by
        subst hJ
        have := cell_box W0 #[.int .i64 (cmpS n1 n2), .int .i64 (cmpI i1 i2)] 3 (0, 0) 0
        rw [hsz] at this
        exact this
      have k2 : W.cell? ⟨h + 2, 1, none⟩ = some (.int .i64 (cmpI i1 i2)) := by
        subst hJ
        have := cell_box W0 #[.int .i64 (cmpS n1 n2), .int .i64 (cmpI i1 i2)] 3 (0, 0) 1
        rw [hsz] at this
        exact this
      refine does_call (f := 20) (args := #[.slice (some ⟨h + 2, 0, none⟩) 2 2]) (w' := W) (by simp [execOp, Act.eval, go_sem]) ((orTwo _ _ _ W k1 k2).mono ?_)
      rintro e w' ⟨rfl, rfl⟩
      exact ⟨_, rfl, rfl, by subst hJ; simp [upd, h10]⟩
    all_goals
      exact does_val (w' := W) (by simp [execOp, Act.eval, go_sem]) ⟨rfl, by subst hJ; simp [upd]⟩
  · intro L W hall hJ
    rw [if_pos (hall 10 (by simp))] at hJ
    subst hJ
    have hend := hid ((hw0.alloc (.cells #[.int .i64 (cmpS n1 n2), .int .i64 (cmpI i1 i2)] 3)).drewN 1)
    clear g1 g2 g3 g4 key hsz hw0
    go_wp2
    go_ret
    exact ⟨rfl, hend.out⟩

end Go.Proofs.YtoilokfpfmicaaaDoor
