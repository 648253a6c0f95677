/- What the rows of this seat share: closed facts of the program, extents read as data. -/
import Derived.Test.YtoilokfpfmicaaaDoorChecked
import Derived.Test.YtoilokfpfmicaaaDoorOpen
import Derived.ProofKit
set_option linter.unusedVariables false
set_option linter.unusedSimpArgs false
namespace Go.Proofs.YtoilokfpfmicaaaDoor
open Go.ChangeShapes Go.WideShapes Go.ChangeAt Go.RowKit Go.ChangeMaps

theorem own : ownKnob Tryd.prog.godebug = none := by kernel_rfl
theorem laidOut : laidOutB Tryd.prog = true := by kernel_rfl
set_option maxRecDepth 100000 in
theorem readSpot {H : Type} {enc : TypeId × Value → H} {w : World} {base n : Nat} {sp : Nat → Bool} {held : Bool} {cs : List Value} {x : DataW H × List MemPlace} (h : DataW.trod enc Tryd.prog w base sp held n 25 cs = some x) :
    ∃ a : ByteArray × Int, cs = encS a ∧ (a.1.size ≤ maxLen ∧ (Lit.int .i64 a.2).wf = true) := by
  obtain ⟨hl, hf⟩ := trod_fields Tryd.underlying25 h
  obtain ⟨m0, y0, h0⟩ := hf 0 _ rfl
  obtain ⟨m1, y1, h1⟩ := hf 1 _ rfl
  have hc : Tryd.prog.cellsOf 25 = 2 := by kernel_rfl
  have hs : Tryd.prog.cellsOf 9 = 1 := by kernel_rfl
  have hi : Tryd.prog.cellsOf 3 = 1 := by kernel_rfl
  rw [hc] at hl
  match cs, hl with
  | [a, b], _ =>
    obtain ⟨s, e0, _, hs0⟩ := DataW.trod_string Tryd.underlying9 h0
    obtain ⟨i, e1, _, hi0⟩ := DataW.trod_int Tryd.underlying3 h1
    simp [hs, hi] at e0 e1
    subst e0
    subst e1
    exact ⟨(s, i), rfl, hs0, hi0⟩

theorem cellsSpot : Tryd.prog.cellsOf 25 = 2 := by kernel_rfl
set_option maxRecDepth 100000 in
theorem open_spots {H : Type} {enc : TypeId × Value → H} {w : World} {r : Reach} {b0 base : Nat} {sp : Nat → Bool} {held : Bool} {v : Value} {d : DataW H} {p : List MemPlace}
    (hv : Value.okWide Tryd.prog w r b0 22 v) (h : DataW.Trod enc Tryd.prog w base sp held 22 v d p) : ∃ xs : List (ByteArray × Int), Sl encS w v xs := by
  obtain ⟨xs, hx, _⟩ := open_sl (f := encS) (good := fun a => a.1.size ≤ maxLen ∧ (Lit.int .i64 a.2).wf = true) Tryd.underlying22 cellsSpot (by decide) (fun _ => rfl) hv h (fun n cs x hx => readSpot hx)
  exact ⟨xs, hx⟩
end Go.Proofs.YtoilokfpfmicaaaDoor
