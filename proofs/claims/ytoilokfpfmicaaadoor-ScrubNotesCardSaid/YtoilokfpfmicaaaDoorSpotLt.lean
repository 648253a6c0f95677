/- The order of extents: by name, then by place. No program in sight. -/
import Derived.Test.YtoilokfpfmicaaaDoorSpots
set_option linter.unusedVariables false
set_option linter.unusedSimpArgs false
namespace Go.Proofs.YtoilokfpfmicaaaDoor
open Go.RowKit

def sLt (x y : ByteArray × Int) : Prop := x.1.toList < y.1.toList ∨ (x.1.toList = y.1.toList ∧ x.2 < y.2)
instance (x y : ByteArray × Int) : Decidable (sLt x y) := by unfold sLt; exact inferInstance
theorem sLt_irrefl (x : ByteArray × Int) : ¬ sLt x x := by
  rintro (h | ⟨_, h⟩)
  · exact List.lt_irrefl _ h
  · omega
theorem sLt_trans {x y z : ByteArray × Int} (h : sLt x y) (k : sLt y z) : sLt x z := by
  rcases h with h | ⟨h1, h2⟩ <;> rcases k with k | ⟨k1, k2⟩
  · exact .inl (List.lt_trans h k)
  · exact .inl (k1 ▸ h)
  · exact .inl (h1 ▸ k)
  · exact .inr ⟨h1.trans k1, by omega⟩
theorem sLt_total {x y : ByteArray × Int} (h : ¬ sLt x y) (k : ¬ sLt y x) : x = y := by
  unfold sLt at h k
  have h1 : ¬ x.1.toList < y.1.toList := fun e => h (.inl e)
  have h2 : ¬ y.1.toList < x.1.toList := fun e => k (.inl e)
  have he : x.1.toList = y.1.toList := List.le_antisymm (List.not_lt.1 h2) (List.not_lt.1 h1)
  have h3 : ¬ x.2 < y.2 := fun e => h (.inr ⟨he, e⟩)
  have h4 : ¬ y.2 < x.2 := fun e => k (.inr ⟨he.symm, e⟩)
  exact Prod.ext (toL_inj he) (by omega)
theorem sLt_asymm {x y : ByteArray × Int} (h : sLt x y) : ¬ sLt y x := fun k => sLt_irrefl x (sLt_trans h k)
theorem sLt_ntrans {x y z : ByteArray × Int} (h : ¬ sLt x y) (k : ¬ sLt y z) : ¬ sLt x z := by
  intro e
  by_cases hyx : sLt y x
  · exact k (sLt_trans hyx e)
  · exact k (sLt_total h hyx ▸ e)
theorem inL_true {α : Type} [DecidableEq α] {xs : List α} {x : α} (h : x ∈ xs) : inL xs x = true := inL_iff.2 h
theorem inL_false {α : Type} [DecidableEq α] {xs : List α} {x : α} (h : x ∉ xs) : inL xs x = false := by
  cases e : inL xs x with
  | false => rfl
  | true => exact absurd (inL_iff.1 e) h
end Go.Proofs.YtoilokfpfmicaaaDoor
