/- The plain law of ledgers. No program in sight. -/
import Derived.Test.YtoilokfpfmicaaaDoorSpotNote
set_option linter.unusedVariables false
set_option linter.unusedSimpArgs false
namespace Go.Proofs.YtoilokfpfmicaaaDoor
open Go.RowKit Go.ChangeMaps

theorem upC_mem {α : Type} [DecidableEq α] {xs : List α} {x : α} : ∀ j, x ∈ upC xs j ↔ x ∈ xs.take j
  | 0 => by simp [upC]
  | j + 1 => by
    have ih := upC_mem (xs := xs) (x := x) j
    rw [upC, List.mem_append, ih, List.take_add_one, List.mem_append]
    cases h : xs[j]? with
    | none => simp
    | some y =>
      simp only [Option.toList_some, List.mem_singleton]
      split
      · rename_i hh
        constructor
        · rintro (h1 | h1)
          · exact .inl h1
          · cases h1
        · rintro (h1 | h1)
          · exact .inl h1
          · left
            subst h1
            exact List.mem_of_getElem? (show (xs.take j)[j - 1]? = some x by rw [List.getElem?_take_of_lt (by have := hh.1; omega)]; exact hh.2)
      · simp
theorem noteL_mem {xs ls : List (ByteArray × Int)} {b : Bool} {x : ByteArray × Int} : x ∈ noteL xs ls b ↔ x ∈ noteM xs ls b := by
  unfold noteL
  rw [upC_mem, List.take_of_length_le (by rw [sortS_len]; exact Nat.le_refl _)]
  exact (sortS_perm _).mem_iff
theorem note_add {xs ls : List (ByteArray × Int)} {x : ByteArray × Int} : x ∈ noteL xs ls true ↔ x ∈ xs ∨ x ∈ ls := by
  rw [noteL_mem]
  simp [noteM]
theorem note_out {xs ls : List (ByteArray × Int)} {x : ByteArray × Int} : x ∈ noteL xs ls false ↔ x ∈ xs ∧ x ∉ ls := by
  rw [noteL_mem]
  simp only [noteM, Bool.false_eq_true, if_false, List.mem_filter, Bool.not_eq_true', ← Bool.not_eq_true, inL_iff]
theorem noteL_len (xs ls : List (ByteArray × Int)) (b : Bool) : (noteL xs ls b).length ≤ (noteM xs ls b).length := upC_len _ _
theorem noteL_len_add (xs ls : List (ByteArray × Int)) : (noteL xs ls true).length ≤ xs.length + ls.length := by
  have := noteL_len xs ls true
  simpa [noteM] using this
theorem noteL_len_out (xs ls : List (ByteArray × Int)) : (noteL xs ls false).length ≤ xs.length :=
  Nat.le_trans (noteL_len xs ls false) (List.length_filter_le _ _)
theorem Sl.take {α : Type} {enc : α → List Value} {w : World} {A : Option Addr} {n cap : Nat} {xs : List α} (h : Sl enc w (.slice A n cap) xs) (k : Nat) : Sl enc w (.slice A (xs.take k).length cap) (xs.take k) := by
  obtain ⟨A', cap', hv, h1, h2, h3⟩ := h
  cases hv
  refine ⟨A, cap, rfl, by simp; omega, h2, fun hne => ?_⟩
  obtain ⟨b, o, e, r⟩ := h3 (by rintro rfl; simp at hne)
  refine ⟨b, o, e, fun j u hu => r j u ?_⟩
  have e2 : xs.flatMap enc = (xs.take k).flatMap enc ++ (xs.drop k).flatMap enc := by rw [← List.flatMap_append, List.take_append_drop]
  rw [e2, List.getElem?_append_left (List.getElem?_eq_some_iff.1 hu).1]
  exact hu
end Go.Proofs.YtoilokfpfmicaaaDoor
