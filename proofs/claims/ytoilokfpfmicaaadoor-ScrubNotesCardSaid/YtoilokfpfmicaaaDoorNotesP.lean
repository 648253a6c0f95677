/- The plain law of the reference's ledgers: what it inserts one by one is what sorting makes. No program in sight. -/
import Derived.Test.YtoilokfpfmicaaaDoorLedgerP
import Derived.Test.YtoilokfpfmicaaaDoorNotesQ
set_option linter.unusedVariables false
set_option linter.unusedSimpArgs false
namespace Go.Proofs.YtoilokfpfmicaaaDoor
open Go.RowKit Go.ChangeMaps

theorem upC_sorted {xs : List SpotL} (h : xs.Pairwise fun x y => ¬ sLt y x) : ∀ j, (upC xs j).Pairwise sLt
  | 0 => by simp [upC]
  | j + 1 => by
    have ih := upC_sorted h j
    rw [upC]
    cases hx : xs[j]? with
    | none => simpa using ih
    | some y =>
      simp only
      split
      · simpa using ih
      · rename_i hn
        rw [List.pairwise_append]
        refine ⟨ih, List.pairwise_singleton _ _, fun a ha b hb => ?_⟩
        rw [List.mem_singleton] at hb
        subst hb
        have hm := (upC_mem j).1 ha
        obtain ⟨i, hi, rfl⟩ := List.mem_iff_getElem.1 hm
        simp only [List.length_take] at hi
        rw [List.getElem_take]
        obtain ⟨hj, rfl⟩ := List.getElem?_eq_some_iff.1 hx
        have hp := List.pairwise_iff_getElem.1 h
        have h1 : ¬ sLt xs[j] xs[i] := hp i j (by omega) hj (by omega)
        by_cases e : sLt xs[i] xs[j]
        · exact e
        · exfalso
          have heq : xs[i] = xs[j] := sLt_total e h1
          refine hn ⟨by omega, ?_⟩
          rw [List.getElem?_eq_getElem (by omega)]
          congr 1
          have hb : ¬ sLt xs[j] xs[j - 1] := hp (j - 1) j (by omega) hj (by omega)
          by_cases hij : i = j - 1
          · subst hij; exact heq
          · have ha : ¬ sLt xs[j - 1] xs[i] := hp i (j - 1) (by omega) (by omega) (by omega)
            rw [heq] at ha
            exact sLt_total ha hb
theorem note_is_ref (xs ls : List SpotL) (b : Bool) : noteL xs ls b = refFold ls b (refAll xs ls b) := by
  have hs : (refFold ls b (refAll xs ls b)).Pairwise sLt := by
    have := refFold_sorted ls b (refAll xs ls b) (refAll xs ls b).length
    rwa [List.take_length] at this
  refine sorted_same (upC_sorted (sortS_sorted _) _) hs fun x => ?_
  have hm := refFold_mem ls b (refAll xs ls b) x (refAll xs ls b).length
  rw [List.take_length] at hm
  rw [hm]
  cases b with
  | true =>
    have h1 : x ∈ noteL xs ls true ↔ x ∈ xs ∨ x ∈ ls := note_add
    show x ∈ noteL xs ls true ↔ _
    rw [h1]
    simp [refAll]
  | false =>
    have h1 : x ∈ noteL xs ls false ↔ x ∈ xs ∧ x ∉ ls := note_out
    show x ∈ noteL xs ls false ↔ _
    rw [h1]
    simp [refAll]
end Go.Proofs.YtoilokfpfmicaaaDoor
