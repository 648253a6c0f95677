/- The reference's ledgers: what it inserts one by one. No program in sight. -/
import Derived.Test.YtoilokfpfmicaaaDoorSpotLt
set_option linter.unusedVariables false
set_option linter.unusedSimpArgs false
namespace Go.Proofs.YtoilokfpfmicaaaDoor
open Go.RowKit

abbrev SpotL := ByteArray × Int
/-- Whether s stands ahead of what is at place k. -/
def aheadAt (out : List SpotL) (s : SpotL) (k : Nat) : Bool := match out[k]? with | some x => decide (sLt s x) | none => false
/-- Where an extent goes among the first k. -/
def posOf (out : List SpotL) (s : SpotL) : Nat → Nat
  | 0 => 0
  | k + 1 => if aheadAt out s k = true then posOf out s k else k + 1
theorem posOf_le (out : List SpotL) (s : SpotL) : ∀ k, posOf out s k ≤ k
  | 0 => Nat.le_refl _
  | k + 1 => by
    unfold posOf
    split
    · exact Nat.le_succ_of_le (posOf_le out s k)
    · exact Nat.le_refl _
theorem posOf_step {out : List SpotL} {s : SpotL} {k : Nat} (h : aheadAt out s k = true) : posOf out s (k + 1) = posOf out s k := by rw [posOf, if_pos h]
theorem posOf_stop {out : List SpotL} {s : SpotL} {k : Nat} (h : aheadAt out s k = false) : posOf out s (k + 1) = k + 1 := by rw [posOf, if_neg (by rw [h]; decide)]
theorem posOf_above {out : List SpotL} {s : SpotL} : ∀ {k j : Nat}, posOf out s k ≤ j → j < k → aheadAt out s j = true
  | 0, j, _, h => by omega
  | k + 1, j, h1, h2 => by
    by_cases hk : aheadAt out s k = true
    · rw [posOf_step hk] at h1
      by_cases hj : j = k
      · subst hj; exact hk
      · exact posOf_above h1 (by omega)
    · rw [posOf_stop (by simpa using hk)] at h1
      omega
theorem posOf_below {out : List SpotL} {s : SpotL} : ∀ {k : Nat}, 0 < posOf out s k → aheadAt out s (posOf out s k - 1) = false
  | 0, h => by simp [posOf] at h
  | k + 1, h => by
    by_cases hk : aheadAt out s k = true
    · rw [posOf_step hk] at h ⊢
      exact posOf_below h
    · rw [posOf_stop (by simpa using hk)]
      simpa using hk
def insS (out : List SpotL) (s : SpotL) : List SpotL := out.take (posOf out s out.length) ++ [s] ++ out.drop (posOf out s out.length)
theorem insS_len (out : List SpotL) (s : SpotL) : (insS out s).length = out.length + 1 := by
  have := posOf_le out s out.length
  unfold insS
  simp
  omega
theorem insS_mem {out : List SpotL} {s x : SpotL} : x ∈ insS out s ↔ x = s ∨ x ∈ out := by
  unfold insS
  have : x ∈ out ↔ x ∈ out.take (posOf out s out.length) ∨ x ∈ out.drop (posOf out s out.length) := by
    rw [← List.mem_append, List.take_append_drop]
  rw [this]
  simp only [List.mem_append, List.mem_singleton]
  constructor
  · rintro ((h | h) | h)
    · exact .inr (.inl h)
    · exact .inl h
    · exact .inr (.inr h)
  · rintro (h | h | h)
    · exact .inl (.inr h)
    · exact .inl (.inl h)
    · exact .inr h
theorem insS_sorted {out : List SpotL} {s : SpotL} (h : out.Pairwise sLt) (hs : s ∉ out) : (insS out s).Pairwise sLt := by
  have hle := posOf_le out s out.length
  have h1 : ∀ x ∈ out.drop (posOf out s out.length), sLt s x := by
    intro x hx
    obtain ⟨j, hj, rfl⟩ := List.mem_iff_getElem.1 hx
    simp only [List.length_drop] at hj
    have ha := posOf_above (out := out) (s := s) (k := out.length) (j := posOf out s out.length + j) (by omega) (by omega)
    unfold aheadAt at ha
    rw [List.getElem?_eq_getElem (by omega)] at ha
    simpa using ha
  have h2 : ∀ x ∈ out.take (posOf out s out.length), sLt x s := by
    intro x hx
    have hp : 0 < posOf out s out.length := by
      rcases Nat.eq_zero_or_pos (posOf out s out.length) with e | e
      · rw [e] at hx; simp at hx
      · exact e
    have hb := posOf_below hp
    unfold aheadAt at hb
    have hlt : posOf out s out.length - 1 < out.length := by omega
    rw [List.getElem?_eq_getElem hlt] at hb
    have hb' : ¬ sLt s out[posOf out s out.length - 1] := of_decide_eq_false hb
    have hl : sLt out[posOf out s out.length - 1] s := by
      by_cases e : sLt out[posOf out s out.length - 1] s
      · exact e
      · exact absurd (sLt_total hb' e ▸ List.getElem_mem hlt) hs
    obtain ⟨j, hj, rfl⟩ := List.mem_iff_getElem.1 hx
    simp only [List.length_take] at hj
    rw [List.getElem_take]
    by_cases hjp : j = posOf out s out.length - 1
    · subst hjp; exact hl
    · exact sLt_trans (List.pairwise_iff_getElem.1 h j (posOf out s out.length - 1) (by omega) hlt (by omega)) hl
  have hp : (out.take (posOf out s out.length) ++ out.drop (posOf out s out.length)).Pairwise sLt := by rw [List.take_append_drop]; exact h
  rw [List.pairwise_append] at hp
  unfold insS
  rw [List.append_assoc, List.pairwise_append]
  refine ⟨hp.1, ?_, ?_⟩
  · rw [List.pairwise_append]
    exact ⟨List.pairwise_singleton _ _, hp.2.1, fun a ha b hb => by rw [List.mem_singleton] at ha; subst ha; exact h1 b hb⟩
  · intro a ha b hb
    rcases List.mem_append.1 hb with hb | hb
    · rw [List.mem_singleton] at hb; subst hb; exact h2 a ha
    · exact hp.2.2 a ha b hb
/-- Whether it is left out. -/
def skipS (ls : List SpotL) (b : Bool) (out : List SpotL) (s : SpotL) : Bool := inL out s || (!b && inL ls s)
def refStep (ls : List SpotL) (b : Bool) (out : List SpotL) (s : SpotL) : List SpotL := if skipS ls b out s = true then out else insS out s
theorem refStep_skip {ls : List SpotL} {b : Bool} {out : List SpotL} {s : SpotL} (h : skipS ls b out s = true) : refStep ls b out s = out := by rw [refStep, if_pos h]
theorem refStep_ins {ls : List SpotL} {b : Bool} {out : List SpotL} {s : SpotL} (h : skipS ls b out s = false) : refStep ls b out s = insS out s := by rw [refStep, if_neg (by rw [h]; decide)]
def refAll (xs ls : List SpotL) (b : Bool) : List SpotL := if b = true then xs ++ ls else xs
def refFold (ls : List SpotL) (b : Bool) (all : List SpotL) : List SpotL := all.foldl (refStep ls b) []
theorem refFold_snoc {ls : List SpotL} {b : Bool} {all : List SpotL} {k : Nat} {s : SpotL} (h : all[k]? = some s) : refFold ls b (all.take (k + 1)) = refStep ls b (refFold ls b (all.take k)) s := by
  unfold refFold
  rw [List.take_add_one, h]
  simp
theorem refStep_len (ls : List SpotL) (b : Bool) (out : List SpotL) (s : SpotL) : (refStep ls b out s).length ≤ out.length + 1 := by
  unfold refStep
  split
  · omega
  · rw [insS_len]; omega
theorem refFold_len (ls : List SpotL) (b : Bool) (all : List SpotL) : ∀ k, (refFold ls b (all.take k)).length ≤ k
  | 0 => by simp [refFold]
  | k + 1 => by
    cases h : all[k]? with
    | none =>
      rw [List.take_add_one, h]
      simpa using Nat.le_succ_of_le (refFold_len ls b all k)
    | some s =>
      rw [refFold_snoc h]
      have := refStep_len ls b (refFold ls b (all.take k)) s
      have := refFold_len ls b all k
      omega
theorem refFold_sorted (ls : List SpotL) (b : Bool) (all : List SpotL) : ∀ k, (refFold ls b (all.take k)).Pairwise sLt
  | 0 => by simp [refFold]
  | k + 1 => by
    cases h : all[k]? with
    | none =>
      rw [List.take_add_one, h]
      simpa using refFold_sorted ls b all k
    | some s =>
      rw [refFold_snoc h]
      have ih := refFold_sorted ls b all k
      cases hs : skipS ls b (refFold ls b (all.take k)) s with
      | true => rw [refStep_skip hs]; exact ih
      | false =>
        rw [refStep_ins hs]
        refine insS_sorted ih fun hm => ?_
        unfold skipS at hs
        rw [inL_true hm] at hs
        cases hs
theorem refFold_mem (ls : List SpotL) (b : Bool) (all : List SpotL) (x : SpotL) : ∀ k, x ∈ refFold ls b (all.take k) ↔ x ∈ all.take k ∧ (b = true ∨ x ∉ ls)
  | 0 => by simp [refFold]
  | k + 1 => by
    have ih := refFold_mem ls b all x k
    cases h : all[k]? with
    | none =>
      rw [List.take_add_one, h]
      simpa using ih
    | some s =>
      rw [refFold_snoc h, List.take_add_one, h]
      simp only [Option.toList_some, List.mem_append, List.mem_singleton]
      have hno : ∀ y : SpotL, inL ls y = true ↔ y ∈ ls := fun y => inL_iff
      cases hs : skipS ls b (refFold ls b (all.take k)) s with
      | true =>
        rw [refStep_skip hs, ih]
        unfold skipS at hs
        simp only [Bool.or_eq_true, Bool.and_eq_true, Bool.not_eq_true'] at hs
        rcases hs with hs | ⟨hb, hs⟩
        · have hm := inL_iff.1 hs
          constructor
          · rintro ⟨h1, h2⟩; exact ⟨.inl h1, h2⟩
          · rintro ⟨h1 | h1, h2⟩
            · exact ⟨h1, h2⟩
            · subst h1; exact (ih.1 hm)
        · constructor
          · rintro ⟨h1, h2⟩; exact ⟨.inl h1, h2⟩
          · rintro ⟨h1 | h1, h2⟩
            · exact ⟨h1, h2⟩
            · subst h1
              rcases h2 with h2 | h2
              · rw [hb] at h2; cases h2
              · exact absurd ((hno x).1 hs) h2
      | false =>
        rw [refStep_ins hs, insS_mem, ih]
        unfold skipS at hs
        simp only [Bool.or_eq_false_iff, Bool.and_eq_false_iff, Bool.not_eq_false'] at hs
        constructor
        · rintro (h1 | ⟨h1, h2⟩)
          · subst h1
            refine ⟨.inr rfl, ?_⟩
            rcases hs.2 with h2 | h2
            · exact .inl h2
            · exact .inr fun hm => by rw [inL_true hm] at h2; cases h2
          · exact ⟨.inl h1, h2⟩
        · rintro ⟨h1 | h1, h2⟩
          · exact .inr ⟨h1, h2⟩
          · exact .inl h1
theorem sorted_same : ∀ {l m : List SpotL}, l.Pairwise sLt → m.Pairwise sLt → (∀ x, x ∈ l ↔ x ∈ m) → l = m
  | [], [], _, _, _ => rfl
  | [], b :: m, _, _, h => by have := (h b).2 (by simp); simp at this
  | a :: l, [], _, _, h => by have := (h a).1 (by simp); simp at this
  | a :: l, b :: m, hl, hm, h => by
    rw [List.pairwise_cons] at hl hm
    have hab : a = b := by
      have h1 := (h a).1 (by simp)
      have h2 := (h b).2 (by simp)
      rcases List.mem_cons.1 h1 with e | e1
      · exact e
      · rcases List.mem_cons.1 h2 with e | e2
        · exact e.symm
        · exact absurd (hl.1 b e2) (sLt_asymm (hm.1 a e1))
    subst hab
    refine congrArg _ (sorted_same hl.2 hm.2 fun x => ?_)
    constructor
    · intro hx
      rcases List.mem_cons.1 ((h x).1 (List.mem_cons_of_mem _ hx)) with e | e
      · subst e; exact absurd (hl.1 x hx) (sLt_irrefl x)
      · exact e
    · intro hx
      rcases List.mem_cons.1 ((h x).2 (List.mem_cons_of_mem _ hx)) with e | e
      · subst e; exact absurd (hm.1 x hx) (sLt_irrefl x)
      · exact e
end Go.Proofs.YtoilokfpfmicaaaDoor
