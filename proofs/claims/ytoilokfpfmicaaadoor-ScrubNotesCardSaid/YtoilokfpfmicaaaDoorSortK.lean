/- The shelf's sorted rows in this seat's words. No program in sight. -/
import Derived.Test.YtoilokfpfmicaaaDoorSpots
import Derived.Shelf.SlSortCmp.NoneTotal
set_option linter.unusedVariables false
set_option linter.unusedSimpArgs false
namespace Go.Proofs.YtoilokfpfmicaaaDoor
open Go.RowKit Go.Sort Go.Shelf Go.ChangeMaps
variable {α : Type} [Inhabited α] {enc : α → List Value} {k : Nat}

theorem flatK_eq (hk : ∀ x, (enc x).length = k) (l : List α) : flatK enc k l.toArray = (l.flatMap enc).toArray := by
  refine ext_get! (by simp only [size_flatK, List.size_toArray, len_flat hk]) fun t ht => ?_
  have ht' : t < l.length * k := by simpa using ht
  have k0 : 0 < k := by
    rcases Nat.eq_zero_or_pos k with h | h
    · subst h; simp at ht'
    · exact h
  rw [get_flatK _ _ _ t (by simpa using ht')]
  have hj : t / k < l.length := Nat.div_lt_of_lt_mul (by rw [Nat.mul_comm]; exact ht')
  have hx : l[t / k]? = some l[t / k] := List.getElem?_eq_getElem hj
  have h1 : l.toArray[t / k]! = l[t / k] := by simp [hj]
  rw [h1]
  have h2 := flat_at hk l (t / k) _ hx (t % k) (Nat.mod_lt _ k0)
  have e : t / k * k + t % k = t := by rw [Nat.mul_comm]; exact Nat.div_add_mod t k
  rw [e] at h2
  have hm : t % k < (enc l[t / k]).length := by rw [hk]; exact Nat.mod_lt _ k0
  rw [List.getElem?_eq_getElem hm] at h2
  rw [getElem!_pos (enc l[t / k]) (t % k) hm]
  have ht2 : t < (l.flatMap enc).toArray.size := by rw [List.size_toArray, len_flat hk]; exact ht'
  rw [getElem!_pos (l.flatMap enc).toArray t ht2]
  have : (l.flatMap enc)[t]? = some ((l.flatMap enc).toArray[t]) := by simp [List.getElem?_eq_getElem (l := l.flatMap enc) (by simpa using ht2)]
  rw [this] at h2
  exact (Option.some.inj h2).symm
theorem putCells_at (vs rest l : List Value) (h : l.length = vs.length) : putCells id 0 l.toArray (vs ++ rest).toArray = (l ++ rest).toArray := by
  apply Array.ext
  · simp [putCells, h]
  · intro i h1 h2
    simp only [putCells, Array.getElem_mapIdx]
    by_cases hi : i < l.length
    · simp [hi, List.getElem_append_left hi]
    · simp [hi, h]
      rw [if_neg (by omega), List.getElem_append_right (by omega), List.getElem_append_right (by omega)]
      simp [h]
theorem putRowK_block (hk : ∀ x, (enc x).length = k) {w : World} {b : Nat} {T : TypeId} {f : Nat × Nat} {vs rest : List Value} {ys : List α} (hb : w.heap[b]? = some (.cells (vs ++ rest).toArray T f)) (hl : ys.length * k = vs.length) :
    putRowK enc k w b 0 ys.toArray = setBlock w b (.cells (ys.flatMap enc ++ rest).toArray T f) := by
  have hlt := lt_of_heap hb
  have hb' := (Array.getElem?_eq_some_iff.1 hb).2
  unfold putRowK putRow mapBlock setBlock
  have : w.heap.modify b (onCells (putCells id 0 (flatK enc k ys.toArray))) = w.heap.setIfInBounds b (.cells (ys.flatMap enc ++ rest).toArray T f) := by
    apply Array.ext_getElem?
    intro i
    rw [Array.getElem?_modify, Array.getElem?_setIfInBounds]
    by_cases hi : b = i
    · subst hi
      rw [if_pos rfl, if_pos rfl, if_pos hlt, hb]
      simp only [Option.map_some, onCells]
      rw [flatK_eq hk, putCells_at vs rest _ (by rw [len_flat hk, hl])]
    · rw [if_neg hi, if_neg hi]
  exact congrArg (fun h => ({ w with heap := h } : World)) this
theorem sortWorldK_block (hk : ∀ x, (enc x).length = k) {w : World} {b : Nat} {T : TypeId} {f : Nat × Nat} {xs ys : List α} {rest : List Value} (hb : w.heap[b]? = some (.cells (xs.flatMap enc ++ rest).toArray T f)) (hl : ys.length = xs.length) (n : Nat) (os : Array Obj) :
    Chg (· = b) w (sortWorldK enc k w b 0 n ys.toArray os) ∧ (sortWorldK enc k w b 0 n ys.toArray os).heap[b]? = some (.cells (ys.flatMap enc ++ rest).toArray T f) := by
  have hp : putRowK enc k (Sort.ahead w n) b 0 ys.toArray = setBlock (Sort.ahead w n) b (.cells (ys.flatMap enc ++ rest).toArray T f) := putRowK_block hk (w := Sort.ahead w n) hb (by rw [len_flat hk, hl])
  unfold sortWorldK
  rw [hp]
  have h1 : Chg (· = b) w (setBlock (Sort.ahead w n) b (.cells (ys.flatMap enc ++ rest).toArray T f)) :=
    Chg.trans (b := Sort.ahead w n) ⟨rfl, rfl, rfl, Nat.le_refl _, fun _ _ _ => rfl⟩ (setBlock_chg' _) (fun _ _ h => h)
  have hg : Gw (setBlock (Sort.ahead w n) b (.cells (ys.flatMap enc ++ rest).toArray T f)) (grow (setBlock (Sort.ahead w n) b (.cells (ys.flatMap enc ++ rest).toArray T f)) os) := ⟨0, os, rfl⟩
  refine ⟨h1.trans (Chg.of_below (S := fun _ => False) hg.below) (fun _ _ h => h.elim), ?_⟩
  have hat := setBlock_at (w := Sort.ahead w n) (.cells (ys.flatMap enc ++ rest).toArray T f) hb
  exact below_heap hg.below hat
theorem holdsK_block (hk : ∀ x, (enc x).length = k) {w : World} {b : Nat} {T : TypeId} {xs : List α} {rest : List Value} (hb : w.heap[b]? = some (.cells (xs.flatMap enc ++ rest).toArray T (0, 0))) : HoldsK enc k w b 0 xs.toArray := by
  unfold HoldsK
  rw [flatK_eq hk]
  intro j hj
  have hj' : j < (xs.flatMap enc).length := by simpa using hj
  have h1 : (xs.flatMap enc ++ rest)[j]? = some ((xs.flatMap enc)[j]) := by rw [List.getElem?_append_left hj', List.getElem?_eq_getElem hj']
  refine ⟨?_, by simp [World.frozen?, hb]⟩
  have h2 : (xs.flatMap enc).toArray[j]! = (xs.flatMap enc)[j] := by rw [getElem!_pos (xs.flatMap enc).toArray j hj]; simp
  rw [h2]
  simp only [World.cell?, hb, Nat.zero_add]
  simpa using h1
end Go.Proofs.YtoilokfpfmicaaaDoor
