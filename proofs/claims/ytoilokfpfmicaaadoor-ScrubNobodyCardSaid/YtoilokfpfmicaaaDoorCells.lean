/- Blocks of cells, written in part; rows of the call's own; cloned slices. No program in sight. -/
import Derived.Test.YtoilokfpfmicaaaDoorBase
import Derived.Deep.MidRow
import Derived.Maps.AppendAt
import Derived.Maps.RangeWalk
import Derived.Laws.Cover3
set_option linter.unusedVariables false
set_option linter.unusedSimpArgs false
namespace Go.Proofs.YtoilokfpfmicaaaDoor
open Go.RowKit Go.ChangeMaps

theorem setCell_block {w : World} {b o : Nat} {c : Array Value} {T : TypeId} {f : Nat × Nat} (v : Value) (h : w.heap[b]? = some (.cells c T f)) : w.setCell ⟨b, o, none⟩ v = setBlock w b (.cells (c.setIfInBounds o v) T f) := by
  have hlt := lt_of_heap h
  have h' := (Array.getElem?_eq_some_iff.1 h).2
  unfold World.setCell setBlock
  have : (w.heap.modify b fun | .cells c elem frozen => .cells (if (⟨b, o, none⟩ : Addr).spot.isSome then c else c.setIfInBounds o v) elem frozen | o => o) = w.heap.setIfInBounds b (.cells (c.setIfInBounds o v) T f) := by
    apply Array.ext_getElem?
    intro i
    rw [Array.getElem?_modify, Array.getElem?_setIfInBounds]
    by_cases hi : b = i
    · subst hi
      rw [if_pos rfl, if_pos rfl, if_pos hlt, h]
      rfl
    · rw [if_neg hi, if_neg hi]
  exact congrArg (fun h => ({ w with heap := h } : World)) this
theorem setBlock_setBlock (w : World) (b : Nat) (o o' : Obj) : setBlock (setBlock w b o) b o' = setBlock w b o' := by
  unfold setBlock
  simp
theorem setBlock_self {w : World} {b : Nat} {o : Obj} (h : w.heap[b]? = some o) : setBlock w b o = w := by
  have : w.heap.setIfInBounds b o = w.heap := by
    apply Array.ext_getElem?
    intro i
    rw [Array.getElem?_setIfInBounds]
    by_cases hi : b = i
    · subst hi; rw [if_pos rfl, if_pos (lt_of_heap h), h]
    · rw [if_neg hi]
  unfold setBlock
  rw [this]
theorem setBlock_at {w : World} {b : Nat} {o : Obj} (o' : Obj) (h : w.heap[b]? = some o) : (setBlock w b o').heap[b]? = some o' := by
  have := lt_of_heap h
  show (w.heap.setIfInBounds b o')[b]? = _
  simp [this]
theorem setBlock_ne {w : World} {b i : Nat} (o' : Obj) (h : i ≠ b) : (setBlock w b o').heap[i]? = w.heap[i]? := by
  show (w.heap.setIfInBounds b o')[i]? = _
  rw [Array.getElem?_setIfInBounds_ne (fun e => h e.symm)]
theorem setBlock_chg' {w : World} {b : Nat} (o' : Obj) : Chg (· = b) w (setBlock w b o') :=
  ⟨rfl, rfl, rfl, by simp [setBlock], fun k _ hn => setBlock_ne o' hn⟩
theorem take_set_succ {α : Type} : ∀ (l : List α) (o : Nat) (v : α), o < l.length → (l.set o v).take (o + 1) = l.take o ++ [v]
  | [], o, v, h => by simp at h
  | a :: l, 0, v, _ => by simp
  | a :: l, o + 1, v, h => by
    simp only [List.length_cons] at h
    simp [take_set_succ l o v (by omega)]
/-- A row with a part written over. -/
def splice (l : List Value) (o : Nat) (vs : List Value) : List Value := l.take o ++ vs ++ l.drop (o + vs.length)
theorem setCells_block {b : Nat} {T : TypeId} {f : Nat × Nat} : ∀ (vs : List Value) (o : Nat) (w : World) (l : List Value), w.heap[b]? = some (.cells l.toArray T f) → o + vs.length ≤ l.length →
    w.setCells b o vs = setBlock w b (.cells (splice l o vs).toArray T f)
  | [], o, w, l, h, _ => by
    have : splice l o [] = l := by simp [splice]
    rw [this, setBlock_self h]; rfl
  | v :: r, o, w, l, h, hl => by
    simp only [List.length_cons] at hl
    rw [World.setCells, setCell_block v h]
    have e1 : (l.toArray.setIfInBounds o v) = (l.set o v).toArray := by simp
    rw [e1, setCells_block r (o + 1) _ (l.set o v) (setBlock_at _ h) (by simp; omega), setBlock_setBlock]
    congr 2
    have : splice (l.set o v) (o + 1) r = splice l o (v :: r) := by
      unfold splice
      rw [List.drop_set_of_lt (by omega), take_set_succ l o v (by omega), List.length_cons, show o + 1 + r.length = o + (r.length + 1) from by omega]
      simp only [List.append_assoc, List.cons_append, List.nil_append]
    rw [this]

def BV (b : UInt8) : Value := .int .u8 (b.toNat : Int)
def encB (b : UInt8) : List Value := [BV b]
theorem flatMap_B (l : List UInt8) : l.flatMap encB = l.map BV := by
  induction l with
  | nil => rfl
  | cons x l ih => simp [encB, List.flatMap_cons, ih]
theorem oneB (b : UInt8) : (BV b).oneCell' = true := rfl

/-- What an owned row holds is read. -/
theorem Sl.of_owns {α : Type} {enc : α → List Value} {w : World} {base : Nat} {E : TypeId} {sz : Nat} {v : Value} {xs : List α} (h : w.ownsRow base E sz v xs.length (xs.flatMap enc)) : Sl enc w v xs := by
  rcases h.2 with ⟨rfl, hn⟩ | ⟨g, cap, cur, rfl, hb, hh, hn, hc, hs, ht⟩
  · have : xs = [] := List.eq_nil_of_length_eq_zero hn
    subst this
    exact Sl.nil enc w
  · refine ⟨_, cap, rfl, hn, hc, fun _ => ⟨g, 0, rfl, Rd.of_block hh fun j u hu => ?_⟩⟩
    rw [← ht, List.getElem?_take] at hu
    split at hu
    · simpa using hu
    · cases hu
/-- A function that hands back a slice of its own: what it holds; all that was there stays. -/
def Makes {α : Type} (enc : α → List Value) (E : TypeId) (sz : Nat) (w : World) (xs : List α) (e : Ending) (w' : World) : Prop :=
  ∃ v, e = .returned v ∧ w'.ownsRow w.heap.size E sz v xs.length (xs.flatMap enc) ∧ Below w.heap.size w w'
theorem news_of_rd {w : World} {b o : Nat} {vs : List Value} (h : Rd w b o vs) : ∀ j u, vs[j]? = some u → w.cell? ((⟨b, o, none⟩ : Addr).add j) = some u := fun j u hu => by rw [add_lit]; exact h j u hu
/-- The source of an append: its cells, wherever it lies. -/
theorem Sl.src {α : Type} {enc : α → List Value} {w : World} {A : Addr} {n cap : Nat} {xs : List α} (h : Sl enc w (.slice (some A) n cap) xs) (he : ∀ x, enc x ≠ []) : n = xs.length ∧ ∀ j u, (xs.flatMap enc)[j]? = some u → w.cell? (A.add j) = some u := by
  obtain ⟨A', cap', hv, h1, h2, h3⟩ := h
  cases hv
  refine ⟨rfl, fun j u hu => ?_⟩
  have hne : xs ≠ [] := by rintro rfl; simp at hu
  obtain ⟨b, o, e, r⟩ := h3 hne
  cases e
  rw [add_lit]
  exact r j u hu
theorem len_flat {α : Type} {enc : α → List Value} {sz : Nat} (he : ∀ x, (enc x).length = sz) : ∀ xs : List α, (xs.flatMap enc).length = xs.length * sz
  | [] => by simp
  | x :: xs => by rw [List.flatMap_cons, List.length_append, he, len_flat he xs, List.length_cons, Nat.succ_mul, Nat.add_comm]
theorem own_made (w : World) (E : TypeId) (sz : Nat) : (w.alloc (.cells #[] E)).ownsRow w.heap.size E sz (.slice (some ⟨w.heap.size, 0, none⟩) 0 0) 0 [] :=
  World.ownsRow_made w #[] 0 (Nat.le_refl _) (Nat.zero_le _) (by simp)
theorem Sl.of_none {α : Type} {enc : α → List Value} {w : World} {n cap : Nat} {xs : List α} (h : Sl enc w (.slice none n cap) xs) : xs = [] ∧ n = 0 := by
  obtain ⟨A', cap', hv, h1, h2, h3⟩ := h
  cases hv
  by_cases hx : xs = []
  · subst hx; exact ⟨rfl, rfl⟩
  · obtain ⟨b, o, e, _⟩ := h3 hx
    cases e
theorem Sl.form {α : Type} {enc : α → List Value} {w : World} {v : Value} {xs : List α} (h : Sl enc w v xs) : ∃ A cap, v = .slice A xs.length cap ∧ xs.length ≤ cap ∧ cap ≤ maxLen := by
  obtain ⟨A', cap', hv, h1, h2, h3⟩ := h
  exact ⟨_, _, hv, h1, h2⟩
end Go.Proofs.YtoilokfpfmicaaaDoor
