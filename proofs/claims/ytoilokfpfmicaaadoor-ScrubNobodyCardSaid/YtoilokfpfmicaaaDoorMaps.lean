/- Maps at the model's level, read as lists of keys and values in the order in which the keys came. No program in sight. -/
import Derived.Test.YtoilokfpfmicaaaDoorBase
import Derived.Maps.RangeWalk
import Derived.MapKept
set_option linter.unusedVariables false
set_option linter.unusedSimpArgs false
namespace Go.Proofs.YtoilokfpfmicaaaDoor
open Go.RowKit Go.ChangeMaps

variable {κ : Type}
/-- Block m is a map that holds l. -/
def MapA (ek : κ → Value) (w : World) (m : Nat) (l : List (κ × Value)) : Prop :=
  ∃ es clock, w.heap[m]? = some (.map es clock) ∧ es.toList.map (fun e => (e.key, e.val)) = l.map (fun p => (ek p.1, p.2)) ∧ (l.map Prod.fst).Nodup ∧ (es.toList.map (·.born)).Nodup ∧ ∀ e ∈ es.toList, e.born < clock
section
variable {ek : κ → Value} {w : World} {m : Nat} {l : List (κ × Value)}
theorem MapA.keys (h : MapA ek w m l) : (l.map Prod.fst).Nodup := by obtain ⟨_, _, _, _, h, _⟩ := h; exact h
theorem MapA.lt (h : MapA ek w m l) : m < w.heap.size := by obtain ⟨_, _, h, _⟩ := h; exact lt_of_heap h
theorem MapA.chg {S : Nat → Prop} {w' : World} (h : MapA ek w m l) (hc : Chg S w w') (hm : ¬ S m) : MapA ek w' m l := by
  obtain ⟨es, clock, hb, r⟩ := h
  exact ⟨es, clock, hc.heap hb hm, r⟩
theorem MapA.below {w' : World} (h : MapA ek w m l) (hc : Below w.heap.size w w') : MapA ek w' m l := by
  obtain ⟨es, clock, hb, r⟩ := h
  exact ⟨es, clock, below_heap hc hb, r⟩
theorem MapA.made (ek : κ → Value) (w : World) : MapA ek (w.alloc (.map #[] 0)) w.heap.size [] := ⟨#[], 0, heap_at _ _ _ rfl, by simp, by simp, by simp, by simp⟩
variable {P : Program} {kt : TypeId}
theorem setBlock_chg {w : World} {m : Nat} {o o' : Obj} (hb : w.heap[m]? = some o) : Chg (· = m) w (setBlock w m o') :=
  ⟨rfl, rfl, rfl, by simp [setBlock], fun k _ hn => by
    show (w.heap.setIfInBounds m o')[k]? = _
    rw [Array.getElem?_setIfInBounds_ne (fun e => hn e.symm)]⟩
theorem setBlock_heap {w : World} {m : Nat} {o o' : Obj} (hb : w.heap[m]? = some o) : (setBlock w m o').heap[m]? = some o' := by
  have := lt_of_heap hb
  show (w.heap.setIfInBounds m o')[m]? = _
  simp [this]
theorem setBlock_size {w : World} {m : Nat} {o' : Obj} : (setBlock w m o').heap.size = w.heap.size := by simp [setBlock]

theorem MapA.len (h : MapA ek w m l) {t e : TypeId} (ht : P.underlying t = some (.map kt e)) (ty : TypeId) : (Builtin.len_ #[t] ty #[.map (some m)]).run P w = .ok (.int .i64 l.length) w := by
  obtain ⟨es, clock, hb, hes, hn, _⟩ := h
  have hlen : es.size = l.length := by simpa using congrArg List.length hes
  simp [Builtin.len_, run_underlying ht, MapKept.run_getObj_map hb, Result.andThen, hlen, goInt]

/-- An iterator in block r over the map in block m: the entries of l that are left. -/
def RngA (ek : κ → Value) (w : World) (m r : Nat) (l left : List (κ × Value)) : Prop :=
  ∃ es clock since seen c0, w.heap[m]? = some (.map es clock) ∧ w.heap[r]? = some (.mapIter (some m) since seen c0) ∧ es.toList.map (fun e => (e.key, e.val)) = l.map (fun p => (ek p.1, p.2)) ∧ (l.map Prod.fst).Nodup ∧ (es.toList.map (·.born)).Nodup ∧ (∀ e ∈ es.toList, e.born < clock) ∧
    (∀ e ∈ es.toList, e.born < since) ∧ since ≤ c0 ∧ since ≤ clock ∧ (leftOf es seen).toList.map (fun e => (e.key, e.val)) = left.map (fun p => (ek p.1, p.2))
theorem RngA.map {r : Nat} {left : List (κ × Value)} (h : RngA ek w m r l left) : MapA ek w m l := by
  obtain ⟨es, clock, since, seen, c0, h1, h2, h3, h4, h5, h6, _⟩ := h
  exact ⟨es, clock, h1, h3, h4, h5, h6⟩
theorem RngA.chg {S : Nat → Prop} {w' : World} {r : Nat} {left : List (κ × Value)} (h : RngA ek w m r l left) (hc : Chg S w w') (hm : ¬ S m) (hr : ¬ S r) : RngA ek w' m r l left := by
  obtain ⟨es, clock, since, seen, c0, h1, h2, h3⟩ := h
  exact ⟨es, clock, since, seen, c0, hc.heap h1 hm, hc.heap h2 hr, h3⟩
theorem RngA.lt {r : Nat} {left : List (κ × Value)} (h : RngA ek w m r l left) : r < w.heap.size := by
  obtain ⟨es, clock, since, seen, c0, h1, h2, h3⟩ := h
  exact lt_of_heap h2
theorem RngA.ne {r : Nat} {left : List (κ × Value)} (h : RngA ek w m r l left) : r ≠ m := by
  obtain ⟨es, clock, since, seen, c0, h1, h2, h3⟩ := h
  intro e
  subst e
  rw [h1] at h2
  cases h2
theorem MapA.range (h : MapA ek w m l) {t e : TypeId} (ht : P.underlying t = some (.map kt e)) :
    ∃ o, (Instr.range t (.map (some m))).run P w = .ok (.pointer (some ⟨w.heap.size, 0, none⟩)) (w.alloc o) ∧ RngA ek (w.alloc o) m w.heap.size l l := by
  obtain ⟨es, clock, hb, hes, hn, hbn, hlt⟩ := h
  refine ⟨.mapIter (some m) clock #[] clock, ?_, es, clock, clock, #[], clock, ?_, heap_at _ _ _ rfl, hes, hn, hbn, hlt, hlt, Nat.le_refl _, Nat.le_refl _, ?_⟩
  · simp [Instr.range, run_underlying ht, MapKept.run_getObj_map hb, Result.andThen]
  · rw [heap_past _ _ _ (lt_of_heap hb)]; exact hb
  · rw [show (leftOf es #[]).toList = es.toList from by simp only [leftOf, Array.toList_filter]; exact List.filter_eq_self.2 (fun _ _ => by simp)]
    exact hes
theorem leftOf_push (es : Array MapEntry) (seen : Array Nat) (e : MapEntry) : (leftOf es (seen.push e.born)).toList = (leftOf es seen).toList.filter (fun x => x.born ≠ e.born) := by
  simp only [leftOf, Array.toList_filter, List.filter_filter]
  apply List.filter_congr
  intro x _
  simp [Array.contains_push]
  by_cases h : x.born = e.born <;> simp [h, eq_comm]
theorem filter_ne_eraseIdx {α : Type} {f : α → Nat} : ∀ (l : List α) (j : Nat) {x : α}, (l.map f).Nodup → l[j]? = some x → l.filter (fun y => f y ≠ f x) = l.eraseIdx j
  | [], j, x, _, h => by simp at h
  | a :: l, 0, x, hn, h => by
    simp only [List.map_cons, List.nodup_cons] at hn
    simp only [List.getElem?_cons_zero, Option.some.injEq] at h
    subst h
    rw [List.filter_cons, if_neg (by simp), List.eraseIdx_cons_zero]
    apply List.filter_eq_self.2
    intro y hy
    have : f y ≠ f a := fun e => hn.1 (e ▸ List.mem_map.2 ⟨y, hy, rfl⟩)
    simpa using this
  | a :: l, j + 1, x, hn, h => by
    simp only [List.map_cons, List.nodup_cons] at hn
    simp only [List.getElem?_cons_succ] at h
    have hne : f a ≠ f x := fun e => hn.1 (e ▸ List.mem_map.2 ⟨x, List.mem_of_getElem? h, rfl⟩)
    rw [List.filter_cons, if_pos (by simpa using hne), List.eraseIdx_cons_succ, filter_ne_eraseIdx l j hn.2 h]
theorem perm_eraseIdx {α : Type} : ∀ (l : List α) {j : Nat} {x : α}, l[j]? = some x → l.Perm (x :: l.eraseIdx j)
  | [], j, x, h => by simp at h
  | a :: l, 0, x, h => by simp at h; subst h; simp
  | a :: l, j + 1, x, h => by
    simp only [List.getElem?_cons_succ] at h
    rw [List.eraseIdx_cons_succ]
    exact ((perm_eraseIdx l h).cons a).trans (List.Perm.swap _ _ _)
theorem map_eraseIdx' {α β : Type} (f : α → β) : ∀ (l : List α) (n : Nat), (l.eraseIdx n).map f = (l.map f).eraseIdx n
  | [], _ => rfl
  | a :: l, 0 => rfl
  | a :: l, n + 1 => by simp [map_eraseIdx' f l n]
theorem RngA.next (inj : ∀ a b : κ, ek a = ek b → a = b) {r : Nat} {left : List (κ × Value)} (h : RngA ek w m r l left) (ty : TypeId) :
    (left = [] ∧ (Instr.next (.pointer (some ⟨r, 0, none⟩)) false ty).run P w = .ok (.tuple #[.bool false]) w) ∨
    ∃ (k : κ) (v : Value) (left' : List (κ × Value)) (w1 : World) (o : Obj), (k, v) ∈ l ∧ left.Perm ((k, v) :: left') ∧ (w1 = w ∨ w1 = w.drew) ∧ (Instr.next (.pointer (some ⟨r, 0, none⟩)) false ty).run P w = .ok (.tuple #[.bool true, ek k, v]) (setBlock w1 r o) ∧
      RngA ek (setBlock w1 r o) m r l left' ∧ (Instr.entry (.pointer (some ⟨r, 0, none⟩))).run P (setBlock w1 r o) = .ok (.tuple #[ek k, v]) (setBlock w1 r o) ∧ Chg (· = r) w (setBlock w1 r o) := by
  have hne := h.ne
  obtain ⟨es, clock, since, seen, c0, hb, hr, hes, hn, hbn, hlt, hsn, hsc, hsk, hleft⟩ := h
  rcases run_next_at (P := P) w ty r m since c0 seen es clock hr hb hsn hsc with ⟨h0, hrun⟩ | ⟨e, he, w1, hw1, hrun⟩
  · left
    refine ⟨?_, hrun⟩
    have : (leftOf es seen).toList = [] := List.eq_nil_of_length_eq_zero (by simpa using h0)
    rw [this] at hleft
    simpa using hleft.symm
  · right
    have hmem : e ∈ es.toList := by simp only [leftOf, Array.toList_filter, List.mem_filter] at he; exact he.1
    obtain ⟨j, hj⟩ := List.mem_iff_getElem?.1 he
    have hjl : (left[j]?).map (fun p => (ek p.1, p.2)) = some (e.key, e.val) := by
      rw [← List.getElem?_map, ← hleft, List.getElem?_map, hj]; rfl
    obtain ⟨⟨k, v⟩, hkv, hkv2⟩ := Option.map_eq_some_iff.1 hjl
    simp only [Prod.mk.injEq] at hkv2
    obtain ⟨hk, hv⟩ := hkv2
    have hbnl : ((leftOf es seen).toList.map (·.born)).Nodup := by
      simp only [leftOf, Array.toList_filter]
      exact (List.filter_sublist.map _).nodup hbn
    have hfil : (leftOf es (seen.push e.born)).toList = (leftOf es seen).toList.eraseIdx j := by
      rw [leftOf_push]
      exact filter_ne_eraseIdx _ _ hbnl hj
    have hr1 : w1.heap[r]? = some (.mapIter (some m) since seen c0) := by rcases hw1 with rfl | rfl <;> exact hr
    have hb1 : w1.heap[m]? = some (.map es clock) := by rcases hw1 with rfl | rfl <;> exact hb
    have hch : Chg (· = r) w (setBlock w1 r (.mapIter (some m) since (seen.push e.born) clock)) := by
      rcases hw1 with rfl | rfl
      · exact setBlock_chg hr
      · exact (Chg.refl _ _).drew.trans (setBlock_chg hr1) (fun _ _ e => e)
    have hb2 : (setBlock w1 r (.mapIter (some m) since (seen.push e.born) clock)).heap[m]? = some (.map es clock) := (setBlock_chg hr1).heap hb1 (fun e => hne e.symm)
    have hml : (k, v) ∈ l ∨ ∃ k' , (k', v) ∈ l ∧ ek k' = ek k := by
      have : (e.key, e.val) ∈ l.map (fun p => (ek p.1, p.2)) := hes ▸ List.mem_map.2 ⟨e, hmem, rfl⟩
      obtain ⟨⟨k', v'⟩, hm', he'⟩ := List.mem_map.1 this
      simp only [Prod.mk.injEq] at he'
      exact .inr ⟨k', by rw [← hv, ← he'.2] at *; exact hm', by rw [he'.1, hk]⟩
    refine ⟨k, v, left.eraseIdx j, w1, _, ?_, perm_eraseIdx left hkv, hw1, by rw [hk, hv]; exact hrun, ?_, ?_, hch⟩
    · rcases hml with h | ⟨k', h, he⟩
      · exact h
      · rw [inj _ _ he] at h; exact h
    · refine ⟨es, clock, since, _, clock, hb2, setBlock_heap hr1, hes, hn, hbn, hlt, hsn, hsk, hsk, ?_⟩
      · rw [hfil, map_eraseIdx', hleft, map_eraseIdx']
    · rw [hk, hv]
      exact run_entry_at _ r m since seen es clock e (setBlock_heap hr1) hb2 hmem hbn
end
variable [DecidableEq κ]

def afind (k : κ) : List (κ × Value) → Nat → Option (Nat × Value)
  | [], _ => none
  | p :: l, i => if p.1 = k then some (i, p.2) else afind k l (i + 1)
def aget {β : Type} (k : κ) : List (κ × β) → Option β
  | [] => none
  | p :: l => if p.1 = k then some p.2 else aget k l
def aset {β : Type} (k : κ) (v : β) : List (κ × β) → List (κ × β)
  | [] => [(k, v)]
  | p :: l => if p.1 = k then (k, v) :: l else p :: aset k v l
def adel {β : Type} (k : κ) : List (κ × β) → List (κ × β)
  | [] => []
  | p :: l => if p.1 = k then l else p :: adel k l

/-- Keys of a type: how they stand as values, and that the model finds them. -/
structure KeyT (P : Program) (kt : TypeId) (ek : κ → Value) : Prop where
  check : ∀ (em : Bool) (k : κ) (w : World), (Instr.checkKey em 10000 kt (ek k)).run P w = .ok () w
  find : ∀ (k : κ) (es : List MapEntry) (l : List (κ × Value)) (w : World), es.map (fun e => (e.key, e.val)) = l.map (fun p => (ek p.1, p.2)) → (Instr.findKey kt (ek k) es).run P w = .ok (afind k l 0) w
  same : ∀ k, Instr.sameBits 10000 (ek k) (ek k) = true

theorem afind_get (k : κ) : ∀ (l : List (κ × Value)) (i : Nat), (afind k l i).map (·.2) = aget k l
  | [], _ => rfl
  | p :: l, i => by
    unfold afind aget
    split
    · rfl
    · exact afind_get k l (i + 1)
theorem afind_none (k : κ) : ∀ (l : List (κ × Value)) (i : Nat), afind k l i = none → aget k l = none := fun l i h => by rw [← afind_get k l i, h]; rfl
theorem aget_isSome {β : Type} (k : κ) : ∀ (l : List (κ × β)), (aget k l).isSome = true ↔ k ∈ l.map Prod.fst
  | [] => by simp [aget]
  | p :: l => by
    unfold aget
    split
    · rename_i h; simp [h]
    · rename_i h; rw [aget_isSome k l]; simp [Ne.symm h]
theorem aget_none {β : Type} (k : κ) (l : List (κ × β)) : aget k l = none ↔ k ∉ l.map Prod.fst := by
  rw [← aget_isSome k l]
  cases aget k l <;> simp
theorem aget_mem {β : Type} {k : κ} {v : β} : ∀ {l : List (κ × β)}, aget k l = some v → (k, v) ∈ l
  | [], h => by simp [aget] at h
  | p :: l, h => by
    unfold aget at h
    split at h
    · rename_i e; cases h; obtain ⟨a, b⟩ := p; simp at e; subst e; simp
    · exact .tail _ (aget_mem h)
theorem aget_of_mem {β : Type} {k : κ} {v : β} : ∀ {l : List (κ × β)}, (l.map Prod.fst).Nodup → (k, v) ∈ l → aget k l = some v
  | [], _, h => by simp at h
  | p :: l, hn, h => by
    simp only [List.map_cons, List.nodup_cons] at hn
    unfold aget
    split
    · rename_i e
      rcases List.mem_cons.1 h with rfl | h
      · rfl
      · exact absurd (List.mem_map.2 ⟨_, h, rfl⟩) (e ▸ hn.1)
    · rename_i e
      rcases List.mem_cons.1 h with rfl | h
      · exact absurd rfl e
      · exact aget_of_mem hn.2 h
theorem aget_perm {β : Type} {l l' : List (κ × β)} (h : l.Perm l') (hn : (l.map Prod.fst).Nodup) (k : κ) : aget k l = aget k l' := by
  have hn' : (l'.map Prod.fst).Nodup := (h.map _).nodup_iff.1 hn
  cases e : aget k l with
  | none =>
    symm
    rw [aget_none] at e ⊢
    exact fun hm => e ((h.map _).mem_iff.2 hm)
  | some v => exact (aget_of_mem hn' (h.mem_iff.1 (aget_mem e))).symm
theorem aset_fst {β : Type} (k : κ) (v : β) : ∀ (l : List (κ × β)), (aset k v l).map Prod.fst = if k ∈ l.map Prod.fst then l.map Prod.fst else l.map Prod.fst ++ [k]
  | [] => by simp [aset]
  | p :: l => by
    unfold aset
    split
    · rename_i h; subst h; simp
    · rename_i h
      have ih := aset_fst k v l
      simp only [List.map_cons, ih, List.mem_cons, Ne.symm h, false_or]
      split <;> simp
theorem aset_nodup {β : Type} (k : κ) (v : β) (l : List (κ × β)) (h : (l.map Prod.fst).Nodup) : ((aset k v l).map Prod.fst).Nodup := by
  rw [aset_fst]
  split
  · exact h
  · rename_i hk
    rw [List.nodup_append]
    refine ⟨h, by simp, ?_⟩
    intro a ha b hb e
    simp at hb
    subst hb; subst e
    exact hk ha
theorem aget_aset {β : Type} (k j : κ) (v : β) : ∀ (l : List (κ × β)), aget j (aset k v l) = if j = k then some v else aget j l
  | [] => by by_cases h : j = k <;> simp [aset, aget, h, Ne.symm, eq_comm]
  | p :: l => by
    unfold aset
    by_cases h : p.1 = k
    · rw [if_pos h]
      by_cases hj : j = k
      · subst hj; simp [aget]
      · have : ¬ k = j := fun e => hj e.symm
        have : ¬ p.1 = j := fun e => hj (e.symm.trans h)
        simp [aget, *]
    · rw [if_neg h]
      by_cases hp : p.1 = j
      · subst hp; simp [aget, h]
      · simp [aget, hp, aget_aset k j v l]
theorem adel_fst {β : Type} (k : κ) : ∀ (l : List (κ × β)), (adel k l).map Prod.fst = (l.map Prod.fst).erase k
  | [] => rfl
  | p :: l => by
    unfold adel
    split
    · rename_i h; subst h; simp
    · rename_i h
      rw [List.map_cons, adel_fst k l, List.map_cons, List.erase_cons_tail (by simpa using h)]
theorem adel_perm {β : Type} (k : κ) (v : β) : ∀ (l : List (κ × β)), aget k l = some v → l.Perm ((k, v) :: adel k l)
  | [], h => by simp [aget] at h
  | p :: l, h => by
    unfold aget at h
    unfold adel
    split at h
    · rename_i e
      obtain ⟨a, b⟩ := p
      simp at e h
      subst e; subst h
      simp
    · rename_i e
      rw [if_neg e]
      exact ((adel_perm k v l h).cons p).trans (List.Perm.swap _ _ _)
theorem aset_perm {β : Type} (k : κ) (v : β) : ∀ (l : List (κ × β)), aget k l = none → aset k v l = l ++ [(k, v)]
  | [], _ => rfl
  | p :: l, h => by
    unfold aget at h
    unfold aset
    split at h
    · cases h
    · rename_i e
      rw [if_neg e, aset_perm k v l h]; rfl

section
variable {P : Program} {kt : TypeId} {ek : κ → Value} {w : World} {m : Nat} {l : List (κ × Value)}

theorem MapA.lookup (h : MapA ek w m l) (K : KeyT P kt ek) {t e : TypeId} (ht : P.underlying t = some (.map kt e)) {z : Value} (hz : (zeroValue e).run P w = .ok z w) (k : κ) (c : Bool) :
    (Instr.lookup t (.map (some m)) (ek k) c).run P w = .ok (if c then .tuple #[(aget k l).getD z, .bool (aget k l).isSome] else (aget k l).getD z) w := by
  obtain ⟨es, clock, hb, hes, hn, _⟩ := h
  have hf := K.find k es.toList l w hes
  rw [← afind_get k l 0]
  cases e1 : afind k l 0 with
  | none =>
    rw [e1] at hf
    simp [Instr.lookup, run_underlying ht, MapKept.run_getObj_map hb, K.check, hf, hz, Result.andThen]
  | some p =>
    rw [e1] at hf
    simp [Instr.lookup, run_underlying ht, MapKept.run_getObj_map hb, K.check, hf, Result.andThen]

theorem afind_some (k : κ) : ∀ (l : List (κ × Value)) (i j : Nat) (v : Value), afind k l i = some (j, v) → ∃ n, j = i + n ∧ l[n]? = some (k, v) ∧ (∀ u, aset k u l = l.set n (k, u)) ∧ adel k l = l.eraseIdx n
  | [], i, j, v, h => by simp [afind] at h
  | p :: l, i, j, v, h => by
    unfold afind at h
    split at h
    · rename_i e
      cases h
      obtain ⟨a, b⟩ := p
      simp at e
      subst e
      exact ⟨0, rfl, rfl, fun u => by simp [aset], by simp [adel]⟩
    · rename_i e
      obtain ⟨n, h1, h2, h3, h4⟩ := afind_some k l (i + 1) j v h
      exact ⟨n + 1, by omega, h2, fun u => by simp [aset, e, h3], by simp [adel, e, h4]⟩

theorem MapA.update (h : MapA ek w m l) (K : KeyT P kt ek) {t e : TypeId} (ht : P.underlying t = some (.map kt e)) (k : κ) (v : Value) :
    ∃ o, (Instr.mapUpdate t (.map (some m)) (ek k) v).run P w = .ok () (setBlock w m o) ∧ MapA ek (setBlock w m o) m (aset k v l) ∧ Chg (· = m) w (setBlock w m o) := by
  obtain ⟨es, clock, hb, hes, hn, hbn, hlt⟩ := h
  have hf := K.find k es.toList l w hes
  cases e1 : afind k l 0 with
  | none =>
    rw [e1] at hf
    refine ⟨.map (es.push ⟨ek k, v, clock⟩) (clock + 1), ?_, ⟨_, _, setBlock_heap hb, ?_, aset_nodup k v l hn, ?_, ?_⟩, setBlock_chg hb⟩
    · simp [Instr.mapUpdate, run_underlying ht, MapKept.run_getObj_map hb, K.check, hf, MapKept.run_setObj_map _ hb, Result.andThen, setBlock]
    · rw [aset_perm k v l (afind_none k l 0 e1)]
      simp [hes]
    · simp only [Array.toList_push, List.map_append, List.map_cons, List.map_nil, List.nodup_append]
      refine ⟨hbn, by simp, fun a ha b hb' e => ?_⟩
      simp at hb'
      obtain ⟨x, hx, rfl⟩ := List.mem_map.1 ha
      have := hlt x hx
      omega
    · intro x hx
      simp only [Array.toList_push, List.mem_append, List.mem_singleton] at hx
      rcases hx with hx | rfl
      · have := hlt x hx; omega
      · exact Nat.lt_succ_self _
  | some p =>
    rw [e1] at hf
    obtain ⟨i, u⟩ := p
    obtain ⟨n, rfl, h2, h3, h4⟩ := afind_some k l 0 i u e1
    rw [Nat.zero_add] at hf
    have hlen : es.toList.length = l.length := by simpa using congrArg List.length hes
    obtain ⟨hnl, _⟩ := List.getElem?_eq_some_iff.1 h2
    have hkey : (es[n]?).map (·.key) = some (ek k) := by
      have := congrArg (fun x => (x[n]?).map Prod.fst) hes
      simp only [List.getElem?_map, h2, Option.map_some, Array.getElem?_toList, Option.map_map] at this
      simpa [Function.comp_def] using this
    have hks : (Instr.keyThatStays (ek k) (ek k)).run P w = .ok (ek k) w := by simp [Instr.keyThatStays, K.same]
    refine ⟨.map (es.modify n fun e => { e with key := ek k, val := v }) clock, ?_, ⟨_, _, setBlock_heap hb, ?_, aset_nodup k v l hn, ?_, ?_⟩, setBlock_chg hb⟩
    · simp [Instr.mapUpdate, run_underlying ht, MapKept.run_getObj_map hb, K.check, hf, hkey, hks, MapKept.run_setObj_map _ hb, Result.andThen, setBlock]
    · rw [h3 v, List.map_set, ← hes, Array.toList_modify]
      apply List.ext_getElem?
      intro j
      simp only [List.getElem?_map, List.getElem?_modify, List.getElem?_set, List.length_map]
      by_cases hj : n = j
      · subst hj
        have h' : n < es.size := by rw [← Array.length_toList]; omega
        simp [h']
      · simp [hj]
    · have : (es.modify n fun e => { e with key := ek k, val := v }).toList.map (·.born) = es.toList.map (·.born) := by
        rw [Array.toList_modify]
        apply List.ext_getElem?
        intro j
        simp only [List.getElem?_map, List.getElem?_modify]
        by_cases hj : n = j
        · subst hj; simp [Function.comp_def]
        · simp [hj]
      rw [this]; exact hbn
    · intro x hx
      rw [Array.toList_modify] at hx
      obtain ⟨j, hj⟩ := List.mem_iff_getElem?.1 hx
      rw [List.getElem?_modify] at hj
      cases e2 : es.toList[j]? with
      | none => simp [e2] at hj
      | some y =>
        have := hlt y (List.mem_of_getElem? e2)
        simp [e2] at hj
        subst hj
        split <;> exact this

theorem MapA.delete (h : MapA ek w m l) (K : KeyT P kt ek) {t e : TypeId} (ht : P.underlying t = some (.map kt e)) (k : κ) (ty : TypeId) :
    ∃ o, (Builtin.delete_ #[t, kt] ty #[.map (some m), ek k]).run P w = .ok (.tuple #[]) (setBlock w m o) ∧ MapA ek (setBlock w m o) m (adel k l) ∧ Chg (· = m) w (setBlock w m o) := by
  obtain ⟨es, clock, hb, hes, hn, hbn, hlt⟩ := h
  have hf := K.find k es.toList l w hes
  have hnd : ((adel k l).map Prod.fst).Nodup := by rw [adel_fst]; exact hn.erase _
  cases e1 : afind k l 0 with
  | none =>
    rw [e1] at hf
    have hsame : adel k l = l := by
      have h0 := afind_none k l 0 e1
      clear hf hes hn hnd e1
      induction l with
      | nil => rfl
      | cons p l ih =>
        unfold aget at h0
        unfold adel
        split at h0
        · cases h0
        · rename_i e; rw [if_neg e, ih h0]
    refine ⟨.map es clock, ?_, ⟨_, _, setBlock_heap hb, by rw [hsame]; exact hes, hnd, hbn, hlt⟩, setBlock_chg hb⟩
    simp [Builtin.delete_, run_underlying ht, MapKept.run_getObj_map hb, K.check, hf, MapKept.run_setObj_map _ hb, Result.andThen, setBlock]
  | some p =>
    rw [e1] at hf
    obtain ⟨i, u⟩ := p
    obtain ⟨n, rfl, h2, h3, h4⟩ := afind_some k l 0 i u e1
    rw [Nat.zero_add] at hf
    refine ⟨.map (es.eraseIdxIfInBounds n) clock, ?_, ⟨_, _, setBlock_heap hb, ?_, hnd, ?_, ?_⟩, setBlock_chg hb⟩
    · simp [Builtin.delete_, run_underlying ht, MapKept.run_getObj_map hb, K.check, hf, MapKept.run_setObj_map _ hb, Result.andThen, setBlock]
    · rw [Array.toList_eraseIdxIfInBounds, map_eraseIdx', hes, h4, map_eraseIdx']
    · rw [Array.toList_eraseIdxIfInBounds, map_eraseIdx']
      exact (List.eraseIdx_sublist _ _).nodup hbn
    · intro x hx
      rw [Array.toList_eraseIdxIfInBounds] at hx
      exact hlt x (List.mem_of_mem_eraseIdx hx)

end

/-! ### keys that are strings -/
theorem findNow_str (k : ByteArray) : ∀ (es : List MapEntry) (l : List (ByteArray × Value)) (i : Nat), es.map (fun e => (e.key, e.val)) = l.map (fun p => (Value.string p.1, p.2)) → Instr.findNow .string (.string k) es i = some (afind k l i)
  | [], l, i, h => by
    have : l = [] := by simpa using h.symm
    subst this; rfl
  | e :: es, [], i, h => by simp at h
  | e :: es, p :: l, i, h => by
    simp only [List.map_cons, List.cons.injEq, Prod.mk.injEq] at h
    obtain ⟨⟨h1, h2⟩, h3⟩ := h
    have ih := findNow_str k es l (i + 1) h3
    unfold Instr.findNow afind
    rw [h1]
    obtain ⟨r, hr, hiff⟩ := MapKept.sameNow_of_keys (d := .string) (a := .string k) (b := .string p.1) (by simp [MapKept.IsKey]) (by simp [MapKept.IsKey])
    by_cases hk : p.1 = k
    · have : r = true := hiff.2 (by rw [hk])
      rw [hr, this, if_pos hk, h2]
    · have : r = false := by
        cases r with
        | false => rfl
        | true => exact absurd (hiff.1 rfl) (fun e => hk (by injection e with e; exact e.symm))
      rw [hr, this, if_neg hk]
      exact ih
theorem keyT_string {P : Program} {kt : TypeId} (h : P.underlying kt = some .string) : KeyT P kt (Value.string) where
  check em k w := MapKept.run_checkKey h (by simp [MapKept.IsKey]) em 9999
  find k es l w he := MapKept.run_findKey h (findNow_str k es l 0 he)
  same k := by
    show (k == k) = true
    obtain ⟨r, hr, hiff⟩ := MapKept.sameNow_of_keys (d := .string) (a := .string k) (b := .string k) (by simp [MapKept.IsKey]) (by simp [MapKept.IsKey])
    have h1 := hiff.2 rfl
    subst h1
    exact Option.some.inj hr

/-! ### at the operation, for the walk: what the run comes to is handed in -/
section
variable {P : Program} {w w' : World} {ops : Array Oper} {rest : List Oper} {o : Oper} {a : Act} {Q : Exit → Act → World → Prop}
theorem wpList_lookup_run (hg : o.guard = none) (m x : Operand) (t : TypeId) (c : Bool) (hop : o.op = Op.lookup t m x c) {vm vx v : Value} (hm : a.eval m = vm) (hx : a.eval x = vx)
    (hrun : (Instr.lookup t vm vx c).run P w = .ok v w') (hK : wpList P ops Q rest (a.put o.dst v) w') : wpList P ops Q (o :: rest) a w := by
  refine wpList_plain hg fun K' hK' => ?_
  unfold Oper.wp
  simp [execOp, hop, hm, hx, hrun, Result.andThen]
  exact hK' _ _ hK
theorem wpList_mapUpdate_run (hg : o.guard = none) (m x y : Operand) (t : TypeId) (hop : o.op = Op.mapUpdate t m x y) {vm vx vy : Value} (hm : a.eval m = vm) (hx : a.eval x = vx) (hy : a.eval y = vy)
    (hrun : (Instr.mapUpdate t vm vx vy).run P w = .ok () w') (hK : wpList P ops Q rest (a.put o.dst undef) w') : wpList P ops Q (o :: rest) a w := by
  refine wpList_plain hg fun K' hK' => ?_
  unfold Oper.wp
  simp [execOp, hop, hm, hx, hy, hrun, Result.andThen]
  exact hK' _ _ hK
theorem wpList_range_run (hg : o.guard = none) (m : Operand) (t : TypeId) (hop : o.op = Op.range t m) {vm v : Value} (hm : a.eval m = vm)
    (hrun : (Instr.range t vm).run P w = .ok v w') (hK : wpList P ops Q rest (a.put o.dst v) w') : wpList P ops Q (o :: rest) a w := by
  refine wpList_plain hg fun K' hK' => ?_
  unfold Oper.wp
  simp [execOp, hop, hm, hrun, Result.andThen]
  exact hK' _ _ hK
theorem wpList_next_run (hg : o.guard = none) (it : Operand) (hop : o.op = Op.next it false) {vi v : Value} (hi : a.eval it = vi)
    (hrun : (Instr.next vi false o.type).run P w = .ok v w') (hK : wpList P ops Q rest (a.put o.dst v) w') : wpList P ops Q (o :: rest) a w := by
  refine wpList_plain hg fun K' hK' => ?_
  unfold Oper.wp
  simp [execOp, hop, hi, hrun, Result.andThen]
  exact hK' _ _ hK
theorem wpList_entry_run (hg : o.guard = none) (it : Operand) (hop : o.op = Op.entry it) {vi v : Value} (hi : a.eval it = vi)
    (hrun : (Instr.entry vi).run P w = .ok v w') (hK : wpList P ops Q rest (a.put o.dst v) w') : wpList P ops Q (o :: rest) a w := by
  refine wpList_plain hg fun K' hK' => ?_
  unfold Oper.wp
  simp [execOp, hop, hi, hrun, Result.andThen]
  exact hK' _ _ hK
theorem wpList_delete_run (hg : o.guard = none) (x0 x1 : Operand) (ts : Array TypeId) (hop : o.op = Op.call { callee := Callee.builtin Builtin.delete, args := #[x0, x1], argTypes := ts }) {v0 v1 v : Value} (h0 : a.eval x0 = v0) (h1 : a.eval x1 = v1)
    (hrun : (Builtin.delete_ ts o.type #[v0, v1]).run P w = .ok v w') (hK : wpList P ops Q rest (a.put o.dst v) w') : wpList P ops Q (o :: rest) a w := by
  refine wpList_plain hg fun K' hK' => ?_
  unfold Oper.wp
  simp [execOp, hop, resolve, invoke, builtin, h0 , h1, hrun, Result.andThen]
  exact hK' _ _ hK
theorem wpList_len_run (hg : o.guard = none) (x0 : Operand) (ts : Array TypeId) (hop : o.op = Op.call { callee := Callee.builtin Builtin.len, args := #[x0], argTypes := ts }) {v0 v : Value} (h0 : a.eval x0 = v0)
    (hrun : (Builtin.len_ ts o.type #[v0]).run P w = .ok v w') (hK : wpList P ops Q rest (a.put o.dst v) w') : wpList P ops Q (o :: rest) a w := by
  refine wpList_plain hg fun K' hK' => ?_
  unfold Oper.wp
  simp [execOp, hop, resolve, invoke, builtin, h0, hrun, Result.andThen]
  exact hK' _ _ hK
theorem wpList_copy_run (hg : o.guard = none) (x0 x1 : Operand) (ts : Array TypeId) (hop : o.op = Op.call { callee := Callee.builtin Builtin.copy, args := #[x0, x1], argTypes := ts }) {v0 v1 v : Value} (h0 : a.eval x0 = v0) (h1 : a.eval x1 = v1)
    (hrun : (Builtin.copy_ ts o.type #[v0, v1]).run P w = .ok v w') (hK : wpList P ops Q rest (a.put o.dst v) w') : wpList P ops Q (o :: rest) a w := by
  refine wpList_plain hg fun K' hK' => ?_
  unfold Oper.wp
  simp [execOp, hop, resolve, invoke, builtin, h0 , h1, hrun, Result.andThen]
  exact hK' _ _ hK
theorem wpList_append_run (hg : o.guard = none) (x0 x1 : Operand) (ts : Array TypeId) (hop : o.op = Op.call { callee := Callee.builtin Builtin.append, args := #[x0, x1], argTypes := ts }) {v0 v1 v : Value} (h0 : a.eval x0 = v0) (h1 : a.eval x1 = v1)
    (hrun : (Builtin.append_ ts o.type #[v0, v1]).run P w = .ok v w') (hK : wpList P ops Q rest (a.put o.dst v) w') : wpList P ops Q (o :: rest) a w := by
  refine wpList_plain hg fun K' hK' => ?_
  unfold Oper.wp
  simp [execOp, hop, resolve, invoke, builtin, h0 , h1, hrun, Result.andThen]
  exact hK' _ _ hK
end
end Go.Proofs.YtoilokfpfmicaaaDoor
