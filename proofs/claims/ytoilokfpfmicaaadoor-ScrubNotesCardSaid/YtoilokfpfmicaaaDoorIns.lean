/- A row made anew with one more in its midst: append(append(append([]T{}, l[:k]...), x), l[k:]...), in whatever order its parts are reckoned. -/
import Derived.Test.YtoilokfpfmicaaaDoorReg3
import Derived.Test.YtoilokfpfmicaaaDoorApp
set_option linter.unusedVariables false
set_option linter.unusedSimpArgs false
namespace Go.Proofs.YtoilokfpfmicaaaDoor
open Go.RowKit Go.ChangeMaps

/-- Does it wait for operation j? -/
def waitsB (o : Oper) (j : Nat) : Bool := o.after.any fun e => Region.binds .any e && e.on == j
theorem waits_for {o : Oper} {L : Nat → Bool} (h : ∀ e ∈ o.after, Region.binds .any e = true → L e.on = true) (j : Nat) (hj : waitsB o j = true) : L j = true := by
  obtain ⟨e, he, hb⟩ := Array.any_eq_true'.1 hj
  simp only [Bool.and_eq_true, beq_iff_eq] at hb
  exact hb.2 ▸ h e he hb.1
theorem waits_arr {A : Array Edge} {L : Nat → Bool} (h : ∀ e ∈ A, Region.binds .any e = true → L e.on = true) (j : Nat) (hj : (A.any fun e => Region.binds .any e && e.on == j) = true) : L j = true := by
  obtain ⟨e, he, hb⟩ := Array.any_eq_true'.1 hj
  simp only [Bool.and_eq_true, beq_iff_eq] at hb
  exact hb.2 ▸ h e he hb.1
theorem closed_for {l : List Oper} {L : Nat → Bool} (h : Closed l L) {i : Nat} {o : Oper} (hi : l[i]? = some o) (j : Nat) (hj : waitsB o j = true) (hl : L i = true) : L j = true := waits_for (h i o hi hl) j hj
theorem exec_append {P : Program} {a : Act} {o : Oper} {w w' : World} {s x : Operand} {t : TypeId} (ho : o.op = .call { callee := .builtin .append, args := #[s, x], argTypes := #[t, t] }) {v u v' : Value} (hs : a.eval s = v) (hx : a.eval x = u)
    (hr : (Builtin.append_ #[t, t] o.type #[v, u]).run P w = .ok v' w') : (execOp a.eval o).run P w = .ok (.value v') w' := by
  unfold execOp
  simp only [ho, resolve, invoke, builtin, Sem.run_bind, Sem.run_pure, Result.andThen_ok, List.map_toArray, List.map_cons, List.map_nil, hs, hx, hr]
section
variable {α : Type} {P : Program} {t e : TypeId} {size bytes : Nat} {enc : α → List Value}
/-- The row so far: which operation made it, and what it holds. -/
def curV (L : Nat → Bool) (V : Nat → Value) (q r f : List α) : Option (Value × List α) :=
  if L 11 = true then some (V 11, f) else if L 7 = true then some (V 7, r) else if L 4 = true then some (V 4, q) else if L 0 = true then some (V 0, []) else none
structure InsJ (enc : α → List Value) (e : TypeId) (size : Nat) (W0 : World) (x : α) (q r f : List α) (fx : List (Nat × Value)) (L : Nat → Bool) (V : Nat → Value) (W : World) : Prop where
  bel : Below W0.heap.size W0 W
  own : ∀ v ys, curV L V q r f = some (v, ys) → W.ownsRow W0.heap.size e size v ys.length (ys.flatMap enc)
  six : L 6 = true → ∃ g, V 6 = .slice (some ⟨g, 0, none⟩) 1 1 ∧ W.heap[g]? = some (.cells (enc x).toArray e (0, 0)) ∧ W0.heap.size ≤ g ∧ ∀ v ys, curV L V q r f = some (v, ys) → v.ownBlock ≠ some g
  fix : ∀ j c, (j, c) ∈ fx → L j = true → V j = c
variable {W0 W : World} {x : α} {q r f : List α} {fx : List (Nat × Value)} {L : Nat → Bool} {V : Nat → Value}
theorem InsJ.start (h : Below W0.heap.size W0 W) : InsJ enc e size W0 x q r f fx (fun _ => false) (fun _ => undef) W :=
  ⟨h, (fun v ys hc => by simp [curV] at hc), (fun h => by cases h), (fun _ _ _ h => by cases h)⟩
theorem InsJ.sixSl (h : InsJ enc e size W0 x q r f fx L V W) (h6 : L 6 = true) : Sl enc W (V 6) [x] := by
  obtain ⟨g, hv, hg, _⟩ := h.six h6
  rw [hv]
  exact Sl.of_block [x] hg (by simp) rfl (by simp) (by simp [maxLen])
/-- An operation that hands back what it hands back in every order. -/
theorem InsJ.val (h : InsJ enc e size W0 x q r f fx L V W) (i : Nat) (c : Value) (h0 : i ≠ 0) (h4 : i ≠ 4) (h6 : i ≠ 6) (h7 : i ≠ 7) (h11 : i ≠ 11) (hc : ∀ d, (i, d) ∈ fx → c = d) : InsJ enc e size W0 x q r f fx (upd L i) (updV V i c) W := by
  have e1 : curV (upd L i) (updV V i c) q r f = curV L V q r f := by
    unfold curV
    rw [upd_ne _ _ _ h0.symm, upd_ne _ _ _ h4.symm, upd_ne _ _ _ h7.symm, upd_ne _ _ _ h11.symm, updV_ne _ _ _ _ h0.symm, updV_ne _ _ _ _ h4.symm, updV_ne _ _ _ _ h7.symm, updV_ne _ _ _ _ h11.symm]
  refine ⟨h.bel, fun v ys hv => h.own v ys (e1 ▸ hv), fun hl => ?_, fun j d hj hl => ?_⟩
  · rw [upd_ne _ _ _ h6.symm] at hl
    rw [updV_ne _ _ _ _ h6.symm, e1]
    exact h.six hl
  · by_cases hji : j = i
    · subst hji; rw [updV_same]; exact hc d hj
    · rw [updV_ne _ _ _ _ hji]
      rw [upd_ne _ _ _ hji] at hl
      exact h.fix j d hj hl
theorem InsJ.zero (h : InsJ enc e size W0 x q r f fx L V W) (h0 : L 0 = false) (h4 : L 4 = true → L 0 = true) (h7 : L 7 = true → L 0 = true) (h11 : L 11 = true → L 0 = true) (hf : ∀ d, (0, d) ∉ fx) :
    InsJ enc e size W0 x q r f fx (upd L 0) (updV V 0 (.slice (some ⟨W.heap.size, 0, none⟩) 0 0)) (W.alloc (.cells #[] e)) := by
  have n4 : L 4 = false := by cases h : L 4 with | false => rfl | true => rw [h4 h] at h0; cases h0
  have n7 : L 7 = false := by cases h : L 7 with | false => rfl | true => rw [h7 h] at h0; cases h0
  have n11 : L 11 = false := by cases h : L 11 with | false => rfl | true => rw [h11 h] at h0; cases h0
  have e1 : curV (upd L 0) (updV V 0 (.slice (some ⟨W.heap.size, 0, none⟩) 0 0)) q r f = some (.slice (some ⟨W.heap.size, 0, none⟩) 0 0, []) := by
    unfold curV
    rw [upd_ne _ _ 11 (by decide), upd_ne _ _ 7 (by decide), upd_ne _ _ 4 (by decide), n4, n7, n11]
    simp
  refine ⟨h.bel.alloc h.bel.size _, fun v ys hv => ?_, fun hl => ?_, fun j d hj hl => ?_⟩
  · rw [e1] at hv
    cases hv
    have := own_made W e size
    refine ⟨this.1, ?_⟩
    rcases this.2 with h2 | ⟨g, cap, cur, h3, h4, h5⟩
    · exact .inl h2
    · exact .inr ⟨g, cap, cur, h3, Nat.le_trans h.bel.size h4, h5⟩
  · rw [upd_ne _ _ 6 (by decide)] at hl
    obtain ⟨g, k1, k2, k3, k4⟩ := h.six hl
    refine ⟨g, by rw [updV_ne _ _ 6 _ (by decide)]; exact k1, below_heap (Gw.alloc_of W _).below k2, k3, fun v ys hv => ?_⟩
    rw [e1] at hv
    cases hv
    have := lt_of_heap k2
    simp only [Value.ownBlock, ne_eq, Option.some.injEq]
    omega
  · have hji : j ≠ 0 := fun e => hf d (e ▸ hj)
    rw [updV_ne _ _ _ _ hji]
    rw [upd_ne _ _ _ hji] at hl
    exact h.fix j d hj hl
theorem InsJ.lay (h : InsJ enc e size W0 x q r f fx L V W) (hf : ∀ d, (6, d) ∉ fx) : InsJ enc e size W0 x q r f fx (upd L 6) (updV V 6 (.slice (some ⟨W.heap.size, 0, none⟩) 1 1)) (W.alloc (.cells (enc x).toArray e)) := by
  have e1 : curV (upd L 6) (updV V 6 (.slice (some ⟨W.heap.size, 0, none⟩) 1 1)) q r f = curV L V q r f := by
    unfold curV
    rw [upd_ne _ _ 11 (by decide), upd_ne _ _ 7 (by decide), upd_ne _ _ 4 (by decide), upd_ne _ _ 0 (by decide), updV_ne _ _ 11 _ (by decide), updV_ne _ _ 7 _ (by decide), updV_ne _ _ 4 _ (by decide), updV_ne _ _ 0 _ (by decide)]
  refine ⟨h.bel.alloc h.bel.size _, fun v ys hv => (h.own v ys (e1 ▸ hv)).alloc _, fun _ => ⟨W.heap.size, by simp, heap_at _ _ _ rfl, h.bel.size, fun v ys hv he => ?_⟩, fun j d hj hl => ?_⟩
  · have := (h.own v ys (e1 ▸ hv)).lt W.heap.size he
    omega
  · have hji : j ≠ 6 := fun e => hf d (e ▸ hj)
    rw [updV_ne _ _ _ _ hji]
    rw [upd_ne _ _ _ hji] at hl
    exact h.fix j d hj hl
theorem InsJ.app (E : ElemT P t e size bytes enc) (h : InsJ enc e size W0 x q r f fx L V W) (i : Nat) (h6 : i ≠ 6) (hf : ∀ d, (i, d) ∉ fx) {v u : Value} {ys zs : List α} (hcur : curV L V q r f = some (v, ys)) (hu : Sl enc W u zs)
    (hcur' : ∀ v', curV (upd L i) (updV V i v') q r f = some (v', ys ++ zs)) (hb1 : ys.length + zs.length ≤ maxLen) (hb2 : (ys.length + zs.length) * bytes ≤ 140737488355328) (ty : TypeId) :
    ∃ v' W', (Builtin.append_ #[t, t] ty #[v, u]).run P W = .ok v' W' ∧ InsJ enc e size W0 x q r f fx (upd L i) (updV V i v') W' := by
  have hown := h.own v ys hcur
  obtain ⟨v', W', r1, r2, r3, r4⟩ := run_append_sl E W W0.heap.size ty v ys.length (ys.flatMap enc) hown u zs hu hb1 hb2 h.bel.size
  refine ⟨v', W', r1, ?_, ?_, ?_, ?_⟩
  · exact h.bel.grown r3 h.bel.size (fun k hk => (hown.lt k hk).1)
  · intro v2 ys2 hv2
    rw [hcur'] at hv2
    cases hv2
    rw [List.length_append, List.flatMap_append]
    exact r2
  · intro hl
    rw [upd_ne _ _ _ h6.symm] at hl
    obtain ⟨g, k1, k2, k3, k4⟩ := h.six hl
    have hg := k4 v ys hcur
    have hlt := lt_of_heap k2
    refine ⟨g, by rw [updV_ne _ _ _ _ h6.symm]; exact k1, (r3.block g hlt (fun e => hg e.symm)).trans k2, k3, fun v2 ys2 hv2 => ?_⟩
    rw [hcur'] at hv2
    cases hv2
    rcases r4 with e1 | e1
    · rw [e1]; exact hg
    · rw [e1]
      simp only [ne_eq, Option.some.injEq]
      omega
  · intro j d hj hl
    have hji : j ≠ i := fun e => hf d (e ▸ hj)
    rw [updV_ne _ _ _ _ hji]
    rw [upd_ne _ _ _ hji] at hl
    exact h.fix j d hj hl
end
theorem Sl.takeN {α : Type} {enc : α → List Value} {w : World} {A : Option Addr} {n cap : Nat} {xs : List α} (h : Sl enc w (.slice A n cap) xs) (k : Nat) (hk : k ≤ xs.length) : Sl enc w (.slice A k cap) (xs.take k) := by
  obtain ⟨A', cap', hv, h1, h2, h3⟩ := h
  cases hv
  refine ⟨A, cap, by simp; omega, by simp; omega, h2, fun hne => ?_⟩
  obtain ⟨b, o, e, r⟩ := h3 (by rintro rfl; simp at hne)
  refine ⟨b, o, e, fun j u hu => r j u ?_⟩
  have e2 : xs.flatMap enc = (xs.take k).flatMap enc ++ (xs.drop k).flatMap enc := by rw [← List.flatMap_append, List.take_append_drop]
  rw [e2, List.getElem?_append_left (List.getElem?_eq_some_iff.1 hu).1]
  exact hu
/-- A slice's end: where nothing is left the address does not matter. -/
theorem Sl.dropN {α : Type} {enc : α → List Value} {w : World} {b o n cap : Nat} {xs : List α} {size : Nat} (hs : ∀ x, (enc x).length = size) (h : Sl enc w (.slice (some ⟨b, o, none⟩) n cap) xs) (k : Nat) (hk : k ≤ xs.length) (a : Addr) (ha : k < xs.length → a = ⟨b, o + k * size, none⟩) :
    Sl enc w (.slice (some a) (n - k) (cap - k)) (xs.drop k) := by
  obtain ⟨A', cap', hv, h1, h2, h3⟩ := h
  cases hv
  refine ⟨some a, cap - k, by simp, by simp; omega, by omega, fun hne => ?_⟩
  have hlt : k < xs.length := by
    rcases Nat.lt_or_ge k xs.length with h | h
    · exact h
    · exact absurd (List.drop_of_length_le h) hne
  obtain ⟨b', o', e, r⟩ := h3 (by rintro rfl; simp at hne)
  cases e
  refine ⟨b, o + k * size, by rw [ha hlt], fun j u hu => ?_⟩
  rw [Nat.add_assoc]
  apply r
  have e2 : xs.flatMap enc = (xs.take k).flatMap enc ++ (xs.drop k).flatMap enc := by rw [← List.flatMap_append, List.take_append_drop]
  have hl : ((xs.take k).flatMap enc).length = k * size := by rw [len_flat hs, List.length_take, Nat.min_eq_left hk]
  rw [e2, List.getElem?_append_right (by omega), hl, Nat.add_sub_cancel_left]
  exact hu
/-- As the walk spells it. -/
theorem Sl.cut {α : Type} {enc : α → List Value} {w : World} {A : Option Addr} {n cap : Nat} {xs : List α} {size : Nat} (hs : ∀ x, (enc x).length = size) (h : Sl enc w (.slice A n cap) xs) (k : Nat) (hk : k ≤ xs.length) :
    Sl enc w (.slice (if cap = k then A else A.map (·.add (k * size))) (n - k) (cap - k)) (xs.drop k) := by
  obtain ⟨A', cap', hv, h1, h2, h3⟩ := h
  cases hv
  refine ⟨if cap = k then A else A.map (·.add (k * size)), cap - k, by simp, by simp; omega, by omega, fun hne => ?_⟩
  have hlt : k < xs.length := by
    rcases Nat.lt_or_ge k xs.length with h | h
    · exact h
    · exact absurd (List.drop_of_length_le h) hne
  obtain ⟨b', o', e, r⟩ := h3 (by rintro rfl; simp at hne)
  subst e
  refine ⟨b', o' + k * size, by rw [if_neg (by omega)]; simp [add_lit], fun j u hu => ?_⟩
  rw [Nat.add_assoc]
  apply r
  have e2 : xs.flatMap enc = (xs.take k).flatMap enc ++ (xs.drop k).flatMap enc := by rw [← List.flatMap_append, List.take_append_drop]
  have hl : ((xs.take k).flatMap enc).length = k * size := by rw [len_flat hs, List.length_take, Nat.min_eq_left hk]
  rw [e2, List.getElem?_append_right (by omega), hl, Nat.add_sub_cancel_left]
  exact hu
theorem owns_down {w : World} {base base' : Nat} {e : TypeId} {size n : Nat} {v : Value} {xs : List Value} (h : w.ownsRow base e size v n xs) (hb : base' ≤ base) : w.ownsRow base' e size v n xs := by
  refine ⟨h.1, ?_⟩
  rcases h.2 with h2 | ⟨g, cap, cur, h3, h4, h5⟩
  · exact .inl h2
  · exact .inr ⟨g, cap, cur, h3, Nat.le_trans hb h4, h5⟩
end Go.Proofs.YtoilokfpfmicaaaDoor
