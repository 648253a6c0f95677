/- Appending a row, wherever it lies, to one of the call's own. No program in sight. -/
import Derived.Test.YtoilokfpfmicaaaDoorCells
set_option linter.unusedVariables false
set_option linter.unusedSimpArgs false
namespace Go.Proofs.YtoilokfpfmicaaaDoor
open Go.RowKit

theorem run_append_none {P : Program} (w : World) (base : Nat) (t ty e : TypeId) (i : TypeInfo) (size : Nat) (ht : P.underlying t = some (.slice e)) (hi : P.info? e = some i)
    (v : Value) (n : Nat) (xs : List Value) (hown : w.ownsRow base e size v n xs) (c : Nat) :
    (Builtin.append_ #[t, t] ty #[v, .slice none 0 c]).run P w = .ok v w := by
  rcases hown.2 with ⟨rfl, rfl⟩ | ⟨g, cap, cur, rfl, _, _, hnc, _⟩
  · simp [Builtin.append_, run_underlying ht, sizeOf, typeInfo, hi, Builtin.lenOf, Builtin.firstCells]
  · simp [Builtin.append_, run_underlying ht, sizeOf, typeInfo, hi, Builtin.lenOf, Builtin.firstCells, hnc, storeCells]
/-- What is asked of an element's type. -/
structure ElemT {α : Type} (P : Program) (t e : TypeId) (size bytes : Nat) (enc : α → List Value) : Prop where
  ht : P.underlying t = some (.slice e)
  hi : ∃ i z, P.info? e = some i ∧ i.zero = some z ∧ i.size = size ∧ i.bytes = bytes ∧ z.cells.size = size
  pos : 0 < size
  len : ∀ x, (enc x).length = size
  one : ∀ x, ∀ u ∈ enc x, u.oneCell' = true
theorem ElemT.of {α : Type} {P : Program} {t e : TypeId} {size bytes : Nat} {enc : α → List Value} (z : Value) (ht : P.underlying t = some (.slice e)) (h : (P.info? e).map (fun i => (i.zero, i.size, i.bytes)) = some (some z, size, bytes))
    (hz : z.cells.size = size) (pos : 0 < size) (len : ∀ x, (enc x).length = size) (one : ∀ x, ∀ u ∈ enc x, u.oneCell' = true) : ElemT P t e size bytes enc := by
  obtain ⟨i, h1, h2, h3, h4⟩ := info_parts h
  exact ⟨ht, ⟨i, z, h1, h2, h3, h4, hz⟩, pos, len, one⟩
theorem run_append_sl {α : Type} {P : Program} {t e : TypeId} {size bytes : Nat} {enc : α → List Value} (E : ElemT P t e size bytes enc) (w : World) (base : Nat) (ty : TypeId)
    (v : Value) (n : Nat) (xs : List Value) (hown : w.ownsRow base e size v n xs) (u : Value) (ys : List α) (hs : Sl enc w u ys)
    (h63 : n + ys.length ≤ maxLen) (hbytes : (n + ys.length) * bytes ≤ 140737488355328) (hbase : base ≤ w.heap.size) :
    ∃ v' w', (Builtin.append_ #[t, t] ty #[v, u]).run P w = .ok v' w' ∧ w'.ownsRow base e size v' (n + ys.length) (xs ++ ys.flatMap enc) ∧ w.grownBy w' v.ownBlock ∧ (v'.ownBlock = v.ownBlock ∨ v'.ownBlock = some w.heap.size) := by
  obtain ⟨A, cap, rfl, h1, h2⟩ := hs.form
  obtain ⟨i, z, hi, hz, hsz, hby, hzs⟩ := E.hi
  cases A with
  | none =>
    obtain ⟨rfl, _⟩ := hs.of_none
    exact ⟨v, w, run_append_none w base t ty e i size E.ht hi v n xs hown cap, by simpa using hown, ⟨rfl, rfl, rfl, Nat.le_refl _, fun _ _ _ => rfl⟩, Or.inl rfl⟩
  | some a =>
    have hsrc := hs.src (fun x e => by have := E.len x; rw [e] at this; have := E.pos; simp at *; omega)
    obtain ⟨v', w', r1, r2, r3, _, r5⟩ := run_append_own_at (P := P) w base t ty e i z size bytes E.ht hi hz hsz hby hzs E.pos v n xs hown a ys.length cap (ys.flatMap enc) (len_flat E.len ys) hsrc.2
      (fun u hu => by obtain ⟨x, _, hx⟩ := List.mem_flatMap.1 hu; exact E.one x u hx) h63 hbytes hbase
    exact ⟨v', w', r1, r2, r3, r5⟩
/-- At the operation, for the walk. -/
theorem wpList_append_sl {α : Type} {P : Program} {t e : TypeId} {size bytes : Nat} {enc : α → List Value} (E : ElemT P t e size bytes enc) {w : World} {ops : Array Oper} {rest : List Oper} {o : Oper} {a : Act} {Q : Exit → Act → World → Prop} (hgd : o.guard = none) (s x : Operand)
    (ho : o.op = .call { callee := .builtin .append, args := #[s, x], argTypes := #[t, t] }) (base : Nat)
    (v : Value) (n : Nat) (xs : List Value) (hs : a.eval s = v) (hown : w.ownsRow base e size v n xs) (u : Value) (hx : a.eval x = u) (ys : List α) (hsl : Sl enc w u ys)
    (h63 : n + ys.length ≤ maxLen) (hbytes : (n + ys.length) * bytes ≤ 140737488355328) (hbase : base ≤ w.heap.size)
    (h : ∀ v' w', w'.ownsRow base e size v' (n + ys.length) (xs ++ ys.flatMap enc) → w.grownBy w' v.ownBlock → (v'.ownBlock = v.ownBlock ∨ v'.ownBlock = some w.heap.size) → wpList P ops Q rest (a.put o.dst v') w') :
    wpList P ops Q (o :: rest) a w := by
  refine wpList_plain hgd fun K hK => ?_
  obtain ⟨v', w', hr, h2, h3, h5⟩ := run_append_sl E w base o.type v n xs hown u ys hsl h63 hbytes hbase
  unfold Oper.wp execOp
  simp only [ho, resolve, invoke, builtin, Sem.run_bind, Sem.run_pure, Result.andThen_ok, List.map_toArray, List.map_cons, List.map_nil, hs, hx, hr]
  exact hK _ _ (h v' w' h2 h3 h5)
/-- The call's own row grown: all older stays. -/
theorem below_app {w W W' : World} {e : TypeId} {size n : Nat} {v : Value} {xs : List Value} (h : Below w.heap.size w W) (hown : W.ownsRow w.heap.size e size v n xs) (hg : W.grownBy W' v.ownBlock) : Below w.heap.size w W' :=
  h.grown hg h.size (fun k e => (hown.lt k e).1)
/-- append(s, x) of one: it lies in a new block of its own. -/
theorem sl_lit {α : Type} {enc : α → List Value} (w : World) (T : TypeId) (xs : List α) (cs : Array Value) (h : xs.flatMap enc = cs.toList) (hm : xs.length ≤ maxLen) : Sl enc (w.alloc (.cells cs T)) (.slice (some ⟨w.heap.size, 0, none⟩) xs.length xs.length) xs :=
  Sl.of_block xs (c := cs) (T := T) (f := (0, 0)) (heap_at w _ _ rfl) (by rw [h]; exact List.prefix_refl _) rfl (Nat.le_refl _) hm
theorem own_ne {w : World} {base : Nat} {e T : TypeId} {size n b : Nat} {v : Value} {xs : List Value} {c : Array Value} {f : Nat × Nat} (h : w.ownsRow base e size v n xs) (hb : w.heap[b]? = some (.cells c T f)) (hT : T ≠ e) : v.ownBlock ≠ some b := by
  rcases h.2 with ⟨rfl, _⟩ | ⟨g, cap, cur, rfl, _, hg, _⟩
  · simp [Value.ownBlock]
  · intro e1
    simp only [Value.ownBlock, Option.some.injEq] at e1
    subst e1
    rw [hg] at hb
    cases hb
    exact hT rfl
theorem below_chg {w w' : World} {base g : Nat} (h : Chg (· = g) w w') (hb : base ≤ g) (hw : base ≤ w.heap.size) : Below base w w' := ⟨h.os, h.tape, h.output, h.size, fun k hk => h.block k (by omega) (fun e => by omega)⟩
theorem below_trans {a b c : World} {base : Nat} (h : Below base a b) (k : Below base b c) : Below base a c := h.trans k
theorem own_slice {w : World} {base : Nat} {e : TypeId} {size n : Nat} {v : Value} {xs : List Value} (h : w.ownsRow base e size v n xs) : ∃ A c, v = .slice A n c := by
  rcases h.2 with ⟨rfl, rfl⟩ | ⟨g, cap, cur, rfl, _⟩
  · exact ⟨_, _, rfl⟩
  · exact ⟨_, _, rfl⟩
end Go.Proofs.YtoilokfpfmicaaaDoor
