/- Arguments opened: a slice whose elements read. No program in sight. -/
import Derived.Test.YtoilokfpfmicaaaDoorPost
import Derived.Test.YtoilokfpfmicaaaDoorSpots
import Derived.Deep.Slices
import Derived.OpenShut
import Derived.ChangeArms
set_option linter.unusedVariables false
set_option linter.unusedSimpArgs false
namespace Go.Proofs.YtoilokfpfmicaaaDoor
open Go.RowKit Go.ChangeShapes Go.WideShapes Go.ChangeMaps
variable {H : Type} {enc : TypeId × Value → H} {P : Program} {w : World}

theorem flat_getElem {α : Type} {f : α → List Value} {sz : Nat} (hl : ∀ x, (f x).length = sz) (hp : 0 < sz) (xs : List α) (j : Nat) (u : Value) (h : (xs.flatMap f)[j]? = some u) :
    ∃ x, xs[j / sz]? = some x ∧ (f x)[j % sz]? = some u := by
  have hlt := (List.getElem?_eq_some_iff.1 h).1
  rw [len_flat hl] at hlt
  have hj : j / sz < xs.length := Nat.div_lt_of_lt_mul (by rw [Nat.mul_comm]; exact hlt)
  refine ⟨xs[j / sz], List.getElem?_eq_getElem hj, ?_⟩
  have := flat_at hl xs (j / sz) _ (List.getElem?_eq_getElem hj) (j % sz) (Nat.mod_lt _ hp)
  rw [Nat.mul_comm, Nat.div_add_mod] at this
  rw [← this, h]
theorem list_of {α : Type} {n : Nat} {Q : Nat → α → Prop} (h : ∀ i, i < n → ∃ x, Q i x) : ∃ xs : List α, xs.length = n ∧ ∀ i x, xs[i]? = some x → Q i x := by
  induction n with
  | zero => exact ⟨[], rfl, fun i x hx => by simp at hx⟩
  | succ n ih =>
    obtain ⟨xs, hl, hx⟩ := ih fun i hi => h i (Nat.lt_succ_of_lt hi)
    obtain ⟨y, hy⟩ := h n (Nat.lt_succ_self n)
    refine ⟨xs ++ [y], by simp [hl], fun i x hi => ?_⟩
    by_cases hlt : i < xs.length
    · rw [List.getElem?_append_left hlt] at hi
      exact hx i x hi
    · have hlt2 := (List.getElem?_eq_some_iff.1 hi).1
      simp at hlt2
      have : i = xs.length := by omega
      subst this
      simp at hi
      subst hi
      rw [hl]
      exact hy
/-- A slice, opened: what it reads as, each element as 'dec' says. -/
theorem open_sl {α : Type} {f : α → List Value} {sz : Nat} {good : α → Prop} {r : Reach} {b0 base : Nat} {sp : Nat → Bool} {held : Bool} {t e : TypeId} {v : Value} {d : DataW H} {p : List MemPlace}
    (ht : P.underlying t = some (.slice e)) (hC : P.cellsOf e = sz) (hp : 0 < sz) (hlen : ∀ a, (f a).length = sz) (hv : Value.okWide P w r b0 t v) (h : DataW.Trod enc P w base sp held t v d p)
    (dec : ∀ n cs x, DataW.trod enc P w base sp held n e cs = some x → ∃ a : α, cs = f a ∧ good a) : ∃ xs : List α, Sl f w v xs ∧ ∀ a ∈ xs, good a := by
  obtain ⟨A, len, cap, rfl⟩ := okWide_slice ht hv
  obtain ⟨fuel, hf⟩ := h
  rcases Go.Deep.open_slice ht hf with ⟨hc, _⟩ | ⟨a, len', cap', m, n, D, Pl, hcs, hb, hl, hm, hmm, hx, hi⟩
  · simp [Value.cells] at hc
    obtain ⟨rfl, rfl, rfl⟩ := hc
    exact ⟨[], Sl.nil _ _, by simp⟩
  · simp [Value.cells] at hcs
    obtain ⟨rfl, rfl, rfl⟩ := hcs
    have hle : len ≤ m := by subst hmm; split <;> omega
    have key : ∀ i, i < len → ∃ x : α, good x ∧ ∀ j, j < sz → w.cell? (a.add (i * sz + j)) = (f x)[j]? := by
      intro i hil
      obtain ⟨cs', h1, h2⟩ := hi i (Nat.lt_of_lt_of_le hil hle)
      obtain ⟨x, rfl, hg⟩ := dec _ _ _ h2
      rw [hC] at h1
      obtain ⟨_, h3, h4⟩ := World.cells?_some h1
      exact ⟨x, hg, fun j hj => by rw [← h4 j hj, Go.Deep.add_add]⟩
    obtain ⟨xs, hxl, hxs⟩ := list_of key
    refine ⟨xs, ⟨some a, cap, by rw [hxl], by omega, hm, fun hne => ?_⟩, fun x hx => ?_⟩
    · have hpos : 0 < xs.length := List.length_pos_iff.2 hne
      obtain ⟨b, off, spot⟩ := a
      obtain ⟨x0, hx0⟩ : ∃ x, xs[0]? = some x := ⟨_, List.getElem?_eq_getElem hpos⟩
      have hc0 := (hxs 0 x0 hx0).2 0 hp
      obtain ⟨u0, hu0⟩ : ∃ u, (f x0)[0]? = some u := ⟨_, List.getElem?_eq_getElem (by rw [hlen]; exact hp)⟩
      have hspot : spot = none := by simpa [Addr.add] using World.cell?_spot (hc0.trans hu0)
      subst hspot
      refine ⟨b, off, rfl, fun j u hu => ?_⟩
      obtain ⟨x, h1, h2⟩ := flat_getElem hlen hp xs j u hu
      have h3 := (hxs _ x h1).2 (j % sz) (Nat.mod_lt _ hp)
      rw [Nat.mul_comm, Nat.div_add_mod, add_lit] at h3
      rw [h3, h2]
    · obtain ⟨i, hi'⟩ := List.mem_iff_getElem?.1 hx
      exact (hxs i x hi').1
/-- A struct's cells, field by field. -/
theorem trod_fields {e : TypeId} {fs : Array Field} {n : Nat} {cs : List Value} {x : DataW H × List MemPlace} {base : Nat} {sp : Nat → Bool} {held : Bool} (he : P.underlying e = some (.struct fs)) (h : DataW.trod enc P w base sp held n e cs = some x) :
    cs.length = P.cellsOf e ∧ ∀ (i : Nat) (fd : Field), fs[i]? = some fd → ∃ m y, DataW.trod enc P w base sp held m fd.type ((cs.drop fd.offset).take (P.cellsOf fd.type)) = some y := by
  obtain ⟨ys, m, _, _, hl, hy, hg⟩ := DataW.trod_struct he h
  refine ⟨hl, fun i fd hi => ⟨m, ?_⟩⟩
  have := hg i fd hi
  have hlt := (Array.getElem?_eq_some_iff.1 hi).1
  rw [List.getElem?_eq_getElem (by omega)] at this
  exact ⟨_, this⟩
end Go.Proofs.YtoilokfpfmicaaaDoor
