/- Rows of extents. -/
import Derived.Test.YtoilokfpfmicaaaDoorCells
import Derived.Test.YtoilokfpfmicaaaDoorProg
set_option linter.unusedVariables false
set_option linter.unusedSimpArgs false
namespace Go.Proofs.YtoilokfpfmicaaaDoor
open Go.RowKit
set_option maxHeartbeats 400000
def encS (x : ByteArray × Int) : List Value := [.string x.1, .int .i64 x.2]
theorem flat_at {α : Type} {enc : α → List Value} {sz : Nat} (he : ∀ x, (enc x).length = sz) : ∀ (xs : List α) (j : Nat) (x : α), xs[j]? = some x → ∀ i, i < sz → (xs.flatMap enc)[j * sz + i]? = (enc x)[i]?
  | [], j, x, h, i, hi => by simp at h
  | a :: xs, 0, x, h, i, hi => by
    simp at h
    subst h
    rw [List.flatMap_cons, Nat.zero_mul, Nat.zero_add, List.getElem?_append_left (by rw [he]; exact hi)]
  | a :: xs, j + 1, x, h, i, hi => by
    rw [List.flatMap_cons, List.getElem?_append_right (by rw [he, Nat.succ_mul]; omega), he, Nat.succ_mul, show j * sz + sz + i - sz = j * sz + i from by omega]
    exact flat_at he xs j x (by simpa using h) i hi
theorem Sl.loads {α : Type} {enc : α → List Value} {w : World} {A : Option Addr} {n cap : Nat} {xs : List α} (h : Sl enc w (.slice A n cap) xs) {sz : Nat} (hs : ∀ x, (enc x).length = sz) :
    ∀ j x, xs[j]? = some x → ∃ b o, A = some ⟨b, o, none⟩ ∧ ∀ i u, (enc x)[i]? = some u → w.cell? ⟨b, o + j * sz + i, none⟩ = some u := by
  intro j x hj
  obtain ⟨A', cap', hv, h1, h2, h3⟩ := h
  cases hv
  obtain ⟨b, o, e, r⟩ := h3 (by rintro rfl; simp at hj)
  refine ⟨b, o, e, fun i u hi => ?_⟩
  rw [Nat.add_assoc]
  apply r
  rw [flat_at hs xs j x hj i (by rw [← hs x]; exact (List.getElem?_eq_some_iff.1 hi).1)]
  exact hi
theorem take_eq_succ {α : Type} {xs ys : List α} {k : Nat} {x : α} (h : xs.take k = ys.take k) (hx : xs[k]? = some x) (hy : ys[k]? = some x) : xs.take (k + 1) = ys.take (k + 1) := by
  rw [List.take_add_one, List.take_add_one, h, hx, hy]
/-- Whether two are one: not turned by simp. -/
def isSame {α : Type} [DecidableEq α] (x y : α) : Bool := decide (x = y)
theorem isSame_no {α : Type} [DecidableEq α] {x y : α} (h : isSame x y = false) : x ≠ y := of_decide_eq_false h
theorem isSame_yes {α : Type} [DecidableEq α] {x y : α} (h : isSame x y = true) : x = y := of_decide_eq_true h
/-- Whether one stands in a list. -/
def inL {α : Type} [DecidableEq α] (xs : List α) (x : α) : Bool := xs.any (isSame x)
theorem inL_iff {α : Type} [DecidableEq α] {xs : List α} {x : α} : inL xs x = true ↔ x ∈ xs := by
  unfold inL isSame
  simp
theorem toL_inj {a b : ByteArray} (h : a.toList = b.toList) : a = b := by
  rw [ByteArray.toList_eq, ByteArray.toList_eq] at h
  obtain ⟨⟨x⟩⟩ := a
  obtain ⟨⟨y⟩⟩ := b
  simp at h
  rw [h]
theorem decS (n1 n2 : ByteArray) (i1 i2 : Int) : decide ((n1, i1) = (n2, i2)) = (n1.toList == n2.toList && i1 == i2) := by
  have : (n1 = n2) ↔ (n1.toList = n2.toList) := ⟨fun e => by rw [e], toL_inj⟩
  by_cases h1 : n1.toList = n2.toList <;> by_cases h2 : i1 = i2 <;> simp [h1, h2, Prod.mk.injEq, this]
theorem eqlS (n1 n2 : ByteArray) (i1 i2 : Int) (w : World) : (binOp .eql 25 (.agg #[.string n1, .int .i64 i1]) (.agg #[.string n2, .int .i64 i2])).run Tryd.prog w = .ok (.bool (isSame (n1, i1) (n2, i2))) w := by
  unfold isSame
  rw [decS]
  by_cases h1 : n1.toList = n2.toList <;> by_cases h2 : i1 = i2 <;> go_simp
theorem neqS (n1 n2 : ByteArray) (i1 i2 : Int) (w : World) : (binOp .neq 25 (.agg #[.string n1, .int .i64 i1]) (.agg #[.string n2, .int .i64 i2])).run Tryd.prog w = .ok (.bool (!isSame (n1, i1) (n2, i2))) w := by
  unfold isSame
  rw [decS]
  by_cases h1 : n1.toList = n2.toList <;> by_cases h2 : i1 = i2 <;> go_simp
attribute [local go_sem high] eqlS neqS
theorem equalS (xs ys : List (ByteArray × Int)) (v u : Value) (w : World) (h : Sl encS w v xs) (k : Sl encS w u ys) :
    Calls Tryd.prog 10 #[v, u] w fun e w' => e = .returned (.bool (decide (xs = ys))) ∧ ∃ n, w' = w.drewN n := by
  have hsz : ∀ x : (ByteArray × Int), (encS x).length = 2 := fun x => rfl
  obtain ⟨A, cap, rfl, h1, h2⟩ := h.form
  obtain ⟨A', cap', rfl, h1', h2'⟩ := k.form
  unfold maxLen at h2 h2'
  by_cases hl : ¬ xs.length = ys.length
  · have hl' : ¬ (xs.length : Int) = (ys.length : Int) := by omega
    rw [show decide (xs = ys) = false from decide_eq_false fun e => hl (by rw [e])]
    clear h k hsz hl
    go_enter Tryd.func10, Tryd.ntmps10
    go_wp2
    go_ret
    exact ⟨rfl, 0, rfl⟩
  replace hl : xs.length = ys.length := Decidable.not_not.1 hl
  have hr1 := hid (h.loads hsz)
  have hr2 := hid (k.loads hsz)
  clear h k hsz
  have hl2 : (ys.length : Int) = (xs.length : Int) := by omega
  replace hl := hid hl
  generalize hres : decide (xs = ys) = res
  replace hres := hid hres
  go_enter Tryd.func10, Tryd.ntmps10
  go_wp2
  go_loopg [13] xs.length (fun g s13 wr => ∃ kk q : Nat, kk ≤ xs.length ∧ xs.length - kk ≤ g ∧ s13 = .int .i64 kk ∧ wr = w.drewN q ∧ Hid (xs.take kk = ys.take kk))
  case atStart => exact ⟨0, 0, Nat.zero_le _, by omega, rfl, rfl, by simp [Hid]⟩
  case round =>
    obtain ⟨kk, q, hkk, hg, rfl, hwr, B⟩ := hrel
    have hcell : ∀ p, wr.cell? p = w.cell? p := fun p => by rw [hwr, World.cell?_drewN]
    replace hwr := hid hwr
    by_cases hlt : kk < xs.length
    · obtain ⟨x, hx⟩ : ∃ x, xs[kk]? = some x := ⟨_, List.getElem?_eq_getElem hlt⟩
      obtain ⟨y, hy⟩ : ∃ y, ys[kk]? = some y := ⟨_, List.getElem?_eq_getElem (by have := hl.out; omega)⟩
      obtain ⟨b, o, rfl, g1⟩ := hr1.out kk x hx
      obtain ⟨b', o', rfl, g2⟩ := hr2.out kk y hy
      simp only [← hcell] at g1 g2
      clear hcell
      replace hx := hid hx
      replace hy := hid hy
      (obtain ⟨n1, i1⟩ := x; obtain ⟨n2, i2⟩ := y; have c1 := g1 0 _ rfl; have c2 := g1 1 _ rfl; have c3 := g2 0 _ rfl; have c4 := g2 1 _ rfl; simp only [Nat.add_zero] at c1 c3)
      clear g1 g2
      have hltz : (kk : Int) < (xs.length : Int) := by omega
      have hltz2 : (kk : Int) < (ys.length : Int) := by have := hl.out; omega
      cases hxy : isSame (n1, i1) (n2, i2) with
      | false =>
        go_wp2_with fail
        go_quiet (fail)
        go_wp2
        go_ret
        have hr := hres.out
        rw [decide_eq_false (fun e => by
          have h1 := hx.out
          have h2 := hy.out
          rw [e, h2] at h1
          exact isSame_no hxy (Option.some.inj h1).symm)] at hr
        subst hr
        exact ⟨rfl, q + nq, by rw [hwr.out, World.drewN_drewN]⟩
      | true =>
        go_wp2_with fail
        go_quiet (fail)
        go_wp2
        go_roundg (xs.length - (kk + 1))
        case measure => omega
        case rel => exact ⟨kk + 1, q + nq, by omega, by omega, by go_num, by rw [hwr.out, World.drewN_drewN], take_eq_succ B.out hx.out (hy.out.trans (congrArg some (isSame_yes hxy).symm))⟩
    · have hltz : ¬ (kk : Int) < (xs.length : Int) := by omega
      have : xs = ys := by
        have h1 := B.out
        rwa [List.take_of_length_le (by omega), List.take_of_length_le (by have := hl.out; omega)] at h1
      have hr := hres.out
      rw [decide_eq_true this] at hr
      subst hr
      clear this
      go_wp2
      go_ret
      exact ⟨rfl, q, hwr.out⟩

theorem indexS (xs : List (ByteArray × Int)) (x : (ByteArray × Int)) (v : Value) (w : World) (h : Sl encS w v xs) :
    Calls Tryd.prog 24 #[v, .agg (encS x).toArray] w fun e w' => (∃ r : Int, e = .returned (.int .i64 r) ∧ (0 ≤ r ↔ x ∈ xs)) ∧ Gw w w' := by
  have hsz : ∀ x : (ByteArray × Int), (encS x).length = 2 := fun x => rfl
  obtain ⟨A, cap, rfl, h1, h2⟩ := h.form
  unfold maxLen at h2
  have hr1 := hid (h.loads hsz)
  clear h hsz
  (obtain ⟨xn, xi⟩ := x)
  go_enter Tryd.func24, Tryd.ntmps24
  go_wp2
  have hbx := cell_box w #[.string xn, .int .i64 xi] 25 (0, 0)
  have hw0 := hid (Gw.alloc_of w (.cells #[.string xn, .int .i64 xi] 25))
  go_loopg [5, 8] xs.length (fun g s5 s8 wr => ∃ kk : Nat, kk ≤ xs.length ∧ xs.length - kk ≤ g ∧ s8 = .int .i64 kk ∧ Hid (Gw w wr ∧ (xn, xi) ∉ xs.take kk ∧ ∃ q, wr = (w.alloc (.cells #[.string xn, .int .i64 xi] 25)).drewN q))
  case atStart => exact ⟨0, Nat.zero_le _, by omega, rfl, hw0.out, by simp, 0, rfl⟩
  case round =>
    obtain ⟨kk, hkk, hg, rfl, B⟩ := hrel
    have hcell : ∀ p, wr.cell? p = (w.alloc (.cells #[.string xn, .int .i64 xi] 25)).cell? p := fun p => by
      obtain ⟨q, e⟩ := B.out.2.2
      rw [e, World.cell?_drewN]
    simp only [← hcell] at hbx
    by_cases hlt : kk < xs.length
    · obtain ⟨y, hy⟩ : ∃ y, xs[kk]? = some y := ⟨_, List.getElem?_eq_getElem (by omega)⟩
      obtain ⟨b, o, rfl, g1⟩ := hr1.out kk y hy
      replace g1 : ∀ i u, (encS y)[i]? = some u → wr.cell? ⟨b, o + kk * 2 + i, none⟩ = some u := fun i u hi => by
        rw [hcell]
        exact cell_old (g1 i u hi)
      clear hcell
      replace hy := hid hy
      (obtain ⟨n2, i2⟩ := y; have c1 := hbx 0; have c2 := hbx 1; have c3 := g1 0 _ rfl; have c4 := g1 1 _ rfl; simp at c1 c2; simp only [Nat.add_zero] at c3)
      clear g1 hbx
      have hltz : (kk : Int) < (xs.length : Int) := by omega
      cases hxy : isSame (xn, xi) (n2, i2) with
      | true =>
        go_wp2_with fail
        go_quiet (fail)
        go_wp2
        go_ret
        refine ⟨⟨kk, rfl, ?_⟩, B.out.1.drewN nq⟩
        rw [isSame_yes hxy]
        exact ⟨fun _ => List.mem_of_getElem? hy.out, fun _ => by omega⟩
      | false =>
        go_wp2_with fail
        go_quiet (fail)
        go_wp2
        go_roundg (xs.length - (kk + 1))
        case measure => omega
        case rel =>
          refine ⟨kk + 1, by omega, by omega, by go_num, ⟨B.out.1.drewN nq, ?_, ?_⟩⟩
          · rw [List.take_add_one, hy.out]
            intro hm
            rcases List.mem_append.1 hm with hm | hm
            · exact B.out.2.1 hm
            · exact isSame_no hxy (by simpa using hm)
          · obtain ⟨q, e⟩ := B.out.2.2
            exact ⟨q + nq, by rw [e, World.drewN_drewN]⟩
    · have hltz : ¬ (kk : Int) < (xs.length : Int) := by omega
      clear hcell
      go_wp2
      go_ret
      refine ⟨⟨-1, rfl, by omega, fun hm => ?_⟩, B.out.1⟩
      have := B.out.2.1
      rw [List.take_of_length_le (by omega)] at this
      exact absurd hm this
theorem containsS (xs : List (ByteArray × Int)) (x : (ByteArray × Int)) (v : Value) (w : World) (h : Sl encS w v xs) :
    Calls Tryd.prog 7 #[v, .agg (encS x).toArray] w fun e w' => e = .returned (.bool (inL xs x)) ∧ Gw w w' := by
  (obtain ⟨xn, xi⟩ := x)
  have hw0 := hid (Gw.alloc_of w (.cells #[.string xn, .int .i64 xi] 25))
  have hI := indexS xs (xn, xi) v (w.alloc (.cells #[.string xn, .int .i64 xi] 25)) (h.below (Gw.alloc_of w (.cells #[.string xn, .int .i64 xi] 25)).below)
  clear h
  change Calls _ _ #[v, .agg #[.string xn, .int .i64 xi]] _ _ at hI
  change Calls _ _ #[v, .agg #[.string xn, .int .i64 xi]] _ _
  go_enter Tryd.func7, Tryd.ntmps7
  go_wp2_with (go_at_call 24; refine hI.mono ?_; rintro e w' ⟨⟨r, rfl, hr⟩, hg⟩)
  go_ret
  refine ⟨ret_bool ?_, hw0.out.trans hg⟩
  rw [Bool.eq_iff_iff, inL_iff, ← hr]
  simp

end Go.Proofs.YtoilokfpfmicaaaDoor
