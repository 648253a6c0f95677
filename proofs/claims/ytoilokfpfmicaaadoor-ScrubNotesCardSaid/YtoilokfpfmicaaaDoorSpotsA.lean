/- Rows of extents: clone, concat. -/
import Derived.Test.YtoilokfpfmicaaaDoorSpots
import Derived.Test.YtoilokfpfmicaaaDoorApp
import Derived.Lib.AppendZerosOnto
import Derived.Lib.Walk
set_option linter.unusedVariables false
set_option linter.unusedSimpArgs false
namespace Go.Proofs.YtoilokfpfmicaaaDoor
open Go.RowKit
set_option maxHeartbeats 400000
def encV (v : Value) : List Value := [v]
theorem wrap_sum {a b c : Nat} (h : c = a + b) (hc : c ≤ 4611686018427387904) : wrap64 ((a : Int) + (b : Int)) = (c : Nat) := by
  unfold wrap64
  omega
def tot {α : Type} (xss : List (List α)) (k : Nat) : Nat := (xss.take k).flatten.length
theorem tot_all {α : Type} {xss : List (List α)} {k : Nat} (h : xss.length ≤ k) : tot xss k = xss.flatten.length := by
  unfold tot
  rw [List.take_of_length_le h]
theorem tot_le {α : Type} (xss : List (List α)) (k : Nat) : tot xss k ≤ xss.flatten.length := by
  unfold tot
  conv => rhs; rw [← List.take_append_drop k xss]
  rw [List.flatten_append, List.length_append]
  omega
theorem tot_succ {α : Type} {xss : List (List α)} {k : Nat} {xs : List α} (h : xss[k]? = some xs) : tot xss (k + 1) = tot xss k + xs.length := by
  unfold tot
  rw [List.take_add_one, h]
  simp

theorem nilS (A : Option Addr) (n c : Nat) (w : World) : (binOp .eql 22 (.slice A n c) (.slice none 0 0)).run Tryd.prog w = .ok (.bool A.isNone) w :=
  Lib.run_eql_slice_nil w 22 25 A n c 0 0 Tryd.underlying22
theorem infoS : (Tryd.prog.info? 25).map (fun i => (i.zero, i.size, i.bytes)) = some (some (.agg #[.string ByteArray.empty, .int .i64 0]), 2, 24) := by kernel_rfl
attribute [local go_sem] nilS
theorem cloneS (xs : List (ByteArray × Int)) (v : Value) (w : World) (h : Sl encS w v xs) (hlen : xs.length * 24 ≤ 140737488355328) :
    Calls Tryd.prog 9 #[v] w (Makes encS 25 2 w xs) := by
  have hsz : ∀ x : (ByteArray × Int), (encS x).length = 2 := fun x => rfl
  obtain ⟨A, cap, rfl, h1, h2⟩ := h.form
  cases A with
  | none =>
    obtain ⟨rfl, _⟩ := h.of_none
    clear h h1 h2 hlen
    go_enter Tryd.func9, Tryd.ntmps9
    go_wp2
    go_ret
    exact ⟨_, rfl, by simpa using World.ownsRow_nil w w.heap.size 25 2, Below.refl _ _⟩
  | some a =>
    have hs := h.src (fun x e => by have := hsz x; rw [e] at this; cases this)
    have hl := len_flat hsz xs
    obtain ⟨i0, hi, hz0, hz1, hz2⟩ := info_parts infoS
    have hle : xs.length ≤ maxLen := by omega
    have hone : ∀ u ∈ xs.flatMap encS, u.oneCell' = true := by
      intro u hu
      obtain ⟨x, _, hx⟩ := List.mem_flatMap.1 hu
      (simp [encS] at hx; rcases hx with rfl | rfl <;> rfl)
    have hnews := hid hs.2
    have hone := hid hone
    have hl := hid hl
    clear h hs
    unfold maxLen at hle
    go_enter Tryd.func9, Tryd.ntmps9
    go_wp2_with (at_builtin; refine wpList_append_own _ rfl _ _ 22 rfl w.heap.size 25 i0 (.agg #[.string ByteArray.empty, .int .i64 0]) 2 24 Tryd.underlying22 hi hz0 hz1 hz2 rfl (by decide) _ _ _ rfl (own_made w 25 2) a xs.length cap (xs.flatMap encS) rfl hl.out (fun j u hu => (hnews.out j u hu |> below_cell (below_alloc (Below.refl _ _) _))) hone.out (by unfold maxLen; omega) (by omega) (by simp) ?_; intro v' w1 hown hgrow _)
    go_ret
    refine ⟨_, rfl, ?_, (below_alloc (Below.refl _ _) _).grown hgrow (by simp) (fun k e => by cases e; exact Nat.le_refl _)⟩
    simpa using hown

theorem grow0S (n : Nat) (w : World) (hn : n * 24 ≤ 140737488355328) (hn2 : n ≤ 4611686018427387904) :
    Calls Tryd.prog 45 #[.slice none 0 0, .int .i64 n] w fun e w' => ∃ v, e = .returned v ∧ w'.ownsRow w.heap.size 25 2 v 0 [] ∧ Below w.heap.size w w' := by
  by_cases h0 : n = 0
  · subst h0
    go_enter Tryd.func45, Tryd.ntmps45
    go_wp2
    go_ret
    exact ⟨_, rfl, World.ownsRow_nil _ _ _ _, Below.refl _ _⟩
  · obtain ⟨i0, hi, hz0, hz1, hz2⟩ := info_parts infoS
    have h1 : ¬ ((n : Int) < 0) := by omega
    have h4 : (n : Int) > 0 := by omega
    have hold : (Builtin.firstCells i0.size 0 (.slice none 0 0)).run Tryd.prog w.drew = .ok (#[] : Array Value) w.drew := run_firstCells_none _ i0.size 0 0 0
    have hrz : ∀ ty, (Builtin.append_ #[22, 3] ty #[.slice none 0 0, .int .i64 (n : Int)]).run Tryd.prog w = _ := fun ty =>
      Lib.run_append_grow_zeros w 22 3 ty 25 i0 _ .i64 .i64 Tryd.underlying22 Tryd.underlying3 hi hz0 none 0 0 [] hold n (by omega) (by rw [hz1]; decide) (by omega) (by omega) (by rw [hz2]; omega) (by rw [hz2]; exact growslice_fits (by omega) (by omega))
    have hGn := grownCap_ge w (0 + n) 0 25
    have hG63 := grownCap_le_maxLen w (0 + n) 0 25 (by unfold maxLen; omega)
    generalize hG : grownCap w (0 + n) 0 25 = G at hrz hGn hG63
    have hG64 : G ≤ 9223372036854775807 := by unfold maxLen at hG63; omega
    rw [Nat.zero_add] at hrz hGn
    clear hG hold hn hn2 hz0 hz1 hz2 hi
    have hown : (w.alloc (.cells (Builtin.zeroCells (Value.cells (.agg #[.string ByteArray.empty, .int .i64 0])) n ++ Builtin.zeroCells (Value.cells (.agg #[.string ByteArray.empty, .int .i64 0])) (G - n)) 25)).ownsRow w.heap.size 25 2 (.slice (some ⟨w.heap.size, 0, none⟩) 0 G) 0 [] :=
      World.ownsRow_made w _ G (Nat.le_refl _) hG63 (by simp [size_zeroCells, Value.cells]; omega)
    replace hown := hid hown
    go_enter Tryd.func45, Tryd.ntmps45
    go_wp2_with (at_builtin; refine Lib.wpList_append_run _ rfl _ _ _ _ rfl _ _ rfl rfl _ _ (hrz _) ?_)
    go_ret
    exact ⟨_, rfl, hown.out.drew, (below_alloc (Below.refl _ _) _).drew⟩

theorem elemS : ElemT Tryd.prog 22 25 2 24 encS :=
  ElemT.of (.agg #[.string ByteArray.empty, .int .i64 0]) Tryd.underlying22 infoS rfl (by decide) (fun _ => rfl) (fun x u hu => by simp [encS] at hu; rcases hu with rfl | rfl <;> rfl)
theorem concatS (vs : List Value) (xss : List (List (ByteArray × Int))) (arg : Value) (w : World) (ha : Sl encV w arg vs) (hl : vs.length = xss.length)
    (hv : ∀ (j : Nat) v xs, vs[j]? = some v → xss[j]? = some xs → Sl encS w v xs) (hbig : xss.flatten.length * 24 ≤ 140737488355328) (hbig2 : xss.flatten.length ≤ 4611686018427387904) :
    Calls Tryd.prog 15 #[arg] w (Makes encS 25 2 w xss.flatten) := by
  obtain ⟨A, cap, rfl, h1, h2⟩ := ha.form
  unfold maxLen at h2
  have hr := hid (ha.loads (sz := 1) (fun _ => rfl))
  have hv := hid hv
  clear ha
  have hG := hid (fun W => grow0S (tot xss vs.length) W (by rw [tot_all (by omega)]; exact hbig) (by rw [tot_all (by omega)]; exact hbig2))
  replace hbig := hid hbig
  replace hl := hid hl
  replace hbig2 := hid hbig2
  go_enter Tryd.func15, Tryd.ntmps15
  go_wp2
  go_loopg [3, 5, 11] vs.length (fun g s3 s5 s11 wr => ∃ kk : Nat, kk ≤ vs.length ∧ vs.length - kk ≤ g ∧ s11 = .int .i64 kk ∧ s3 = .int .i64 (tot xss kk : Nat) ∧ w = wr)
  case atStart => exact ⟨0, Nat.zero_le _, by omega, rfl, by simp [tot], rfl⟩
  case round =>
    obtain ⟨kk, hkk, hg, rfl, rfl, rfl⟩ := hrel
    by_cases hlt : kk < vs.length
    · obtain ⟨v, hx⟩ : ∃ v, vs[kk]? = some v := ⟨_, List.getElem?_eq_getElem hlt⟩
      obtain ⟨xs, hy⟩ : ∃ xs, xss[kk]? = some xs := ⟨_, List.getElem?_eq_getElem (by have := hl.out; omega)⟩
      obtain ⟨b, o, rfl, g1⟩ := hr.out kk v hx
      obtain ⟨A1, cc1, rfl, i1, i2⟩ := (hv.out kk v xs hx hy).form
      have c1 := g1 0 _ rfl
      simp only [Nat.add_zero, Nat.mul_one] at c1
      have hle := tot_le xss (kk + 1)
      have hsucc := tot_succ hy
      have hltz : (kk : Int) < (vs.length : Int) := by omega
      have hw : wrap64 ((tot xss kk : Int) + (xs.length : Int)) = (tot xss (kk + 1) : Nat) := by
        have := hbig2.out
        exact wrap_sum (by omega) (by omega)
      have hneg : ¬ ((tot xss (kk + 1) : Int) < 0) := Int.not_lt.2 (Int.natCast_nonneg _)
      unfold maxLen at i2
      clear g1 hle hsucc hx hy
      go_wp2
      go_roundg (vs.length - (kk + 1))
      case measure => omega
      case rel => exact ⟨kk + 1, by omega, by omega, by go_num, rfl, rfl⟩
    · have hltz : ¬ (kk : Int) < (vs.length : Int) := by omega
      have : kk = vs.length := by omega
      subst this
      go_wp2_with (go_at_call 45; refine (hG.out _).mono ?_; rintro e w1 ⟨v6, rfl, hown, hbel⟩)
      have hown := hid hown
      have hbel := hid hbel
      go_loopg [6, 8, 27] vs.length (fun g s6 s8 s27 wr => ∃ kk : Nat, kk ≤ vs.length ∧ vs.length - kk ≤ g ∧ s27 = .int .i64 kk ∧ Hid (wr.ownsRow w.heap.size 25 2 s6 (tot xss kk) ((xss.take kk).flatten.flatMap encS) ∧ Below w.heap.size w wr))
      case atStart => exact ⟨0, Nat.zero_le _, by omega, rfl, by simpa [tot] using hown.out, hbel.out⟩
      case round =>
        obtain ⟨kk, hkk, hg, rfl, B⟩ := hrel
        by_cases hlt : kk < vs.length
        · obtain ⟨v, hx⟩ : ∃ v, vs[kk]? = some v := ⟨_, List.getElem?_eq_getElem hlt⟩
          obtain ⟨xs, hy⟩ : ∃ xs, xss[kk]? = some xs := ⟨_, List.getElem?_eq_getElem (by have := hl.out; omega)⟩
          obtain ⟨b, o, rfl, g1⟩ := hr.out kk v hx
          have hsl := (hv.out kk v xs hx hy).below B.out.2
          obtain ⟨A1, cc1, rfl, i1, i2⟩ := hsl.form
          have c1 := below_cell B.out.2 (g1 0 _ rfl)
          simp only [Nat.add_zero, Nat.mul_one] at c1
          have hle := tot_le xss (kk + 1)
          have hsucc := tot_succ hy
          have hltz : (kk : Int) < (vs.length : Int) := by omega
          have hm1 : tot xss kk + xs.length ≤ maxLen := by have := hbig2.out; unfold maxLen; omega
          have hm2 : (tot xss kk + xs.length) * 24 ≤ 140737488355328 := by rw [← hsucc]; exact Nat.le_trans (Nat.mul_le_mul_right _ hle) hbig.out
          have hfl : (xss.take kk).flatten.flatMap encS ++ xs.flatMap encS = (xss.take (kk + 1)).flatten.flatMap encS := by
            rw [List.take_add_one, hy]; simp
          replace hsl := hid hsl
          replace hfl := hid hfl
          replace hsucc := hid hsucc
          unfold maxLen at i2
          clear g1 hle hx hy
          go_wp2_with (at_builtin; refine wpList_append_sl elemS rfl _ _ rfl w.heap.size _ _ _ rfl B.out.1 _ rfl xs hsl.out hm1 hm2 B.out.2.size ?_; intro v' w2 hown2 hgrow2 _)
          go_roundg (vs.length - (kk + 1))
          case measure => omega
          case rel => exact ⟨kk + 1, by omega, by omega, by go_num, by rw [← hfl.out, hsucc.out]; exact hown2, below_app B.out.2 B.out.1 hgrow2⟩
        · have hltz : ¬ (kk : Int) < (vs.length : Int) := by omega
          have : kk = vs.length := by omega
          subst this
          have h1 := B.out.1
          rw [List.take_of_length_le (by have := hl.out; omega), tot_all (by have := hl.out; omega)] at h1
          replace h1 := hid h1
          go_wp2
          go_ret
          exact ⟨_, rfl, h1.out, B.out.2⟩

end Go.Proofs.YtoilokfpfmicaaaDoor
