/- slices.SortFunc at extents, as scrub.Note calls it. -/
import Derived.Test.YtoilokfpfmicaaaDoorSpotOrd
import Derived.Test.YtoilokfpfmicaaaDoorSpotCmp
import Derived.Test.YtoilokfpfmicaaaDoorShelfSp
set_option linter.unusedVariables false
set_option linter.unusedSimpArgs false
namespace Go.Proofs.YtoilokfpfmicaaaDoor
open Go.RowKit Go.Sort Go.Shelf
theorem sortNote (xs : List (ByteArray × Int)) (rest : List Value) (b cap : Nat) (w : World) (hb : w.heap[b]? = some (.cells (xs.flatMap encS ++ rest).toArray 25 (0, 0))) (hsz : xs.length < 4611686018427387904) :
    Calls Tryd.prog 18 #[.slice (some ⟨b, 0, none⟩) xs.length cap, .func (.func 19) #[] #[]] w fun e w' =>
      e = .returned (.tuple #[]) ∧ Chg (· = b) w w' ∧ w'.heap[b]? = some (.cells ((sortS xs).flatMap encS ++ rest).toArray 25 (0, 0)) := by
  have eg : ∀ args w, (callFunc 19 args).run Tryd.prog w = .ok (.enter 19 args) w := enters_of Tryd.func19 (by kernel_rfl) rfl
  have h := AnyQ.slices_SortFunc_total Tryd.sortSpot 2 Tryd.isAgg25 Tryd.sizeOf25 encS (fun _ => rfl) (fun x u hu => by simp [encS] at hu; rcases hu with rfl | rfl <;> rfl) (fun x y => orI (cmpS x.1 y.1) (cmpI x.2 y.2)) swoSpot 19 #[] b 0 cap xs.toArray w eg
    (fun m os dk _ x y => by
      refine (cmpNote x y _).mono ?_
      rintro e w' ⟨he, q, os', hw⟩
      exact ⟨he, q, os', hw⟩) (holdsK_block (enc := encS) (k := 2) (fun _ => rfl) hb) (lt_of_heap hb) (by simpa using hsz)
    (fun x y h1 h2 => by
      rw [cmp_lt] at h1 h2
      exact sLt_total (of_decide_eq_false h1) (of_decide_eq_false h2))
  have e : (xs.toArray.toList.mergeSort fun x y => !(ltOf (fun x y : ByteArray × Int => orI (cmpS x.1 y.1) (cmpI x.2 y.2))) y x) = sortS xs := by
    unfold sortS
    congr 1
    funext x y
    rw [cmp_lt]
  rw [e] at h
  refine h.mono ?_
  rintro e' w' ⟨he, n, os, rfl⟩
  exact ⟨he, sortWorldK_block (enc := encS) (k := 2) (fun _ => rfl) hb (sortS_len xs) n os⟩
theorem sortNote_none (v : Option Addr) (cap : Nat) (w : World) : Calls Tryd.prog 18 #[.slice v 0 cap, .func (.func 19) #[] #[]] w fun e w' => e = .returned (.tuple #[]) ∧ w' = w :=
  AnyF.slices_SortFunc_none Tryd.sortSpot v cap _ w
end Go.Proofs.YtoilokfpfmicaaaDoor
