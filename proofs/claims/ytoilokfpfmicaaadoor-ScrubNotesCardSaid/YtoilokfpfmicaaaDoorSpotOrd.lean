/- The comparison is the order of extents; sorted rows. No program in sight. -/
import Derived.Test.YtoilokfpfmicaaaDoorCmp
import Derived.Test.YtoilokfpfmicaaaDoorSortK
import Derived.Test.YtoilokfpfmicaaaDoorSpotLt
set_option linter.unusedVariables false
set_option linter.unusedSimpArgs false
namespace Go.Proofs.YtoilokfpfmicaaaDoor
open Go.RowKit Go.Sort Go.Shelf

theorem cmp_lt (x y : ByteArray × Int) : ltOf (fun x y : ByteArray × Int => orI (cmpS x.1 y.1) (cmpI x.2 y.2)) x y = decide (sLt x y) := by
  rw [Bool.eq_iff_iff, decide_eq_true_iff]
  unfold ltOf orI cmpS cmpI sLt
  simp only [bytesLess_eq]
  by_cases h1 : x.1.toList < y.1.toList
  · simp [h1]
  · by_cases h2 : x.1.toList = y.1.toList
    · by_cases h3 : x.2 < y.2
      · simp [h1, h2, h3]
      · by_cases h4 : x.2 = y.2 <;> simp [h1, h2, h3, h4]
    · simp [h1, h2]
theorem swoSpot : SWO (ltOf fun x y : ByteArray × Int => orI (cmpS x.1 y.1) (cmpI x.2 y.2)) where
  irrefl x := by rw [cmp_lt]; simpa using sLt_irrefl x
  trans x y z h1 h2 := by rw [cmp_lt] at *; simp only [decide_eq_true_eq] at *; exact sLt_trans h1 h2
  ntrans x y z h1 h2 := by rw [cmp_lt] at *; simp only [decide_eq_false_iff_not] at *; exact sLt_ntrans h1 h2
def sortS (xs : List (ByteArray × Int)) : List (ByteArray × Int) := xs.mergeSort fun x y => !decide (sLt y x)
theorem sortS_perm (xs : List (ByteArray × Int)) : (sortS xs).Perm xs := List.mergeSort_perm _ _
theorem sortS_len (xs : List (ByteArray × Int)) : (sortS xs).length = xs.length := (sortS_perm xs).length_eq
theorem sortS_sorted (xs : List (ByteArray × Int)) : (sortS xs).Pairwise fun x y => ¬ sLt y x := by
  have := List.pairwise_mergeSort (le := fun x y : ByteArray × Int => !decide (sLt y x)) (fun a b c h1 h2 => by
    simp only [Bool.not_eq_true', decide_eq_false_iff_not] at *
    exact sLt_ntrans h2 h1) (fun a b => by
    by_cases h : sLt b a
    · simp [h, sLt_asymm h]
    · simp [h]) xs
  exact this.imp (by simp)
end Go.Proofs.YtoilokfpfmicaaaDoor
