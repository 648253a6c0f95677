/- anchor.Can and what it calls: which anchors may be. -/
import Derived.Test.YtoilokfpfmicaaaDoorBase
import Derived.Test.YtoilokfpfmicaaaDoorProg
set_option linter.unusedVariables false
set_option linter.unusedSimpArgs false
namespace Go.Proofs.YtoilokfpfmicaaaDoor
open Go.RowKit
set_option maxHeartbeats 400000

/-- Is n outside of lo to 2^62? -/
def betw (lo n : Int) : Bool := decide (n < lo) || decide (n > 4611686018427387904)

theorem betw1 (lo n : Int) (b : Nat) (w : World) (h : w.cell? ⟨b, 0, none⟩ = some (.int .i64 lo)) :
    Calls Tryd.prog 90 #[.int .i64 n, .pointer (some ⟨b, 0, none⟩)] w fun e w' => e = .returned (.bool (betw lo n)) ∧ w = w' := by
  by_cases h1 : n < lo
  · go_enter Tryd.func90, Tryd.ntmps90
    go_wp2
    go_ret
    simp [betw, h1]
  · by_cases h2 : n > 4611686018427387904
    · go_enter Tryd.func90, Tryd.ntmps90
      go_wp2
      go_ret
      simp [betw, h1, h2]
    · go_enter Tryd.func90, Tryd.ntmps90
      go_wp2
      go_ret
      simp [betw, h1, h2]

def firstIdx {α : Type} (p : α → Bool) : List α → Nat → Int
  | [], _ => -1
  | x :: l, i => if p x then i else firstIdx p l (i + 1)
theorem firstIdx_step {α : Type} (p : α → Bool) (l : List α) (k : Nat) (x : α) (h : l[k]? = some x) : firstIdx p (l.drop k) k = if p x then (k : Int) else firstIdx p (l.drop (k + 1)) (k + 1) := by
  obtain ⟨hk, rfl⟩ := List.getElem?_eq_some_iff.1 h
  rw [List.drop_eq_getElem_cons hk, firstIdx]
theorem firstIdx_any {α : Type} (p : α → Bool) : ∀ (l : List α) (k : Nat), decide (0 ≤ firstIdx p l k) = l.any p := by
  intro l
  induction l with
  | nil => intro k; simp [firstIdx]
  | cons x l ih =>
    intro k
    cases hx : p x
    · simp [firstIdx, hx, ih]
    · simp [firstIdx, hx]

theorem idx_betw (lo : Int) (l : List Int) (b : Nat) (v : Value) (w : World) (h : w.cell? ⟨b, 0, none⟩ = some (.int .i64 lo)) (hl : Sl encInt w v l) :
    Calls Tryd.prog 108 #[v, .func (.func 90) #[] #[.pointer (some ⟨b, 0, none⟩)]] w fun e w' => e = .returned (.int .i64 (firstIdx (betw lo) l 0)) ∧ w = w' := by
  obtain ⟨A, cap, rfl, h1, h2, h3⟩ := hl
  unfold maxLen at h2
  have H3 := hid h3
  clear h3
  go_enter Tryd.func108, Tryd.ntmps108
  go_wp2
  go_loop [8] (fun i => ∃ k : Nat, k ≤ l.length ∧ i = .int .i64 k ∧ Hid (firstIdx (betw lo) l 0 = firstIdx (betw lo) (l.drop k) k)) (fun i => l.length - (intOf i).toNat)
  case atStart => exact ⟨0, by omega, rfl, rfl⟩
  case round =>
    obtain ⟨k, hk, rfl, hf⟩ := hrel
    by_cases hlt : k < l.length
    · obtain ⟨b', o, rfl, hr⟩ := H3.out (by intro e; simp [e] at hlt)
      obtain ⟨x, hx⟩ : ∃ x, l[k]? = some x := ⟨_, List.getElem?_eq_getElem hlt⟩
      have g : w.cell? ⟨b', o + k, none⟩ = some (.int .i64 x) := hr k _ (by rw [flatMap_int]; simp [hx])
      have hs := hid (firstIdx_step (betw lo) l k x hx)
      have hxx := hid hx
      clear hx hr
      go_wp2_with (go_at_call 90; refine (betw1 lo x b _ h).mono ?_; rintro e w' ⟨rfl, rfl⟩)
      · have hb : betw lo x = true := by assumption
        go_ret
        refine ⟨ret_int ?_, rfl⟩
        rw [hf.out, hs.out, if_pos hb]
      · have hb : betw lo x = false := by assumption
        go_round
        case rel => exact ⟨k + 1, by omega, by go_num, by show _ = _; rw [hf.out, hs.out, hb]; simp⟩
        case measure => simp [intOf]; omega
    · go_wp2
      go_ret
      refine ⟨ret_int ?_, rfl⟩
      rw [hf.out, List.drop_of_length_le (by omega)]
      rfl

theorem cont_betw (lo : Int) (l : List Int) (b : Nat) (v : Value) (w : World) (h : w.cell? ⟨b, 0, none⟩ = some (.int .i64 lo)) (hl : Sl encInt w v l) :
    Calls Tryd.prog 89 #[v, .func (.func 90) #[] #[.pointer (some ⟨b, 0, none⟩)]] w fun e w' => e = .returned (.bool (l.any (betw lo))) ∧ w = w' := by
  have hh := hid hl
  clear hl
  go_enter Tryd.func89, Tryd.ntmps89
  go_wp2_with (go_at_call 108; refine (idx_betw lo l b v _ h hh.out).mono ?_; rintro e w' ⟨rfl, rfl⟩)
  go_ret
  refine ⟨ret_bool ?_, rfl⟩
  rw [← firstIdx_any (betw lo) l 0]

theorem between (lo : Int) (l : List Int) (v : Value) (w : World) (hl : Sl encInt w v l) :
    Calls Tryd.prog 67 #[.int .i64 lo, v] w fun e w' => e = .returned (.bool (!l.any (betw lo))) ∧ Below w.heap.size w w' := by
  have hh := hid hl
  clear hl
  go_enter Tryd.func67, Tryd.ntmps67
  go_wp2_with (go_at_call 89; refine (cont_betw lo l _ v _ (by simp) (hh.out.below ((Below.refl _ _).alloc (Nat.le_refl _) _))).mono ?_; rintro e w' ⟨rfl, rfl⟩)
  go_ret
  exact ⟨rfl, (Below.refl _ _).alloc (Nat.le_refl _) _⟩

/-- An anchor. -/
structure Anc where
  (seq gen lsn segment extents floor newest keep next cursor : Int)
def Anc.v (a : Anc) : Value := .agg #[.int .i64 a.seq, .int .i64 a.gen, .int .i64 a.lsn, .int .i64 a.segment, .int .i64 a.extents, .int .i64 a.floor, .int .i64 a.newest, .int .i64 a.keep, .int .i64 a.next, .int .i64 a.cursor]
def Anc.can (a : Anc) : Bool := ![a.seq, a.gen, a.segment, a.next].any (betw 1) && ![a.lsn, a.extents, a.keep, a.cursor].any (betw 0)

theorem can_any (a : Anc) (w : World) : Calls Tryd.prog 36 #[a.v] w fun e w' => e = .returned (.bool a.can) ∧ Below w.heap.size w w' := by
  obtain ⟨seq, gen, lsn, segment, extents, floor, newest, keep, next, cursor⟩ := a
  unfold Anc.v
  go_enter Tryd.func36, Tryd.ntmps36
  go_wp2_with fail
  refine (between 1 [seq, gen, segment, next] _ _ (Sl.of_block _ (heap_at _ _ _ (by simp)) (by simp [encInt]) rfl (Nat.le_refl _) (by simp [maxLen]))).mono ?_
  rintro e w1 ⟨rfl, hb⟩
  obtain ⟨hc, hf⟩ := bcell hb
  go_wp2_with (go_at_call 67; refine (between 0 [lsn, extents, keep, cursor] _ _ (Sl.of_block _ (heap_at _ _ _ rfl) (by simp [encInt]) rfl (Nat.le_refl _) (by simp [maxLen]))).mono ?_; rintro e w2 ⟨rfl, hb2⟩)
  · go_ret
    refine ⟨ret_bool ?_, below_seq (below_seq (below_alloc (below_alloc (Below.refl _ _) _) _) hb) ((Below.refl _ _).alloc (Nat.le_refl _) _ |> fun h => below_seq h hb2)⟩
    simp_all [Anc.can]
  · go_ret
    refine ⟨ret_bool ?_, below_seq (below_alloc (below_alloc (Below.refl _ _) _) _) hb⟩
    simp_all [Anc.can]
end Go.Proofs.YtoilokfpfmicaaaDoor
