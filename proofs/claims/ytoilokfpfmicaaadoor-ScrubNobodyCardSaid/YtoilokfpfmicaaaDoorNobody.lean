/- The law on a disk that no call made: mending, counting and naming groups answer as on none. -/
import Derived.Test.YtoilokfpfmicaaaDoorAwake
import Derived.Test.YtoilokfpfmicaaaDoorReg2
set_option linter.unusedVariables false
set_option linter.unusedSimpArgs false
namespace Go.Proofs.YtoilokfpfmicaaaDoor
open Go.RowKit Go.ChangeMaps
set_option maxHeartbeats 400000

theorem NoDisk.below {w w' : World} {v : Value} (h : NoDisk w v) (k : Below w.heap.size w w') : NoDisk w' v := by
  cases h with
  | nil => exact .nil
  | bare b hb => exact .bare b (below_cell k hb)
theorem NoDisk.form {w : World} {v : Value} (h : NoDisk w v) : ∃ a, v = .pointer a := by
  cases h with
  | nil => exact ⟨_, rfl⟩
  | bare b hb => exact ⟨_, rfl⟩
def Grp.v (g : Grp) : Value := .agg #[.int .i64 g.kind, .string g.name, .int .i64 g.ix, .int .i64 g.gen]
theorem mend_no (v : Value) (g : Grp) (w : World) (h : NoDisk w v) :
    Calls Tryd.prog 12 #[v, g.v] w fun e w' => e = .returned (.tuple #[.bool false, .int .i64 2]) ∧ Gw w w' := by
  obtain ⟨a, rfl⟩ := h.form
  obtain ⟨k, n, i, gn⟩ := g
  have hg := hid (Gw.alloc_of w (.cells #[.int .i64 k, .string n, .int .i64 i, .int .i64 gn] 32))
  have hN := hid (h.below hg.out.below)
  clear h
  unfold Grp.v
  go_enter Tryd.func12, Tryd.ntmps12
  go_wp2_with (go_at_call 28; refine (fuse_no _ (-1) _ hN.out).mono ?_; rintro e w' ⟨rfl, rfl⟩)
  go_ret2
  exact ⟨rfl, hg.out⟩
theorem bad_no (v : Value) (g : Grp) (w : World) (h : NoDisk w v) :
    Calls Tryd.prog 13 #[v, g.v] w fun e w' => e = .returned (.int .i64 0) ∧ Gw w w' := by
  obtain ⟨a, rfl⟩ := h.form
  obtain ⟨k, n, i, gn⟩ := g
  have hg := hid (Gw.alloc_of w (.cells #[.int .i64 k, .string n, .int .i64 i, .int .i64 gn] 32))
  have hN := hid (h.below hg.out.below)
  clear h
  unfold Grp.v
  go_enter Tryd.func13, Tryd.ntmps13
  go_wp2_with (go_at_call 28; refine (fuse_no _ (-1) _ hN.out).mono ?_; rintro e w' ⟨rfl, rfl⟩)
  go_ret
  exact ⟨rfl, hg.out⟩
theorem groups_no (v : Value) (a : Anc) (w : World) (h : NoDisk w v) :
    Calls Tryd.prog 14 #[v, a.v, .slice none 0 0] w fun e w' => e = .returned (.slice none 0 0) ∧ Gw w w' := by
  obtain ⟨p, rfl⟩ := h.form
  obtain ⟨seq, gen, lsn, segment, extents, floor, newest, keep, next, cursor⟩ := a
  unfold Anc.v
  have hg := hid ((Gw.alloc_of w (.cells #[.pointer p] 35)).alloc (.cells #[.int .i64 seq, .int .i64 gen, .int .i64 lsn, .int .i64 segment, .int .i64 extents, .int .i64 floor, .int .i64 newest, .int .i64 keep, .int .i64 next, .int .i64 cursor] 34))
  have hN := hid (h.below hg.out.below)
  clear h
  go_enter Tryd.func14, Tryd.ntmps14
  go_wp2_with (go_at_call 28; refine (fuse_no _ (-1) _ hN.out).mono ?_; rintro e w' ⟨rfl, rfl⟩)
  go_ret
  exact ⟨rfl, hg.out⟩
set_option maxRecDepth 100000 in
set_option maxHeartbeats 4000000 in
theorem nobody (g : Grp) (a : Anc) (w : World) : Calls Tryd.prog 5 #[g.v, a.v] w fun e w' => e = .returned (.bool true) ∧ Below w.heap.size w w' := by
  obtain ⟨k, n, i, gn⟩ := g
  obtain ⟨seq, gen, lsn, segment, extents, floor, newest, keep, next, cursor⟩ := a
  unfold Grp.v Anc.v
  have g3 := ((Gw.alloc_of w (.cells #[.int .i64 k, .string n, .int .i64 i, .int .i64 gn] 32)).alloc (.cells #[.int .i64 seq, .int .i64 gen, .int .i64 lsn, .int .i64 segment, .int .i64 extents, .int .i64 floor, .int .i64 newest, .int .i64 keep, .int .i64 next, .int .i64 cursor] 34))
  go_enter Tryd.func5, Tryd.ntmps5
  go_wp2_with fail
  have hb : Hid (Below w.heap.size w (((((w.alloc (.cells #[.int .i64 k, .string n, .int .i64 i, .int .i64 gn] 32)).alloc (.cells #[.int .i64 seq, .int .i64 gen, .int .i64 lsn, .int .i64 segment, .int .i64 extents, .int .i64 floor, .int .i64 newest, .int .i64 keep, .int .i64 next, .int .i64 cursor] 34)).alloc (.cells #[.int .i64 0, .map none, .int .i64 0] 38)).alloc (.cells #[.pointer none, .pointer (some ⟨w.heap.size + 2, 0, none⟩)] 35)))) :=
    below_alloc (below_alloc (below_alloc (below_alloc (Below.refl _ _) _) _) _) _
  have hc : Hid (∀ W, Gw ((((w.alloc (.cells #[.int .i64 k, .string n, .int .i64 i, .int .i64 gn] 32)).alloc (.cells #[.int .i64 seq, .int .i64 gen, .int .i64 lsn, .int .i64 segment, .int .i64 extents, .int .i64 floor, .int .i64 newest, .int .i64 keep, .int .i64 next, .int .i64 cursor] 34)).alloc (.cells #[.int .i64 0, .map none, .int .i64 0] 38)).alloc (.cells #[.pointer none, .pointer (some ⟨w.heap.size + 2, 0, none⟩)] 35)) W →
      (W.heap[w.heap.size]? = some (.cells #[.int .i64 k, .string n, .int .i64 i, .int .i64 gn] 32 (0, 0))) ∧ (W.heap[w.heap.size + 1]? = some (.cells #[.int .i64 seq, .int .i64 gen, .int .i64 lsn, .int .i64 segment, .int .i64 extents, .int .i64 floor, .int .i64 newest, .int .i64 keep, .int .i64 next, .int .i64 cursor] 34 (0, 0))) ∧ (W.heap[w.heap.size + 2]? = some (.cells #[.int .i64 0, .map none, .int .i64 0] 38 (0, 0))) ∧ (W.heap[w.heap.size + 3]? = some (.cells #[.pointer none, .pointer (some ⟨w.heap.size + 2, 0, none⟩)] 35 (0, 0)))) := by
    intro W hW
    refine ⟨below_heap hW.below ?_, below_heap hW.below ?_, below_heap hW.below ?_, below_heap hW.below ?_⟩
    · rw [heap_past _ _ _ (by simp; omega), heap_past _ _ _ (by simp; omega), heap_past _ _ _ (by simp)]
      exact heap_at _ _ _ rfl
    · rw [heap_past _ _ _ (by simp), heap_past _ _ _ (by simp)]
      exact heap_at _ _ _ (by simp)
    · rw [heap_past _ _ _ (by simp)]
      exact heap_at _ _ _ (by simp)
    · exact heap_at _ _ _ (by simp)
  generalize (((w.alloc (.cells #[.int .i64 k, .string n, .int .i64 i, .int .i64 gn] 32)).alloc (.cells #[.int .i64 seq, .int .i64 gen, .int .i64 lsn, .int .i64 segment, .int .i64 extents, .int .i64 floor, .int .i64 newest, .int .i64 keep, .int .i64 next, .int .i64 cursor] 34)).alloc (.cells #[.int .i64 0, .map none, .int .i64 0] 38)).alloc (.cells #[.pointer none, .pointer (some ⟨w.heap.size + 2, 0, none⟩)] 35) = W0 at *
  have hend := hid (fun W w' (h1 : Gw W0 W) (h2 : Below W.heap.size W w') => below_seq (below_seq hb.out h1.below) h2)
  clear g3 hb
  generalize hs : w.heap.size = s at *
  replace hs := hid hs
  have hv : Hid (∀ kk : Nat, kk < 2 → ∃ p, ∀ W, Gw W0 W → W.cell? ⟨s + 3, kk, none⟩ = some (.pointer p) ∧ NoDisk W (.pointer p)) := by
    intro kk hk
    rcases (show kk = 0 ∨ kk = 1 by omega) with rfl | rfl
    · exact ⟨none, fun W hW => ⟨by simp [World.cell?, (hc.out W hW).2.2.2], .nil⟩⟩
    · exact ⟨some ⟨s + 2, 0, none⟩, fun W hW => ⟨by simp [World.cell?, (hc.out W hW).2.2.2], .bare _ (by simp [World.cell?, (hc.out W hW).2.2.1])⟩⟩
  have hl : Hid (∀ W, Gw W0 W → (W.cell? ⟨s, 0, none⟩ = some (.int .i64 k) ∧ W.cell? ⟨s, 1, none⟩ = some (.string n) ∧ W.cell? ⟨s, 2, none⟩ = some (.int .i64 i) ∧ W.cell? ⟨s, 3, none⟩ = some (.int .i64 gn))) :=
    fun W hW => ⟨by simp [World.cell?, (hc.out W hW).1], by simp [World.cell?, (hc.out W hW).1], by simp [World.cell?, (hc.out W hW).1], by simp [World.cell?, (hc.out W hW).1]⟩
  have hl2 : Hid (∀ W, Gw W0 W → (W.cell? ⟨s + 1, 0, none⟩ = some (.int .i64 seq) ∧ W.cell? ⟨s + 1, 1, none⟩ = some (.int .i64 gen) ∧ W.cell? ⟨s + 1, 2, none⟩ = some (.int .i64 lsn) ∧ W.cell? ⟨s + 1, 3, none⟩ = some (.int .i64 segment) ∧ W.cell? ⟨s + 1, 4, none⟩ = some (.int .i64 extents)
      ∧ W.cell? ⟨s + 1, 5, none⟩ = some (.int .i64 floor) ∧ W.cell? ⟨s + 1, 6, none⟩ = some (.int .i64 newest) ∧ W.cell? ⟨s + 1, 7, none⟩ = some (.int .i64 keep) ∧ W.cell? ⟨s + 1, 8, none⟩ = some (.int .i64 next) ∧ W.cell? ⟨s + 1, 9, none⟩ = some (.int .i64 cursor))) :=
    fun W hW => ⟨by simp [World.cell?, (hc.out W hW).2.1], by simp [World.cell?, (hc.out W hW).2.1], by simp [World.cell?, (hc.out W hW).2.1], by simp [World.cell?, (hc.out W hW).2.1], by simp [World.cell?, (hc.out W hW).2.1], by simp [World.cell?, (hc.out W hW).2.1], by simp [World.cell?, (hc.out W hW).2.1], by simp [World.cell?, (hc.out W hW).2.1], by simp [World.cell?, (hc.out W hW).2.1], by simp [World.cell?, (hc.out W hW).2.1]⟩
  clear hc
  go_loopg [6, 7, 8, 13] 2 (fun g s6 s7 s8 s13 wr => ∃ kk : Nat, kk ≤ 2 ∧ 2 - kk ≤ g ∧ s13 = .int .i64 kk ∧ Hid (Gw W0 wr))
  case atStart => exact ⟨0, by omega, by omega, rfl, Gw.refl _⟩
  case round =>
    obtain ⟨kk, hk, hgk, rfl, B⟩ := hrel
    by_cases hlt : kk < 2
    · obtain ⟨p, hp⟩ := hv.out kk hlt
      have c0 := (hp wr B.out).1
      have hltz : (kk : Int) < 2 := by omega
      obtain ⟨l0, l1, l2, l3⟩ := hl.out wr B.out
      have hp := hid hp
      go_wp2_with fail
      refine (mend_no (.pointer p) ⟨k, n, i, gn⟩ _ (hp.out _ B.out).2).mono ?_
      rintro e w1 ⟨rfl, g1⟩
      have B1 := hid (B.out.trans g1)
      clear c0 l0 l1 l2 l3 g1
      obtain ⟨l0, l1, l2, l3⟩ := hl.out w1 B1.out
      go_wp2_with fail
      refine (bad_no (.pointer p) ⟨k, n, i, gn⟩ _ (hp.out _ B1.out).2).mono ?_
      rintro e w2 ⟨rfl, g2⟩
      have B2 := hid (B1.out.trans g2)
      clear l0 l1 l2 l3 g2
      obtain ⟨l0, l1, l2, l3, l4, l5, l6, l7, l8, l9⟩ := hl2.out w2 B2.out
      go_wp2_with fail
      refine (groups_no (.pointer p) ⟨seq, gen, lsn, segment, extents, floor, newest, keep, next, cursor⟩ _ (hp.out _ B2.out).2).mono ?_
      rintro e w3 ⟨rfl, g3⟩
      have B3 := hid (B2.out.trans g3)
      clear l0 l1 l2 l3 l4 l5 l6 l7 l8 l9 g3
      go_wp2
      go_roundg (2 - (kk + 1))
      case measure => omega
      case rel => exact ⟨kk + 1, by omega, by omega, by go_num, B3.out⟩
    · have hltz : ¬ (kk : Int) < 2 := by omega
      have ha := hid (awake20 wr)
      go_wp2_with (go_at_call 8; refine ha.out.mono ?_; rintro e w' ⟨rfl, hbb⟩; clear ha)
      go_ret
      refine ⟨rfl, ?_⟩
      rw [hs.out]
      exact hend.out _ _ B.out hbb
end Go.Proofs.YtoilokfpfmicaaaDoor
