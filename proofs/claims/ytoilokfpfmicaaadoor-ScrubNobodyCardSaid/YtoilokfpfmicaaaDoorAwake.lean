/- What scrub.Groups is made of: names, pairs, long files; and the ledger's witness: the groups of an empty disk. -/
import Derived.Test.YtoilokfpfmicaaaDoorDisk0
import Derived.Test.YtoilokfpfmicaaaDoorCan
import Derived.Test.YtoilokfpfmicaaaDoorApp
import Derived.Test.YtoilokfpfmicaaaDoorSpots
set_option linter.unusedVariables false
set_option linter.unusedSimpArgs false
namespace Go.Proofs.YtoilokfpfmicaaaDoor
open Go.RowKit Go.ChangeMaps
set_option maxHeartbeats 400000

def str1 (l : List UInt8) : ByteArray := ⟨l.toArray⟩
theorem small1 (w : World) : Calls Tryd.prog 109 #[.int .i64 1] w fun e w' => e = .returned (.string ⟨#[49]⟩) ∧ w = w' := by
  go_enter Tryd.func109, Tryd.ntmps109
  go_wp2
  go_ret
  exact ⟨rfl, rfl⟩
theorem itoa1 (w : World) : Calls Tryd.prog 43 #[.int .i64 1] w fun e w' => e = .returned (.string ⟨#[49]⟩) ∧ w = w' := by
  have h2 : ∀ w, Calls Tryd.prog 91 #[.int .i64 1, .int .i64 10] w fun e w' => e = .returned (.string ⟨#[49]⟩) ∧ w = w' := by
    intro w
    go_enter Tryd.func91, Tryd.ntmps91
    go_wp2_with (go_at_call 109; refine (small1 _).mono ?_; rintro e w' ⟨rfl, rfl⟩)
    go_ret
    exact ⟨rfl, rfl⟩
  have h1 : ∀ w, Calls Tryd.prog 69 #[.int .i64 1] w fun e w' => e = .returned (.string ⟨#[49]⟩) ∧ w = w' := by
    intro w
    go_enter Tryd.func69, Tryd.ntmps69
    go_wp2_with (go_at_call 91; refine (h2 _).mono ?_; rintro e w' ⟨rfl, rfl⟩)
    go_ret
    exact ⟨rfl, rfl⟩
  go_enter Tryd.func43, Tryd.ntmps43
  go_wp2_with (go_at_call 69; refine (h1 _).mono ?_; rintro e w' ⟨rfl, rfl⟩)
  go_ret
  exact ⟨rfl, rfl⟩
theorem names1 (w : World) : Calls Tryd.prog 41 #[.int .i64 1] w fun e w' => e = .returned (.tuple #[.string ⟨#[109, 49]⟩, .string ⟨#[116, 49]⟩]) ∧ w = w' := by
  go_enter Tryd.func41, Tryd.ntmps41
  go_wp2_with (go_at_call 43; refine (itoa1 _).mono ?_; rintro e w' ⟨rfl, rfl⟩)
  go_ret2
  exact ⟨rfl, rfl⟩
theorem wname1 (w : World) : Calls Tryd.prog 42 #[.int .i64 1] w fun e w' => e = .returned (.string ⟨#[119, 49]⟩) ∧ w = w' := by
  go_enter Tryd.func42, Tryd.ntmps42
  go_wp2_with (go_at_call 43; refine (itoa1 _).mono ?_; rintro e w' ⟨rfl, rfl⟩)
  go_ret
  exact ⟨rfl, rfl⟩

/-- A group: kind, name, place, generation. -/
structure Grp where
  kind : Int
  name : ByteArray
  ix : Int
  gen : Int
def encG (g : Grp) : List Value := [.int .i64 g.kind, .string g.name, .int .i64 g.ix, .int .i64 g.gen]
theorem elemG : ElemT Tryd.prog 44 32 4 40 encG := by
  have hi : (Tryd.prog.info? 32).map (fun i => (i.zero, i.size, i.bytes)) = some (some (.agg #[.int .i64 0, .string ByteArray.empty, .int .i64 0, .int .i64 0]), 4, 40) := by kernel_rfl
  exact ElemT.of (.agg #[.int .i64 0, .string ByteArray.empty, .int .i64 0, .int .i64 0]) Tryd.underlying44 hi rfl (by decide) (fun _ => rfl) (fun x u hu => by simp [encG] at hu; rcases hu with rfl | rfl | rfl | rfl <;> rfl)

theorem ext_quiet (d : DiskL) (name : ByteArray) (w : World) (n : Nat) (h : DiskAt w d) :
    Calls Tryd.prog 40 #[(.pointer (some ⟨d.b, 0, none⟩)), .string name] (w.drewN n) fun e w' => e = .returned (.int .i64 (d.count name)) ∧ w' = w.drewN n := by
  refine (ext_any d name _ (h.drewN n)).mono ?_
  rintro e w' ⟨rfl, rfl⟩
  exact ⟨rfl, rfl⟩
theorem long0 (d : DiskL) (name : ByteArray) (b : Nat) (w : World) (hs : name.size ≤ 9223372036854775805) (h : DiskAt w d) (hb : w.cell? ⟨b, 0, none⟩ = some (.pointer (some ⟨d.b, 0, none⟩))) :
    Calls Tryd.prog 39 #[.string name, .pointer (some ⟨b, 0, none⟩)] w fun e w' => e = .returned (.int .i64 (max 1 (max (d.count (name ++ ⟨#[46, 97]⟩)) (d.count (name ++ ⟨#[46, 98]⟩)) : Nat))) ∧ ∃ n, w' = w.drewN n := by
  have H := hid h
  have hs2 : ¬ 9223372036854775807 < name.size + 2 := by omega
  clear h hs
  go_enter Tryd.func39, Tryd.ntmps39
  go_wp2_with fail
  go_quiet ((go_at_call 40; refine Calls.quiet_of_same (ext_quiet d _ _ _ H.out)))
  go_wp2
  all_goals
    go_ret
    exact ⟨ret_int (by omega), nq, rfl⟩
/-- The groups so far: their box, their row. -/
def GrpAt (W : World) (ob base : Nat) (gs : List Grp) : Prop := ∃ v, W.heap[ob]? = some (.cells #[v] 44 (0, 0)) ∧ W.ownsRow base 32 4 v gs.length (gs.flatMap encG)
def pairsL (name : ByteArray) (n : Nat) : List Grp := (List.range n).map fun (i : Nat) => ⟨1, name, (i : Int), 0⟩
set_option maxRecDepth 100000 in
theorem pairs_any (name : ByteArray) (n ob base : Nat) (gs : List Grp) (w : World) (hn : n ≤ 1000000) (hg : gs.length ≤ 1000000000) (hb : base ≤ ob) (h : GrpAt w ob base gs) :
    Calls Tryd.prog 38 #[.string name, .int .i64 n, .pointer (some ⟨ob, 0, none⟩)] w fun e w' => e = .returned (.tuple #[]) ∧ GrpAt w' ob base (gs ++ pairsL name n) ∧ Below base w w' := by
  have hob := lt_of_heap h.choose_spec.1
  have H := hid h
  clear h
  go_enter Tryd.func38, Tryd.ntmps38
  go_wp2
  go_loopg [5, 7, 10, 11, 12, 13, 14, 15] n (fun g _ s7 _ _ _ _ _ _ wr => ∃ k : Nat, k ≤ n ∧ n - k ≤ g ∧ s7 = .int .i64 k ∧ Hid (GrpAt wr ob base (gs ++ pairsL name k) ∧ Below base w wr))
  case atStart => exact ⟨0, Nat.zero_le _, by omega, rfl, by simpa [pairsL] using H.out, Below.refl _ _⟩
  case round =>
    obtain ⟨k, hk, hgk, rfl, B⟩ := hrel
    by_cases hlt : k < n
    · have hltz : (k : Int) < (n : Int) := by omega
      obtain ⟨v, hv, hown⟩ := B.out.1
      have hc : wr.cell? ⟨ob, 0, none⟩ = some v := by simp [World.cell?, hv]
      have hlen : (gs ++ pairsL name k).length ≤ 1001000000 := by simp [pairsL]; omega
      have hm1 : Hid ((gs ++ pairsL name k).length + 1 ≤ maxLen) := by show _ ≤ _; unfold maxLen; omega
      have hm2 : Hid (((gs ++ pairsL name k).length + 1) * 40 ≤ 140737488355328) := by show _ ≤ _; omega
      clear hlen
      have hsl := sl_lit (enc := encG) wr 32 [⟨1, name, k, 0⟩] #[.int .i64 1, .string name, .int .i64 k, .int .i64 0] rfl (by simp [maxLen])
      have hne := own_ne hown hv (by decide)
      have ho2 := hid (hown.alloc (.cells #[.int .i64 1, .string name, .int .i64 k, .int .i64 0] 32))
      have hv2 := below_heap (below_alloc (Below.refl _ wr) (.cells #[.int .i64 1, .string name, .int .i64 k, .int .i64 0] 32)) hv
      have hbs := hid (Nat.le_trans (Nat.le_trans hb (Nat.le_of_lt (lt_of_heap hv))) (below_alloc (Below.refl _ wr) (.cells #[.int .i64 1, .string name, .int .i64 k, .int .i64 0] 32)).size)
      replace hsl := hid hsl
      replace hown := hid hown
      replace hne := hid hne
      have hB2 := hid (below_trans B.out.2 ((below_alloc (Below.refl _ wr) (.cells #[.int .i64 1, .string name, .int .i64 k, .int .i64 0] 32)).mono (Nat.le_trans hb (Nat.le_of_lt (lt_of_heap hv)))))
      replace hv2 := hid hv2
      clear hv
      go_wp2_with (at_builtin; refine wpList_append_sl elemG rfl _ _ rfl base _ _ _ rfl ho2.out _ rfl [⟨1, name, k, 0⟩] hsl.out hm1.out hm2.out hbs.out ?_; intro v' w2 hown2 hgrow2 hat2; obtain ⟨A2, c2, hv2'⟩ := own_slice hown2; subst hv2'; have hv3 := (hgrow2.block ob (lt_of_heap hv2.out) (fun e => hne.out e.symm)).trans hv2.out; have hc3 : w2.cell? ⟨ob, 0, none⟩ = some v := (by simp [World.cell?, hv3]); have hf3 : w2.frozen? ⟨ob, 0, none⟩ = false := (by simp [World.frozen?, hv3]); replace hv3 := hid hv3)
      generalize hv' : Value.slice A2 _ c2 = v' at *
      have hne2 : v'.ownBlock ≠ some ob := own_ne hown2 hv3.out (by decide)
      have hend : Hid (GrpAt (w2.setCell ⟨ob, 0, none⟩ v') ob base (gs ++ pairsL name (k + 1)) ∧ Below base w (w2.setCell ⟨ob, 0, none⟩ v')) := by
        refine ⟨⟨v', ?_, ?_⟩, ?_⟩
        · rw [setCell_block v' hv3.out]
          exact setBlock_at _ hv3.out
        · have := ownsRow_setCell_other hown2 (a := ⟨ob, 0, none⟩) hne2 v'
          rw [show (gs ++ pairsL name k).length + [(⟨1, name, k, 0⟩ : Grp)].length = (gs ++ pairsL name (k + 1)).length from by simp [pairsL]; omega] at this
          rw [show (gs ++ pairsL name k).flatMap encG ++ [(⟨1, name, k, 0⟩ : Grp)].flatMap encG = (gs ++ pairsL name (k + 1)).flatMap encG from by simp [pairsL, List.range_succ]] at this
          exact this
        · refine below_trans (below_trans hB2.out (Below.grown (Below.refl _ _) hgrow2 hbs.out (fun j e => ?_))) (below_chg (g := ob) (by rw [setCell_block v' hv3.out]; exact setBlock_chg' _) hb (Nat.le_trans hb (Nat.le_of_lt (lt_of_heap hv3.out))))
          exact (hown.out.lt j e).1
      clear hc3 hf3 hne2 hat2
      subst hv'
      go_roundg (n - (k + 1))
      case measure => omega
      case rel => exact ⟨k + 1, by omega, by omega, by go_num, (by simpa using hend.out : GrpAt _ _ _ _ ∧ _)⟩
    · have hltz : ¬ (k : Int) < (n : Int) := by omega
      have : k = n := by omega
      subst this
      go_wp2
      go_end0
      exact ⟨rfl, B.out.1, B.out.2⟩
theorem pairs_zero (name : ByteArray) (p : Value) (w : World) : Calls Tryd.prog 38 #[.string name, .int .i64 0, p] w fun e w' => e = .returned (.tuple #[]) ∧ w' = w := by
  go_enter Tryd.func38, Tryd.ntmps38
  go_wp2
  refine wp_loop_rounds 1 ?_
  rw [rounds_succ]
  go_wp2
  go_end0
  exact ⟨rfl, rfl⟩
theorem if_none (fv : Value) (w : World) : Calls Tryd.prog 68 #[.slice none 0 0, fv] w fun e w' => e = .returned (.int .i64 (-1)) ∧ w = w' := by
  go_enter Tryd.func68, Tryd.ntmps68
  go_wp2
  refine wp_loop_rounds 1 ?_
  rw [rounds_succ]
  go_wp2
  go_ret
  exact ⟨rfl, rfl⟩
theorem cf_none (fv : Value) (w : World) : Calls Tryd.prog 37 #[.slice none 0 0, fv] w fun e w' => e = .returned (.bool false) ∧ w = w' := by
  go_enter Tryd.func37, Tryd.ntmps37
  go_wp2_with (go_at_call 68; refine (if_none _ _).mono ?_; rintro e w' ⟨rfl, rfl⟩)
  go_ret
  exact ⟨rfl, rfl⟩
/-- The witness' anchor. -/
def anc1 : Anc := ⟨1, 1, 0, 1, 0, 0, 0, 0, 1, 0⟩
theorem anc1_can : anc1.can = true := by rfl
def three : List Grp := [⟨1, ⟨#[97, 110, 99, 104, 111, 114]⟩, 0, 0⟩, ⟨1, ⟨#[109, 49]⟩, 0, 0⟩, ⟨1, ⟨#[116, 49]⟩, 0, 0⟩]
theorem GrpAt.start (w : World) : GrpAt (w.alloc (.cells #[.slice none 0 0] 44)) w.heap.size w.heap.size [] := ⟨.slice none 0 0, heap_at _ _ _ rfl, World.ownsRow_nil _ _ _ _⟩
theorem below_get {B : Nat} {w w' : World} (h : Below B w w') {b o : Nat} {v : Value} (hb : b < B) (hc : w.cell? ⟨b, o, none⟩ = some v) : w'.cell? ⟨b, o, none⟩ = some v := (h.cell (p := ⟨b, o, none⟩) hb).trans hc
theorem long_empty (d : DiskL) (name : ByteArray) (b : Nat) (w : World) (hs : name.size ≤ 9223372036854775805) (h : DiskAt w d) (hd : ∀ n, d.count n = 0) (hb : w.cell? ⟨b, 0, none⟩ = some (.pointer (some ⟨d.b, 0, none⟩))) :
    Calls Tryd.prog 39 #[.string name, .pointer (some ⟨b, 0, none⟩)] w fun e w' => e = .returned (.int .i64 1) ∧ ∃ n, w' = w.drewN n := by
  refine (long0 d name b w hs h hb).mono ?_
  rintro e w' ⟨rfl, hn⟩
  rw [hd, hd]
  exact ⟨rfl, hn⟩
theorem owns_lower' {w : World} {base base' : Nat} {e : TypeId} {size n : Nat} {v : Value} {xs : List Value} (h : w.ownsRow base e size v n xs) (hb : base' ≤ base) : w.ownsRow base' e size v n xs := by
  refine ⟨h.1, ?_⟩
  rcases h.2 with h2 | ⟨g, cap, cur, h3, h4, h5⟩
  · exact .inl h2
  · exact .inr ⟨g, cap, cur, h3, Nat.le_trans hb h4, h5⟩
theorem GrpAt.drewN {w : World} {ob base : Nat} {gs : List Grp} (h : GrpAt w ob base gs) (n : Nat) : GrpAt (w.drewN n) ob base gs := h
theorem groups1 (d : DiskL) (w : World) (h : DiskAt w d) (hd : d.files = []) :
    Calls Tryd.prog 14 #[(.pointer (some ⟨d.b, 0, none⟩)), anc1.v, .slice none 0 0] w (Makes encG 32 4 w three) := by
  have hcnt : ∀ name, d.count name = 0 := fun name => by simp [DiskL.count, DiskL.file, hd]
  have H := hid h
  have hcan := can_any anc1
  rw [anc1_can] at hcan
  clear h hd
  change Calls _ _ #[_, .agg #[.int .i64 1, .int .i64 1, .int .i64 0, .int .i64 1, .int .i64 0, .int .i64 0, .int .i64 0, .int .i64 0, .int .i64 1, .int .i64 0], _] _ _
  change ∀ w, Calls _ _ #[.agg #[.int .i64 1, .int .i64 1, .int .i64 0, .int .i64 1, .int .i64 0, .int .i64 0, .int .i64 0, .int .i64 0, .int .i64 1, .int .i64 0]] _ _ at hcan
  have hb2 := below_alloc (below_alloc (Below.refl w.heap.size w) (.cells #[(.pointer (some ⟨d.b, 0, none⟩))] 35)) (.cells #[.int .i64 1, .int .i64 1, .int .i64 0, .int .i64 1, .int .i64 0, .int .i64 0, .int .i64 0, .int .i64 0, .int .i64 1, .int .i64 0] 34)
  have g0 : ((w.alloc (.cells #[(.pointer (some ⟨d.b, 0, none⟩))] 35)).alloc (.cells #[.int .i64 1, .int .i64 1, .int .i64 0, .int .i64 1, .int .i64 0, .int .i64 0, .int .i64 0, .int .i64 0, .int .i64 1, .int .i64 0] 34)).cell? ⟨w.heap.size, 0, none⟩ = some (.pointer (some ⟨d.b, 0, none⟩)) := cell_old (cell_box _ _ _ _ 0)
  have ga : ∀ j, ((w.alloc (.cells #[(.pointer (some ⟨d.b, 0, none⟩))] 35)).alloc (.cells #[.int .i64 1, .int .i64 1, .int .i64 0, .int .i64 1, .int .i64 0, .int .i64 0, .int .i64 0, .int .i64 0, .int .i64 1, .int .i64 0] 34)).cell? ⟨w.heap.size + 1, j, none⟩ = (#[.int .i64 1, .int .i64 1, .int .i64 0, .int .i64 1, .int .i64 0, .int .i64 0, .int .i64 0, .int .i64 0, .int .i64 1, .int .i64 0] : Array Value)[j]? := fun j => by
    have := cell_box (w.alloc (.cells #[(.pointer (some ⟨d.b, 0, none⟩))] 35)) #[.int .i64 1, .int .i64 1, .int .i64 0, .int .i64 1, .int .i64 0, .int .i64 0, .int .i64 0, .int .i64 0, .int .i64 1, .int .i64 0] 34 (0, 0) j
    rwa [show (w.alloc (.cells #[(.pointer (some ⟨d.b, 0, none⟩))] 35)).heap.size = w.heap.size + 1 from by simp] at this
  have hsz : ((w.alloc (.cells #[(.pointer (some ⟨d.b, 0, none⟩))] 35)).alloc (.cells #[.int .i64 1, .int .i64 1, .int .i64 0, .int .i64 1, .int .i64 0, .int .i64 0, .int .i64 0, .int .i64 0, .int .i64 1, .int .i64 0] 34)).heap.size = w.heap.size + 2 := by simp
  go_enter Tryd.func14, Tryd.ntmps14
  go_wp2_with (first | (go_at_call 28; refine (fuse_below d (-1) _ (H.out.below hb2) (by decide)).mono ?_; rintro e w' ⟨rfl, rfl⟩))
  generalize hW0 : (w.alloc (.cells #[(.pointer (some ⟨d.b, 0, none⟩))] 35)).alloc (.cells #[.int .i64 1, .int .i64 1, .int .i64 0, .int .i64 1, .int .i64 0, .int .i64 0, .int .i64 0, .int .i64 0, .int .i64 1, .int .i64 0] 34) = W0 at *
  clear hW0
  refine (hcan W0).mono ?_
  rintro e w1 ⟨rfl, hb1⟩
  have g1 := below_cell hb1 g0
  have a1 := below_cell hb1 (ga 1)
  have a3 := below_cell hb1 (ga 3)
  have a4 := below_cell hb1 (ga 4)
  have hlt : w.heap.size + 2 ≤ w1.heap.size := by have := hb1.size; omega
  have hbw := hid (below_seq hb2 hb1)
  have hG0 := hid (GrpAt.start w1)
  have hba := hid (below_alloc (Below.refl _ w1) (.cells #[.slice none 0 0] 44))
  have b1 : (w1.alloc (.cells #[.slice none 0 0] 44)).cell? ⟨w.heap.size + 1, 1, none⟩ = some (.int .i64 1) := cell_old a1
  clear g0 ga hsz hb1 hb2 hcan
  go_wp2_with (first | (go_at_call 37; refine (cf_none _ _).mono ?_; rintro e w' ⟨rfl, rfl⟩) | (go_at_call 41; refine (names1 _).mono ?_; rintro e w' ⟨rfl, rfl⟩))
  refine (pairs_any ⟨#[97, 110, 99, 104, 111, 114]⟩ 1 _ _ [] _ (by decide) (by decide) (Nat.le_refl _) hG0.out).mono ?_
  rintro e w2 ⟨rfl, hG2, hb2⟩
  have k2 := hid (below_trans hba.out hb2)
  have d2 := below_get k2.out (by omega) g1
  have hD2 := hid (H.out.below (below_trans hbw.out (k2.out.mono (by omega))))
  replace hG2 := hid hG2
  clear hb2 hG0 b1
  go_wp2_with (go_at_call 39; refine (long_empty d _ _ _ (by decide) hD2.out hcnt d2).mono ?_; rintro e w' ⟨rfl, n2, rfl⟩)
  refine (pairs_any ⟨#[109, 49]⟩ 1 _ _ _ _ (by decide) (by decide) (Nat.le_refl _) (hG2.out.drewN n2)).mono ?_
  rintro e w3 ⟨rfl, hG3, hb3⟩
  have k3 := hid (below_trans (below_drewN k2.out n2) hb3)
  have d3 := below_get k3.out (by omega) g1
  have hD3 := hid (H.out.below (below_trans hbw.out (k3.out.mono (by omega))))
  replace hG3 := hid hG3
  clear hb3 d2 hG2 hD2 k2
  go_wp2_with (go_at_call 39; refine (long_empty d _ _ _ (by decide) hD3.out hcnt d3).mono ?_; rintro e w' ⟨rfl, n3, rfl⟩)
  refine (pairs_any ⟨#[116, 49]⟩ 1 _ _ _ _ (by decide) (by decide) (Nat.le_refl _) (hG3.out.drewN n3)).mono ?_
  rintro e w4 ⟨rfl, hG4, hb4⟩
  have k4 := hid (below_trans (below_drewN k3.out n3) hb4)
  have c3 := below_get k4.out (by omega) a3
  have c4 := below_get k4.out (by omega) a4
  obtain ⟨v, hv, hown⟩ := hG4
  have hvc : w4.cell? ⟨w1.heap.size, 0, none⟩ = some v := by simp [World.cell?, hv]
  obtain ⟨A, c, rfl⟩ := own_slice hown
  replace hown := hid hown
  clear hb4 d3 hG3 hD3 k3 hv a1 a3 a4 g1
  go_wp2_with fail
  go_quiet (first | (go_at_call 42; refine Calls.quiet_of_same ((wname1 _).mono fun e w' h => ⟨h.1, h.2.symm⟩)) | (go_at_call 38; refine Calls.quiet_of_same (pairs_zero _ _ _)))
  go_wp2
  refine wp_loop_rounds 1 ?_
  rw [rounds_succ]
  go_wp2
  go_ret
  have hrow : w4.ownsRow w.heap.size 32 4 (.slice A (((([] ++ pairsL ⟨#[97, 110, 99, 104, 111, 114]⟩ 1) ++ pairsL ⟨#[109, 49]⟩ 1) ++ pairsL ⟨#[116, 49]⟩ 1)).length c) three.length (three.flatMap encG) := owns_lower' hown.out (by omega)
  exact ⟨_, rfl, hrow, below_drewN (below_trans hbw.out (k4.out.mono (by omega))) nq⟩
theorem awake20 (w : World) : Calls Tryd.prog 8 #[] w fun e w' => e = .returned (.bool true) ∧ Below w.heap.size w w' := by
  go_enter Tryd.func8, Tryd.ntmps8
  go_wp2_with (first | (go_at_call 25; refine (new_ok 10 _ (by decide) (by decide)).mono ?_; rintro e w1 ⟨rfl, hd, hb⟩; replace hd := hid hd; replace hb := hid hb))
  refine (groups1 (newD 10 w) w1 hd.out rfl).mono ?_
  rintro e w2 ⟨v, rfl, hown, hb2⟩
  have hb2 := hid (below_seq hb.out hb2)
  have hsl := Sl.of_owns hown
  obtain ⟨A, cap, rfl, i1, i2⟩ := hsl.form
  obtain ⟨b, o, rfl, g1⟩ := hsl.loads (sz := 4) (fun _ => rfl) 0 _ rfl
  have c1 := g1 1 _ rfl
  unfold maxLen at i2
  clear hsl hown g1
  go_wp2
  go_ret
  exact ⟨rfl, hb2.out⟩
end Go.Proofs.YtoilokfpfmicaaaDoor
