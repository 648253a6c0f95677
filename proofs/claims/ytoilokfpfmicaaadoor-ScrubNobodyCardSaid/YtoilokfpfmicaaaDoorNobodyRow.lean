/-
  dryrotlaw20.ScrubNobody: FOR EVERY group and every anchor the law answers true, and both read afterwards as before: of a disk that no call made mending tells the error, nothing is bad, there are no groups (DOC.md, Objects). The card: the listed tables are tied to the program's text. No condition of ours.
-/
import Derived.Test.YtoilokfpfmicaaaDoorCards
import Derived.Test.YtoilokfpfmicaaaDoorTie
import Derived.Test.YtoilokfpfmicaaaDoorNobody
import Derived.Test.YtoilokfpfmicaaaDoorRowKit
import Derived.ProofKit
import Derived.LaidMore
import Derived.Lay
import Derived.SevenTiedAt
import Derived.Stop.Joined
set_option linter.unusedVariables false
set_option linter.unusedSimpArgs false
namespace Go.Proofs.YtoilokfpfmicaaaDoor
open Go.ChangeShapes Go.WideShapes Go.ChangeAt Go.RowKit Go.ChangeMaps

theorem readableB : ∀ t ∈ [32, 34], Tryd.prog.readableRec t = true ∧ t < Tryd.prog.types.size := by
  intro t ht
  have hall : ([32, 34].all fun u => Tryd.prog.readableRec u && decide (u < Tryd.prog.types.size)) = true := by kernel_rfl
  simpa using List.all_eq_true.1 hall t ht
set_option maxRecDepth 100000 in
theorem open_group {H : Type} {enc : TypeId × Value → H} {w : World} {r : Reach} {b0 base : Nat} {sp : Nat → Bool} {held : Bool} {v : Value} {d : DataW H} {p : List MemPlace}
    (hv : Value.okWide Tryd.prog w r b0 32 v) (h : DataW.Trod enc Tryd.prog w base sp held 32 v d p) : ∃ g : Grp, v = g.v := by
  obtain ⟨cs, rfl, hsz⟩ := okWide_struct Tryd.underlying32 hv
  obtain ⟨fuel, hf⟩ := h
  obtain ⟨hl, hf⟩ := trod_fields Tryd.underlying32 hf
  have hc : Tryd.prog.cellsOf 32 = 4 := by kernel_rfl
  have hs : Tryd.prog.cellsOf 9 = 1 := by kernel_rfl
  have hi : Tryd.prog.cellsOf 3 = 1 := by kernel_rfl
  obtain ⟨l⟩ := cs
  simp only [Value.cells] at hl hf
  rw [hc] at hl
  match l, hl with
  | [a0, a1, a2, a3], _ =>
    obtain ⟨m0, y0, h0⟩ := hf 0 _ rfl
    obtain ⟨m1, y1, h1⟩ := hf 1 _ rfl
    obtain ⟨m2, y2, h2⟩ := hf 2 _ rfl
    obtain ⟨m3, y3, h3⟩ := hf 3 _ rfl
    obtain ⟨x0, e0, _, _⟩ := DataW.trod_int Tryd.underlying3 h0
    obtain ⟨x1, e1, _, _⟩ := DataW.trod_string Tryd.underlying9 h1
    obtain ⟨x2, e2, _, _⟩ := DataW.trod_int Tryd.underlying3 h2
    obtain ⟨x3, e3, _, _⟩ := DataW.trod_int Tryd.underlying3 h3
    simp [hs, hi] at e0 e1 e2 e3
    subst e0 e1 e2 e3
    exact ⟨⟨x0, x1, x2, x3⟩, rfl⟩
set_option maxRecDepth 100000 in
theorem open_anchor {H : Type} {enc : TypeId × Value → H} {w : World} {r : Reach} {b0 base : Nat} {sp : Nat → Bool} {held : Bool} {v : Value} {d : DataW H} {p : List MemPlace}
    (hv : Value.okWide Tryd.prog w r b0 34 v) (h : DataW.Trod enc Tryd.prog w base sp held 34 v d p) : ∃ a : Anc, v = a.v := by
  obtain ⟨cs, rfl, hsz⟩ := okWide_struct Tryd.underlying34 hv
  obtain ⟨fuel, hf⟩ := h
  obtain ⟨hl, hf⟩ := trod_fields Tryd.underlying34 hf
  have hc : Tryd.prog.cellsOf 34 = 10 := by kernel_rfl
  have hi : Tryd.prog.cellsOf 3 = 1 := by kernel_rfl
  obtain ⟨l⟩ := cs
  simp only [Value.cells] at hl hf
  rw [hc] at hl
  match l, hl with
  | [a0, a1, a2, a3, a4, a5, a6, a7, a8, a9], _ =>
    obtain ⟨m0, y0, h0⟩ := hf 0 _ rfl
    obtain ⟨m1, y1, h1⟩ := hf 1 _ rfl
    obtain ⟨m2, y2, h2⟩ := hf 2 _ rfl
    obtain ⟨m3, y3, h3⟩ := hf 3 _ rfl
    obtain ⟨m4, y4, h4⟩ := hf 4 _ rfl
    obtain ⟨m5, y5, h5⟩ := hf 5 _ rfl
    obtain ⟨m6, y6, h6⟩ := hf 6 _ rfl
    obtain ⟨m7, y7, h7⟩ := hf 7 _ rfl
    obtain ⟨m8, y8, h8⟩ := hf 8 _ rfl
    obtain ⟨m9, y9, h9⟩ := hf 9 _ rfl
    obtain ⟨x0, e0, _, _⟩ := DataW.trod_int Tryd.underlying3 h0
    obtain ⟨x1, e1, _, _⟩ := DataW.trod_int Tryd.underlying3 h1
    obtain ⟨x2, e2, _, _⟩ := DataW.trod_int Tryd.underlying3 h2
    obtain ⟨x3, e3, _, _⟩ := DataW.trod_int Tryd.underlying3 h3
    obtain ⟨x4, e4, _, _⟩ := DataW.trod_int Tryd.underlying3 h4
    obtain ⟨x5, e5, _, _⟩ := DataW.trod_int Tryd.underlying3 h5
    obtain ⟨x6, e6, _, _⟩ := DataW.trod_int Tryd.underlying3 h6
    obtain ⟨x7, e7, _, _⟩ := DataW.trod_int Tryd.underlying3 h7
    obtain ⟨x8, e8, _, _⟩ := DataW.trod_int Tryd.underlying3 h8
    obtain ⟨x9, e9, _, _⟩ := DataW.trod_int Tryd.underlying3 h9
    simp [hi] at e0 e1 e2 e3 e4 e5 e6 e7 e8 e9
    subst e0 e1 e2 e3 e4 e5 e6 e7 e8 e9
    exact ⟨⟨x0, x1, x2, x3, x4, x5, x6, x7, x8, x9⟩, rfl⟩
set_option maxRecDepth 100000 in
theorem liftedB (os : Os) (started : os.Started) (H : Type) (enc : TypeId × Value → H) :
    ReturnsInHanded {} Tryd.checked os 5 .any (fun w args => (Rows.scrubNobodySpec.pre enc Tryd.prog Tryd.f5 Rows.scrubNobodyRow.domain false w args ∧ laidMetH Tryd.prog Rows.scrubNobodyRow.laid w) ∧ sizedMet enc Tryd.prog Tryd.f5 (OpenSpec.ofChange Rows.scrubNobodySpec) false w args)
      (Rows.scrubNobodySpec.post enc Tryd.prog Tryd.f5 false true false false) := by
  refine returnsInHanded_of_change_and (C := Tryd.checked) (X := fun w _ => laidMetH Tryd.prog Rows.scrubNobodyRow.laid w) (fun _ _ _ hh h => h.of_heap hh) own started (by kernel_rfl) Tryd.func5
    (ChangeSpec.witness_shaped (enc := enc) (C := Tryd.checked) (os := os) (X := fun w _ => laidMetH Tryd.prog Rows.scrubNobodyRow.laid w) false (World.laidAll Tryd.prog os Rows.scrubNobodyRow.laid) #[.agg #[.int .i64 0, .string ByteArray.empty, .int .i64 0, .int .i64 0], .agg #[.int .i64 0, .int .i64 0, .int .i64 0, .int .i64 0, .int .i64 0, .int .i64 0, .int .i64 0, .int .i64 0, .int .i64 0, .int .i64 0]] 8 (World.laidAll_os _ _ _)
      (World.shaped_of_ZipB (by kernel_rfl) (by kernel_rfl)) (by kernel_rfl) (by kernel_rfl) (by kernel_rfl)
      (by rw [MakeChecks.laidMetH_plain _ _ _ (by kernel_rfl)]; exact laidMet_laidAll _ (by kernel_rfl) (by kernel_rfl))) ?_
  intro W base args ds gs before hval0 hW _ _ hL _
  have hval : ∀ (j : Nat) t v, Tryd.f5.params[j]? = some t → args[j]? = some v → Value.okWide Tryd.prog W .any base t v := hval0
  have hW' := hW
  obtain ⟨p, q, hA0, hV, rfl, hfz, hnd⟩ := hW
  have hA : DataW.TrodAll enc Tryd.prog W 0 (fun _ => true) true Tryd.f5.params.toList args.toList ds p := hA0
  rw [Tryd.params5] at hA hval

  obtain ⟨v0, vs0, d0, ds0, p0, q0, hargs, rfl, rfl, h0, r0⟩ := trodAll_cons hA
  obtain ⟨v1, vs1, d1, ds1, p1, q1, rfl, rfl, rfl, h1, r1⟩ := trodAll_cons r0
  obtain ⟨rfl, rfl, rfl⟩ := trodAll_nil r1
  obtain rfl : args = #[v0, v1] := by cases args; simp_all
  obtain ⟨rfl, rfl⟩ := trodVars_none hV
  obtain ⟨g, rfl⟩ := open_group (hval 0 32 v0 rfl rfl) h0
  obtain ⟨a, rfl⟩ := open_anchor (hval 1 34 v1 rfl rfl) h1
  refine (nobody g a W).mono fun e W' ⟨he, hb⟩ => ?_
  subst he
  exact ⟨_, rfl, post_below rfl laidOut (by rw [Tryd.params5]; exact readableB) hW' hb rfl rfl (fun _ _ _ => trodAll_mk1 (shut_bool Tryd.underlying4 _)) (ok_one (by kernel_rfl) rfl (okWide_bool_mk Tryd.underlying4 _))⟩
theorem saidB : Rows.ScrubNobodySaid :=
  OpenClaim.holds_of_wide 5 Tryd.f5 rfl rfl rfl rfl rfl rfl rfl ⟨rfl, rfl, rfl, rfl, rfl⟩ rfl rfl rfl rfl rfl (by kernel_rfl) Tryd.func5 (by kernel_rfl)
    (of_decide_eq_true (by kernel_rfl)) (by unfold Func.isWrapper; first | (rw [if_pos (by decide +kernel)]; kernel_rfl) | (rw [if_neg (by decide +kernel)]; exact ⟨rfl, rfl⟩))
    (fun os started H enc _ => liftedB os started H enc)

theorem cardB : Rows.ScrubNobodyCardSaid :=
  Claim7.holds_tied_plain_at .later [] _ _ _ _ saidB (fun _ h => by cases h) (by kernel_rfl) (fun _ h => by cases h) scrubNobody_row_tie rfl ⟨rfl, rfl⟩ (by kernel_rfl) rfl
    (fun f fn hf hfn => by
      obtain rfl : f = 5 := Option.some.inj ((show Tryd.prog.funcNamed "dryrot/dryrotlaw20.ScrubNobody" = some 5 by kernel_rfl).symm.trans hf) |>.symm
      obtain rfl : fn = Tryd.f5 := (Option.some.inj (Tryd.func5.symm.trans hfn)).symm
      exact ⟨by kernel_rfl, fun j t ht => by
        rw [Tryd.params5] at ht
        have hm : t ∈ [32, 34] := by simpa using Array.mem_of_getElem? ht
        have hall : ([32, 34].all fun u => !Tryd.prog.wantsStandIn u) = true := by kernel_rfl
        exact (show Tryd.prog.wantsStandIn t = false by simpa using List.all_eq_true.1 hall t hm)⟩)
    (by kernel_rfl)

#print axioms cardB
end Go.Proofs.YtoilokfpfmicaaaDoor
