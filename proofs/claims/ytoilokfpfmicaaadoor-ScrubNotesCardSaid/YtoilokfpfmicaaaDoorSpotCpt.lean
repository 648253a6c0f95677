/- slices.Compact at extents. -/
import Derived.Test.YtoilokfpfmicaaaDoorSpotDel
set_option linter.unusedVariables false
set_option linter.unusedSimpArgs false
namespace Go.Proofs.YtoilokfpfmicaaaDoor
open Go.RowKit Go.ChangeMaps
set_option maxHeartbeats 400000
attribute [local go_sem high] eqlS neqS

/-- One of each run of equals, of the first j. -/
def upC {α : Type} [DecidableEq α] (xs : List α) : Nat → List α
  | 0 => []
  | j + 1 => upC xs j ++ (match xs[j]? with | none => [] | some x => if 0 < j ∧ xs[j - 1]? = some x then [] else [x])
theorem upC_keep {α : Type} [DecidableEq α] {xs : List α} {j : Nat} {x : α} (h : xs[j]? = some x) (hn : ∀ y, xs[j - 1]? = some y → y ≠ x) : upC xs (j + 1) = upC xs j ++ [x] := by
  rw [upC, h]
  simp only
  rw [if_neg]
  rintro ⟨_, e⟩
  exact hn x e rfl
theorem upC_skip {α : Type} [DecidableEq α] {xs : List α} {j : Nat} {x : α} (h : xs[j]? = some x) (h0 : 0 < j) (hn : xs[j - 1]? = some x) : upC xs (j + 1) = upC xs j := by
  rw [upC, h]
  simp only
  rw [if_pos ⟨h0, hn⟩, List.append_nil]
theorem upC_one {α : Type} [DecidableEq α] {xs : List α} {x : α} (h : xs[0]? = some x) : upC xs 1 = [x] := by
  rw [upC, h]
  simp [upC]
theorem upC_len {α : Type} [DecidableEq α] (xs : List α) : ∀ j, (upC xs j).length ≤ j
  | 0 => by simp [upC]
  | j + 1 => by
    have := upC_len xs j
    rw [upC]
    cases xs[j]? with
    | none => simp; omega
    | some x => simp only; split <;> simp <;> omega

/-- A row that is being written over from the front: C stands there, from place d on all is as it was. -/
def RowAt (xs : List (ByteArray × Int)) (rest : List Value) (b : Nat) (w wr : World) (C : List (ByteArray × Int)) (d : Nat) : Prop :=
  Chg (· = b) w wr ∧ ∃ mid, wr.heap[b]? = some (.cells (C.flatMap encS ++ mid ++ (xs.drop d).flatMap encS ++ rest).toArray 25 (0, 0)) ∧ C.length * 2 + mid.length = d * 2
theorem RowAt.gw {xs C : List (ByteArray × Int)} {rest : List Value} {b d : Nat} {w wr w2 : World} (h : RowAt xs rest b w wr C d) (hg : Gw wr w2) : RowAt xs rest b w w2 C d := by
  obtain ⟨h1, mid, h3, h4⟩ := h
  exact ⟨h1.trans (Chg.of_below (S := fun _ => False) hg.below) (fun _ _ f => f.elim), mid, below_heap hg.below h3, h4⟩
theorem RowAt.start {xs : List (ByteArray × Int)} {rest : List Value} {b : Nat} {w : World} (h : w.heap[b]? = some (.cells (xs.flatMap encS ++ rest).toArray 25 (0, 0))) (d : Nat) (hd : d ≤ xs.length) : RowAt xs rest b w w (xs.take d) d := by
  refine ⟨Chg.refl _ _, [], ?_, by simp [hd]⟩
  rw [h]
  conv => lhs; rw [← List.take_append_drop d xs, List.flatMap_append]
  simp
theorem RowAt.step {xs C : List (ByteArray × Int)} {rest : List Value} {b d : Nat} {w wr : World} (h : RowAt xs rest b w wr C d) (hd : d < xs.length) : RowAt xs rest b w wr C (d + 1) := by
  obtain ⟨h1, mid, h3, h4⟩ := h
  refine ⟨h1, mid ++ encS xs[d], ?_, by simp [encS]; omega⟩
  rw [h3, List.drop_eq_getElem_cons hd, List.flatMap_cons]
  simp
theorem RowAt.cells {xs C : List (ByteArray × Int)} {rest : List Value} {b d : Nat} {w wr : World} (h : RowAt xs rest b w wr C d) {j : Nat} {x : ByteArray × Int} (hj : d ≤ j) (hx : xs[j]? = some x) :
    wr.cell? ⟨b, j * 2, none⟩ = some (.string x.1) ∧ wr.cell? ⟨b, j * 2 + 1, none⟩ = some (.int .i64 x.2) := by
  obtain ⟨h1, mid, h3, h4⟩ := h
  have hlt := (List.getElem?_eq_some_iff.1 hx).1
  have hl : ((C.flatMap encS) ++ mid).length = d * 2 := by
    rw [List.length_append, len_flat (sz := 2) (fun _ => rfl)]
    omega
  have key : ∀ k u, (encS x)[k]? = some u → k < 2 → wr.cell? ⟨b, j * 2 + k, none⟩ = some u := by
    intro k u hu hk
    simp only [World.cell?, h3]
    have e1 : ((xs.drop d).flatMap encS)[(j - d) * 2 + k]? = some u := by
      rw [flat_at (sz := 2) (fun _ => rfl) (xs.drop d) (j - d) x (by rw [List.getElem?_drop]; rw [show d + (j - d) = j from by omega]; exact hx) k hk]
      exact hu
    have hk2 := (List.getElem?_eq_some_iff.1 e1).1
    have : (C.flatMap encS ++ mid ++ (xs.drop d).flatMap encS ++ rest)[j * 2 + k]? = some u := by
      rw [List.append_assoc, List.getElem?_append_right (by rw [hl]; omega), hl, show j * 2 + k - d * 2 = (j - d) * 2 + k from by omega, List.getElem?_append_left hk2, e1]
    simpa using this
  exact ⟨key 0 _ rfl (by decide), key 1 _ rfl (by decide)⟩
theorem RowAt.put {xs C : List (ByteArray × Int)} {rest : List Value} {b d : Nat} {w wr : World} (h : RowAt xs rest b w wr C d) (hC : C.length < d) (x : ByteArray × Int) :
    (∃ u1 u2, wr.cell? ⟨b, C.length * 2, none⟩ = some u1 ∧ wr.cell? ⟨b, C.length * 2 + 1, none⟩ = some u2) ∧ (∀ o, wr.frozen? ⟨b, o, none⟩ = false) ∧
    RowAt xs rest b w ((wr.setCell ⟨b, C.length * 2, none⟩ (.string x.1)).setCell ⟨b, C.length * 2 + 1, none⟩ (.int .i64 x.2)) (C ++ [x]) d := by
  obtain ⟨h1, mid, h3, h4⟩ := h
  obtain ⟨m0, m1, mid', rfl⟩ : ∃ m0 m1 mid', mid = m0 :: m1 :: mid' := by
    rcases mid with _ | ⟨m0, _ | ⟨m1, mid'⟩⟩
    · simp at h4; omega
    · simp at h4; omega
    · exact ⟨m0, m1, mid', rfl⟩
  have hF : (C.flatMap encS).length = C.length * 2 := by rw [len_flat (sz := 2) (fun _ => rfl)]
  have hFe : (C ++ [x]).flatMap encS = C.flatMap encS ++ encS x := by simp
  generalize C.flatMap encS = F at *
  generalize hD : (xs.drop d).flatMap encS = D at *
  have hat : ∀ k u, (m0 :: m1 :: mid')[k]? = some u → wr.cell? ⟨b, C.length * 2 + k, none⟩ = some u := by
    intro k u hu
    have hk := (List.getElem?_eq_some_iff.1 hu).1
    have : (F ++ m0 :: m1 :: mid' ++ D ++ rest)[C.length * 2 + k]? = some u := by
      rw [List.append_assoc, List.append_assoc, List.getElem?_append_right (by omega), hF, show C.length * 2 + k - C.length * 2 = k from by omega, List.getElem?_append_left hk, hu]
    simp only [World.cell?, h3]
    simpa using this
  refine ⟨⟨m0, m1, hat 0 m0 rfl, hat 1 m1 rfl⟩, fun o => by simp [World.frozen?, h3], ?_⟩
  rw [setCell_block _ h3, setCell_block _ (setBlock_at _ h3), setBlock_setBlock]
  refine ⟨h1.trans (setBlock_chg' _) (fun _ _ h => h), mid', ?_, by simp at h4 ⊢; omega⟩
  rw [setBlock_at _ h3, hFe, hD]
  have e1 : ((F ++ m0 :: m1 :: mid' ++ D ++ rest).toArray.setIfInBounds (C.length * 2) (.string x.1)).setIfInBounds (C.length * 2 + 1) (.int .i64 x.2) = (F ++ encS x ++ mid' ++ D ++ rest).toArray := by
    simp only [List.setIfInBounds_toArray]
    congr 1
    simp only [List.append_assoc]
    rw [List.set_append_right _ _ (by omega), hF, List.set_append_right _ _ (by omega), hF, show C.length * 2 - C.length * 2 = 0 from by omega, show C.length * 2 + 1 - C.length * 2 = 1 from by omega]
    simp [encS]
  rw [e1]
/-- What stands behind C is struck. -/
theorem RowAt.clear {xs C : List (ByteArray × Int)} {rest : List Value} {b : Nat} {w wr : World} (h : RowAt xs rest b w wr C xs.length) (hC : C.length ≤ xs.length) (c : Nat) :
    ∃ l', (∀ ty, (Builtin.clear_ #[22] ty #[.slice (some ⟨b, C.length * 2, none⟩) (xs.length - C.length) c]).run Tryd.prog wr = .ok (.tuple #[]) (setBlock wr b (.cells (C.flatMap encS ++ l').toArray 25 (0, 0)))) ∧
      Chg (· = b) w (setBlock wr b (.cells (C.flatMap encS ++ l').toArray 25 (0, 0))) ∧ (setBlock wr b (.cells (C.flatMap encS ++ l').toArray 25 (0, 0))).heap[b]? = some (.cells (C.flatMap encS ++ l').toArray 25 (0, 0)) := by
  obtain ⟨h1, mid, h3, h4⟩ := h
  have hF : (C.flatMap encS).length = C.length * 2 := by rw [len_flat (sz := 2) (fun _ => rfl)]
  obtain ⟨l', hcl⟩ := clear_block (P := Tryd.prog) wr 22 25 2 _ rfl (by simp [Value.cells, Value.oneCell']) (by decide) Tryd.underlying22 Tryd.zeroValue25 b (C.length * 2) (xs.length - C.length) c h3 (by simp only [List.length_append, hF, List.drop_length, List.flatMap_nil, List.length_nil]; omega)
  refine ⟨l', fun ty => ?_, h1.trans (setBlock_chg' _) (fun _ _ h => h), setBlock_at _ h3⟩
  rw [hcl, List.append_assoc, List.append_assoc, List.take_left' hF]

set_option maxRecDepth 100000 in
set_option maxHeartbeats 1000000 in
theorem compactS (xs : List (ByteArray × Int)) (rest : List Value) (b cap : Nat) (w : World) (hw : w.heap[b]? = some (.cells (xs.flatMap encS ++ rest).toArray 25 (0, 0))) (hcap : xs.length ≤ cap) (hmax : cap ≤ maxLen) :
    Calls Tryd.prog 23 #[.slice (some ⟨b, 0, none⟩) xs.length cap] w fun e w' =>
      e = .returned (.slice (some ⟨b, 0, none⟩) (upC xs xs.length).length cap) ∧ Chg (· = b) w w' ∧ ∃ rest', w'.heap[b]? = some (.cells ((upC xs xs.length).flatMap encS ++ rest').toArray 25 (0, 0)) := by
  unfold maxLen at hmax
  by_cases hs : xs.length < 2
  · have he : upC xs xs.length = xs := by
      rcases xs with _ | ⟨x, _ | ⟨y, l⟩⟩
      · rfl
      · exact upC_one rfl
      · simp at hs; omega
    rw [he]
    have hw := hid hw
    have hsz : (xs.length : Int) < 2 := by omega
    clear he hs
    go_enter Tryd.func23, Tryd.ntmps23
    go_wp2
    go_ret
    exact ⟨rfl, Chg.refl _ _, rest, hw.out⟩
  · have hsz : ¬ (xs.length : Int) < 2 := by omega
    have hw := hid hw
    go_enter Tryd.func23, Tryd.ntmps23
    go_wp2
    go_loopg [3] xs.length (fun g s3 wr => ∃ k q : Nat, 1 ≤ k ∧ k ≤ xs.length ∧ xs.length - k ≤ g ∧ s3 = .int .i64 k ∧ wr = w.drewN q ∧ Hid (upC xs k = xs.take k))
    case atStart =>
      refine ⟨1, 0, by omega, by omega, by omega, rfl, rfl, ?_⟩
      obtain ⟨x, hx⟩ : ∃ x, xs[0]? = some x := ⟨_, List.getElem?_eq_getElem (by omega)⟩
      show upC xs 1 = xs.take 1
      rw [upC_one hx]
      rcases xs with _ | ⟨y, l⟩
      · simp at hx
      · simp at hx; simp [hx]
    case round =>
      obtain ⟨k, q, hk1, hkn, hg, rfl, hwr, B⟩ := hrel
      have hro : RowAt xs rest b w wr (xs.take 0) 0 := by
        rw [hwr]
        exact (RowAt.start hw.out 0 (by omega)).gw (Gw.of_drewN _ _)
      by_cases hlt : k < xs.length
      · obtain ⟨x, hx⟩ : ∃ x, xs[k]? = some x := ⟨_, List.getElem?_eq_getElem hlt⟩
        obtain ⟨y, hy⟩ : ∃ y, xs[k - 1]? = some y := ⟨_, List.getElem?_eq_getElem (by omega)⟩
        obtain ⟨c1, c2⟩ := hro.cells (Nat.zero_le _) hx
        obtain ⟨c3, c4⟩ := hro.cells (Nat.zero_le _) hy
        have hkz : (k : Int) - 1 = ((k - 1 : Nat) : Int) := by omega
        have hltz : (k : Int) < (xs.length : Int) := by omega
        have hltz1 : ((k - 1 : Nat) : Int) < (xs.length : Int) := by omega
        obtain ⟨n1, i1⟩ := x
        obtain ⟨n2, i2⟩ := y
        replace hx := hid hx
        replace hy := hid hy
        replace hwr := hid hwr
        clear hro
        cases hxy : isSame (n1, i1) (n2, i2) with
        | false =>
          go_wp2_with fail
          go_quiet (fail)
          go_wp2
          go_roundg (xs.length - (k + 1))
          case measure => omega
          case rel =>
            refine ⟨k + 1, q + nq, by omega, by omega, by omega, by go_num, by rw [hwr.out, World.drewN_drewN], ?_⟩
            show upC xs (k + 1) = xs.take (k + 1)
            rw [upC_keep hx.out (fun y hy' => by rw [hy.out] at hy'; cases hy'; exact fun e => isSame_no hxy e.symm), B.out, List.take_add_one, hx.out]
            rfl
        | true =>
          have hlt4 : (xs.length : Int) - (k : Int) = ((xs.length - k : Nat) : Int) := by omega
          have hcne : ¬ cap = k := by omega
          have hkc : k < cap := by omega
          go_wp2_with fail
          go_quiet (fail)
          go_wp2
          go_loopg [3, 5] xs.length (fun g s3 s5 wr => ∃ i m : Nat, 1 ≤ m ∧ k + m ≤ xs.length ∧ xs.length - (k + m) ≤ g ∧ s3 = .int .i64 i ∧ s5 = .int .i64 m ∧ i ≤ k + m - 1 ∧ Hid (RowAt xs rest b w wr (upC xs (k + m)) (k + m - 1) ∧ (upC xs (k + m)).length = i))
          case atStart =>
            have e1 : upC xs (k + 1) = xs.take k := by rw [upC_skip hx.out (by omega) (by rw [hy.out, isSame_yes hxy]), B.out]
            refine ⟨k, 1, by omega, by omega, by omega, rfl, rfl, by omega, ?_, ?_⟩
            · rw [e1, hwr.out]
              exact (RowAt.start hw.out k (by omega)).gw ((Gw.of_drewN _ _).drewN _)
            · rw [e1]; simp; omega
          case round =>
            obtain ⟨i, m, hm1, hmn, hg2, rfl, rfl, him, B2⟩ := hrel
            by_cases hlt2 : k + m < xs.length
            · obtain ⟨z, hz⟩ : ∃ z, xs[k + m]? = some z := ⟨_, List.getElem?_eq_getElem hlt2⟩
              obtain ⟨y', hy'⟩ : ∃ y, xs[k + m - 1]? = some y := ⟨_, List.getElem?_eq_getElem (by omega)⟩
              obtain ⟨e1, e2⟩ := B2.out.1.cells (by omega) hz
              obtain ⟨e3, e4⟩ := B2.out.1.cells (Nat.le_refl _) hy'
              rw [show (k + m) * 2 = k * 2 + m * 2 from by omega] at e1 e2
              rw [show (k + m - 1) * 2 = k * 2 + (m - 1) * 2 from by omega] at e3 e4
              have hmz : (m : Int) - 1 = ((m - 1 : Nat) : Int) := by omega
              have hltm : (m : Int) < ((xs.length - k : Nat) : Int) := by omega
              have hltm1 : ((m - 1 : Nat) : Int) < ((xs.length - k : Nat) : Int) := by omega
              have hiz : (i : Int) < (xs.length : Int) := by omega
              obtain ⟨n3, i3⟩ := z
              obtain ⟨n4, i4⟩ := y'
              replace hz := hid hz
              replace hy' := hid hy'
              have hd2 := B2.out.1.step (show k + m - 1 < xs.length by omega)
              rw [show k + m - 1 + 1 = k + m from by omega] at hd2
              have hCi := hid B2.out.2
              obtain ⟨⟨u1, u2, d1, d2⟩, d3, _⟩ := hd2.put (by rw [hCi.out]; omega) (n3, i3)
              rw [hCi.out] at d1 d2
              have d4 := d3 (i * 2)
              have d5 := d3 (i * 2 + 1)
              replace hd2 := hid hd2
              clear d3
              cases hxy2 : isSame (n3, i3) (n4, i4) with
              | true =>
                have e1 : upC xs (k + m + 1) = upC xs (k + m) := upC_skip hz.out (by omega) (by rw [hy'.out, isSame_yes hxy2])
                replace e1 := hid e1
                go_wp2_with fail
                go_quiet (fail)
                go_wp2
                go_roundg (xs.length - (k + m + 1))
                case measure => omega
                case rel =>
                  refine ⟨i, m + 1, by omega, by omega, by omega, rfl, by go_num, by omega, ?_, ?_⟩
                  · rw [show k + (m + 1) = k + m + 1 from by omega, e1.out]
                    exact hd2.out.gw (Gw.of_drewN wr nq)
                  · rw [show k + (m + 1) = k + m + 1 from by omega, e1.out]
                    exact hCi.out
              | false =>
                have e1 : upC xs (k + m + 1) = upC xs (k + m) ++ [(n3, i3)] := upC_keep hz.out (fun y hy2 => by rw [hy'.out] at hy2; cases hy2; exact fun e => isSame_no hxy2 e.symm)
                replace e1 := hid e1
                go_wp2_with fail
                go_quiet (fail)
                go_wp2
                have hput := ((hd2.out.gw (Gw.of_drewN wr nq)).put (by rw [hCi.out]; omega) (n3, i3)).2.2
                rw [hCi.out] at hput
                replace hput := hid hput
                go_roundg (xs.length - (k + m + 1))
                case measure => omega
                case rel =>
                  refine ⟨i + 1, m + 1, by omega, by omega, by omega, by go_num, by go_num, by omega, ?_, ?_⟩
                  · rw [show k + (m + 1) = k + m + 1 from by omega, e1.out]
                    exact hput.out
                  · rw [show k + (m + 1) = k + m + 1 from by omega, e1.out]
                    simp [hCi.out]
            · have hmk : k + m = xs.length := by omega
              have hltm : ¬ (m : Int) < ((xs.length - k : Nat) : Int) := by omega
              have hd2 := B2.out.1.step (show k + m - 1 < xs.length by omega)
              rw [show k + m - 1 + 1 = k + m from by omega, hmk] at hd2
              have hCi := B2.out.2
              rw [hmk] at hCi
              obtain ⟨l', hcl, hch, hbl⟩ := hd2.clear (by rw [hCi]; omega) (cap - i)
              rw [hCi] at hcl
              have hin : (i : Int) ≤ (xs.length : Int) := by omega
              have hcne2 : ¬ cap = i := by omega
              replace hch := hid hch
              replace hbl := hid hbl
              replace hCi := hid hCi
              clear hd2 hmk hlt hlt2 hkc hcne
              go_wp2
              go_ret
              rw [hCi.out]
              exact ⟨rfl, hch.out, l', hbl.out⟩
      · obtain rfl : k = xs.length := by omega
        have hltz : ¬ (xs.length : Int) < (xs.length : Int) := by omega
        have hB := B.out
        rw [List.take_of_length_le (Nat.le_refl _)] at hB
        have hend := hid hro
        replace hB := hid hB
        replace hwr := hid hwr
        clear hro
        go_wp2
        go_ret
        rw [hB.out]
        refine ⟨rfl, hend.out.1, rest, ?_⟩
        obtain ⟨_, mid, h3, h4⟩ := hend.out
        have : mid = [] := List.eq_nil_of_length_eq_zero (by simpa using h4)
        subst this
        simpa using h3
end Go.Proofs.YtoilokfpfmicaaaDoor
