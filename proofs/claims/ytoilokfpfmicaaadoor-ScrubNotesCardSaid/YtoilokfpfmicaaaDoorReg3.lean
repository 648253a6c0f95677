/- A statement whose order is open and whose last operation waits for all others (it may write a slot that they read). No program in sight. -/
import Derived.Test.YtoilokfpfmicaaaDoorReg2
set_option linter.unusedVariables false
set_option linter.unusedSimpArgs false
namespace Go.Proofs.YtoilokfpfmicaaaDoor
open Go.RowKit

theorem getD_push_lt {xs : Array Bool} {i : Nat} (h : i < xs.size) (d x : Bool) : (xs.push x).getD i d = xs.getD i d := by
  simp [Array.getD_eq_getD_getElem?, Array.getElem?_push_lt h, h]
theorem set_push {xs : Array Bool} {i : Nat} (h : i < xs.size) (x : Bool) : (xs.push x).setIfInBounds i true = (xs.setIfInBounds i true).push x := by
  apply Array.ext_getElem?
  intro j
  by_cases hj : j < xs.size
  · rw [Array.getElem?_push_lt (by simpa using hj), Array.getElem?_setIfInBounds, Array.getElem_setIfInBounds]
    by_cases e : i = j
    · subst e; simp [h, Nat.lt_succ_of_lt h]
    · rw [if_neg e, if_neg e, Array.getElem?_push_lt hj]
  · rw [Array.getElem?_setIfInBounds_ne (by omega)]
    by_cases e : j = xs.size
    · subst e
      have h1 := @Array.getElem?_push_size _ xs x
      have h2 := @Array.getElem?_push_size _ (xs.setIfInBounds i true) x
      rw [Array.size_setIfInBounds] at h2
      rw [h1, h2]
    · rw [Array.getElem?_eq_none (by simp; omega), Array.getElem?_eq_none (by simp; omega)]
theorem wpAny_VL {P : Program} {l : List Oper} {o : Oper} {Q : Exit → Act → World → Prop} {a : Act} {J : (Nat → Bool) → (Nat → Value) → World → Prop} (hB : commG l.toArray a.tmps.size = true) (hg : o.guard = none)
    (hwait : ∀ i, i < l.length → ∃ e ∈ o.after, Region.binds .any e = true ∧ e.on = i) (hon : ∀ e ∈ o.after, Region.binds .any e = true → e.on < l.length)
    (hs : stepV P a J l l 0) (hend : ∀ L V w', (∀ i, i < l.length → L i = true) → J L V w' → does P (putAll l (resV V l 0) a) o w' (fun v w'' => Q .normal ((putAll l (resV V l 0) a).put o.dst v) w'')) :
    ∀ (fuel : Nat) (listed : Array Bool) (V : Nat → Value) (b : Act) (w : World), listed.size = l.length → (List.range l.length).countP (fun i => !listed.getD i false) = fuel → FrameV l.toArray V a (fun i => listed.getD i false) b → Closed l (fun i => listed.getD i false) → J (fun i => listed.getD i false) V w →
    wpAny P .any (l ++ [o]).toArray Q (fuel + 1) (listed.push false) b w := by
  have hlast : (l ++ [o]).toArray[l.length]? = some o := by simp
  have hold : ∀ {i : Nat}, i < l.length → (l ++ [o]).toArray[i]? = l.toArray[i]? := fun {i} hi => by simp [List.getElem?_append_left hi]
  have hlt_of : ∀ {i : Nat} {p : Oper}, (l ++ [o]).toArray[i]? = some p → i = l.length ∨ i < l.length := fun {i p} hp => by
    have := (Array.getElem?_eq_some_iff.1 hp).1
    simp at this
    omega
  have hall : ∀ (listed : Array Bool), listed.size = l.length → Region.ready .any (l ++ [o]).toArray (listed.push false) = [] → False := by
    intro listed hsz hr
    have hone : ∀ n i, i ≤ n → i < l.length → listed.getD i false = true := by
      have one : ∀ i, i < l.length → (∀ k, k < i → listed.getD k false = true) → listed.getD i false = true := by
        intro i hio ih
        cases hx : listed.getD i false with
        | true => rfl
        | false =>
          exfalso
          have : i ∈ Region.ready .any (l ++ [o]).toArray (listed.push false) := by
            rw [mem_ready]
            refine ⟨?_, l[i], by rw [hold hio]; simp [hio], fun e he hb => ?_⟩
            · have : i < listed.size := by omega
              rw [getD_push_lt this]
              simp [this] at hx ⊢; exact hx
            · have hlt := (commG_spec hB (i := i) (o := l[i]) (by simp [hio])).wait e he hb
              rw [getD_push_lt (by omega)]
              exact ih e.on hlt
          rw [hr] at this; cases this
      intro n
      induction n with
      | zero => intro i hi hio; exact one i hio (fun k hk => by omega)
      | succ n ih => intro i hi hio; exact one i hio (fun k hk => ih k (by omega) (by omega))
    have : l.length ∈ Region.ready .any (l ++ [o]).toArray (listed.push false) := by
      rw [mem_ready]
      refine ⟨?_, o, hlast, fun e he hb => ?_⟩
      · rw [← hsz]; simp
      · have := hon e he hb
        rw [getD_push_lt (by omega)]
        exact hone _ _ (Nat.le_refl _) this
    rw [hr] at this; cases this
  intro fuel
  induction fuel with
  | zero =>
    intro listed V b w hsz hc hf hcl hJ
    have hal : ∀ i, i < l.length → listed.getD i false = true := by
      intro i hi
      rw [List.countP_eq_zero] at hc
      simpa using hc i (List.mem_range.2 hi)
    refine ⟨fun hr => (hall listed hsz hr).elim, fun i hi => ?_⟩
    obtain ⟨h1, p, hp, _⟩ := mem_ready.1 hi
    have hin : i = l.length := by
      rcases hlt_of hp with e | e
      · exact e
      · exfalso
        have := hal i e
        rw [getD_push_lt (by omega)] at h1
        have hil : i < listed.size := by omega
        simp [hil] at h1 this
        rw [h1] at this; cases this
    subst hin
    have hpo : p = o := Option.some.inj (hp.symm.trans hlast)
    subst hpo
    have hb := hf.all hB (fun i hi => hal i (by simpa using hi))
    simp only [List.toList_toArray] at hb
    subst hb
    have hr0 : ∀ b', wpAny P .any (l ++ [p]).toArray Q 0 ((listed.push false).setIfInBounds l.length true) b' w → True := fun _ _ => trivial
    have hr : Region.ready .any (l ++ [p]).toArray ((listed.push false).setIfInBounds l.length true) = [] := by
      apply List.eq_nil_iff_forall_not_mem.2
      intro i hi
      obtain ⟨h1, q, hq, _⟩ := mem_ready.1 hi
      rcases hlt_of hq with e | e
      · subst e
        simp [hsz] at h1
      · have hne : l.length ≠ i := by omega
        rw [getD_set_ne true hne, getD_push_lt (by omega)] at h1
        have := hal i e
        have hil : i < listed.size := by omega
        simp [hil] at h1 this
        rw [h1] at this; cases this
    unfold wpOp
    rw [hlast]
    have hwn : Region.wanted p (yielded (l ++ [p]).toArray (putAll l (resV V l 0) a).tmps) = true := by
      unfold Region.wanted
      rw [hg]
    simp only [hwn, if_true]
    left
    have hstep := hend _ V w hal hJ
    unfold Oper.wp
    rcases hstep with ⟨v, w', hrun, hJ'⟩ | ⟨w', hrun, hJ'⟩ | ⟨f, args, w', hrun, hcall⟩
    · rw [hrun]; exact ⟨hr, hJ'⟩
    · rw [hrun]; exact ⟨hr, hJ'⟩
    · rw [hrun, Oper.upon_enter]
      refine hcall.mono ?_
      rintro e w'' ⟨v, rfl, hJ'⟩
      exact ⟨hr, hJ'⟩
  | succ fuel ih =>
    intro listed V b w hsz hc hf hcl hJ
    refine ⟨fun hr => (hall listed hsz hr).elim, fun i hi => ?_⟩
    obtain ⟨h1, p, hp, hpre'⟩ := mem_ready.1 hi
    have hio : i < l.length := by
      rcases hlt_of hp with e | e
      · exfalso
        subst e
        have hpo : p = o := Option.some.inj (hp.symm.trans hlast)
        subst hpo
        have : ∀ j, j < l.length → listed.getD j false = true := by
          intro j hj
          obtain ⟨e, he, hb, hej⟩ := hwait j hj
          have := hpre' e he hb
          rwa [hej, getD_push_lt (by omega)] at this
        have h0 : (List.range l.length).countP (fun i => !listed.getD i false) = 0 := by
          rw [List.countP_eq_zero]
          intro j hj
          simpa using this j (List.mem_range.1 hj)
        omega
      · exact e
    have ho : l.toArray[i]? = some p := by rw [← hold hio]; exact hp
    have hil : i < listed.size := by omega
    have h1' : listed.getD i false = false := by
      rw [getD_push_lt hil] at h1
      simp [hil] at h1 ⊢; exact h1
    have hpre : ∀ e ∈ p.after, Region.binds .any e = true → listed.getD e.on false = true := by
      intro e he hb
      have hlt := (commG_spec hB ho).wait e he hb
      have := hpre' e he hb
      rwa [getD_push_lt (by omega)] at this
    have hstep := stepV_at hs i p (by simpa using ho) _ V w (by simpa using h1') hpre hcl hJ
    rw [Nat.zero_add] at hstep
    have hsel := (commG_spec hB ho).sel
    have hex : execOp b.eval p = execOp (putAll l (resV V l 0) a).eval p := by
      have := execOp_congr p hsel (hf.eval hB ho hpre)
      simpa using this
    have hupd : (fun j => (listed.setIfInBounds i true).getD j false) = upd (fun j => listed.getD j false) i := by
      funext j
      by_cases hj : j = i
      · subst hj; simp [hil]
      · rw [upd_ne _ _ _ hj, getD_set_ne false (fun e => hj e.symm)]
    have hcnt : (List.range l.length).countP (fun j => !(listed.setIfInBounds i true).getD j false) = fuel := by
      have := countP_upd (List.range l.length) (List.nodup_range) i (List.mem_range.2 hio) (fun j => listed.getD j false) h1'
      rw [hc] at this
      have e : (fun j => !(listed.setIfInBounds i true).getD j false) = fun j => !upd (fun j => listed.getD j false) i j := by
        funext j; rw [← hupd]
      rw [e]; omega
    have hnext : ∀ v w', J (upd (fun j => listed.getD j false) i) (updV V i v) w' → wpAny P .any (l ++ [o]).toArray Q (fuel + 1) ((listed.push false).setIfInBounds i true) (b.put p.dst v) w' := by
      intro v w' hJ'
      rw [set_push hil]
      refine ih _ (updV V i v) _ _ (by simp [hsz]) hcnt ?_ ?_ ?_
      · rw [hupd]; exact hf.put hB v ho
      · rw [hupd]
        intro j q hj hl e he hb
        by_cases hji : j = i
        · subst hji
          have : q = p := Option.some.inj (hj.symm.trans (by simpa using ho))
          subst this
          unfold upd
          split
          · rfl
          · exact hpre e he hb
        · rw [upd_ne _ _ _ hji] at hl
          unfold upd
          split
          · rfl
          · exact hcl j q hj hl e he hb
      · rw [hupd]; exact hJ'
    have hwants : Region.wanted p (yielded (l ++ [o]).toArray b.tmps) = wants p V := by
      rw [← hf.wants hB ho hpre]
      unfold Region.wanted
      cases hgp : p.guard with
      | none => rfl
      | some jb =>
        obtain ⟨j, c⟩ := jb
        obtain ⟨⟨e, he, hb, hej⟩, _⟩ := (commG_spec hB ho).guard j c hgp
        have hlt := (commG_spec hB ho).wait e he hb
        have hjl : j < l.length := by omega
        have hy : yielded (l ++ [o]).toArray b.tmps j = yielded l.toArray b.tmps j := by
          unfold yielded
          rw [hold hjl]
        simp only [hy]
    unfold wpOp
    rw [hp]
    simp only [hwants]
    by_cases hw : wants p V = true
    · rw [if_pos hw] at hstep ⊢
      left
      unfold Oper.wp
      rw [hex]
      rcases hstep with ⟨v, w', hrun, hJ'⟩ | ⟨w', hrun, hJ'⟩ | ⟨f, args, w', hrun, hcall⟩
      · rw [hrun]; exact hnext _ _ hJ'
      · rw [hrun]; exact hnext _ _ hJ'
      · rw [hrun, Oper.upon_enter]
        refine hcall.mono ?_
        rintro e w'' ⟨v, rfl, hJ'⟩
        exact hnext _ _ hJ'
    · rw [if_neg hw] at hstep ⊢
      exact hnext _ _ hstep
/-- Whether the last of m waits for all others, unguarded. -/
def lastB (m : List Oper) : Bool :=
  match m.getLast? with
  | none => false
  | some o => o.guard.isNone && ((List.range m.dropLast.length).all fun i => o.after.any fun e => Region.binds .any e && e.on == i) && (o.after.all fun e => !Region.binds .any e || decide (e.on < m.dropLast.length))
/-- The region, its last operation apart: l and o are m's own parts. -/
theorem wp_region_VL {P : Program} {m : List Oper} {id : Nat} {Q : Exit → Act → World → Prop} {a : Act} {w : World} (J : (Nat → Bool) → (Nat → Value) → World → Prop) (hm : P.follows .mixedOrders = true) (hB : commG m.dropLast.toArray a.tmps.size = true) (hL : lastB m = true)
    (h0 : J (fun _ => false) (fun _ => undef) w.drew) (h : ∀ l o, l = m.dropLast → some o = m.getLast? → stepV P a J l l 0 ∧ ∀ L V w', (∀ i, i < l.length → L i = true) → J L V w' → does P (putAll l (resV V l 0) a) o w' (fun v w'' => Q .normal ((putAll l (resV V l 0) a).put o.dst v) w'')) : (Code.region id m.toArray true).wp P Q a w := by
  refine wp_region_any hm ?_
  unfold lastB at hL
  cases ho : m.getLast? with
  | none => rw [ho] at hL; cases hL
  | some o =>
    rw [ho] at hL
    simp only [Bool.and_eq_true] at hL
    obtain ⟨⟨hg, hw1⟩, hw2⟩ := hL
    obtain ⟨hs, hend⟩ := h m.dropLast o rfl ho.symm
    have hmm : m = m.dropLast ++ [o] := by
      have := List.getLast?_eq_some_iff.1 ho
      obtain ⟨ys, hy⟩ := this
      rw [hy]; simp
    generalize m.dropLast = l at *
    subst hmm
    have e1 : (l ++ [o]).toArray.size = l.length + 1 := by simp
    have e2 : Array.replicate (l.length + 1) false = (Array.replicate l.length false).push false := by
      apply Array.ext'
      simp [List.replicate_succ']
    rw [e1, e2]
    have e : (fun i => (Array.replicate l.length false).getD i false) = fun _ => false := by
      funext i
      by_cases h : i < l.length <;> simp [h]
    refine wpAny_VL hB (by simpa using hg) (fun i hi => ?_) (fun x hx hb => ?_) hs hend _ _ (fun _ => undef) _ _ (by simp) ?_ ?_ ?_ ?_
    · have := List.all_eq_true.1 hw1 i (List.mem_range.2 hi)
      obtain ⟨x, hx, hx'⟩ := Array.any_eq_true'.1 this
      simp only [Bool.and_eq_true, beq_iff_eq] at hx'
      exact ⟨x, hx, hx'.1, hx'.2⟩
    · have := Array.all_eq_true'.1 hw2 x hx
      simpa [hb] using this
    · have : (List.range l.length).countP (fun i => !(Array.replicate l.length false).getD i false) = (List.range l.length).length := by
        rw [List.countP_eq_length]
        intro i _
        by_cases h : i < l.length <;> simp [h]
      simpa using this
    · rw [e]
      exact ⟨rfl, rfl, fun _ _ _ _ _ h => (by cases h), fun _ _ => rfl⟩
    · rw [e]
      intro j p hj hl
      cases hl
    · rw [e]; exact h0
end Go.Proofs.YtoilokfpfmicaaaDoor
