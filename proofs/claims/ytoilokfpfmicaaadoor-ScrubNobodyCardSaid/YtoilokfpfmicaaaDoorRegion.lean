/- A statement whose order is open, walked once: where each operation does the same whatever has been done ahead of it (its operands are made by operations that it waits for; the world is a function of what has been done). No program in sight. -/
import Derived.Test.YtoilokfpfmicaaaDoorBase
import Derived.Still
set_option linter.unusedVariables false
set_option linter.unusedSimpArgs false
namespace Go.Proofs.YtoilokfpfmicaaaDoor
open Go.RowKit

def upd (L : Nat → Bool) (i : Nat) : Nat → Bool := fun j => if j = i then true else L j
@[simp] theorem upd_same (L : Nat → Bool) (i : Nat) : upd L i i = true := by simp [upd]
theorem upd_ne (L : Nat → Bool) (i j : Nat) (h : j ≠ i) : upd L i j = L j := by simp [upd, h]

/-- All results laid into the frame. -/
def putAll : List Oper → List Value → Act → Act
  | o :: os, v :: vs, a => putAll os vs (a.put o.dst v)
  | _, _, a => a

/-- What the statement's own edges say: no guard, no select; an operation waits for operations ahead of it alone; whoever makes an operand is waited for; no two lay into one slot. -/
def commB (ops : Array Oper) : Bool :=
  (List.range ops.size).all fun i =>
    match ops[i]? with
    | none => false
    | some o =>
      o.guard.isNone && (match o.op with | .select _ _ => false | _ => true) &&
      (o.after.all fun e => !Region.binds .any e || decide (e.on < i)) &&
      ((List.range ops.size).all fun j =>
        match ops[j]? with
        | none => false
        | some p =>
          (match p.dst with
           | none => true
           | some d => (!(o.op.operands.any fun x => match x with | .tmp t => t == d | _ => false) || (o.after.any fun e => Region.binds .any e && e.on == j)) &&
               (decide (i = j) || o.dst != some d)))

theorem commB_spec {ops : Array Oper} (h : commB ops = true) {i : Nat} {o : Oper} (hi : ops[i]? = some o) :
    o.guard = none ∧ (∀ cs b, o.op ≠ .select cs b) ∧ (∀ e ∈ o.after, Region.binds .any e = true → e.on < i) ∧
    ∀ (j : Nat) (p : Oper), ops[j]? = some p → ∀ d, p.dst = some d → ((∀ x ∈ o.op.operands, x = .tmp d → ∃ e ∈ o.after, Region.binds .any e = true ∧ e.on = j) ∧ (i ≠ j → o.dst ≠ some d)) := by
  have hlt := (Array.getElem?_eq_some_iff.1 hi).1
  unfold commB at h
  rw [List.all_eq_true] at h
  have h1 := h i (List.mem_range.2 hlt)
  simp only [hi, Bool.and_eq_true] at h1
  obtain ⟨⟨⟨ha, hb⟩, hc⟩, hd⟩ := h1
  refine ⟨by simpa using ha, ?_, ?_, ?_⟩
  · intro cs b e
    rw [e] at hb
    cases hb
  · intro e he hbd
    have := Array.all_eq_true'.1 hc e he
    simpa [hbd] using this
  · intro j p hj d hpd
    rw [List.all_eq_true] at hd
    have h2 := hd j (List.mem_range.2 (Array.getElem?_eq_some_iff.1 hj).1)
    simp only [hj, hpd, Bool.and_eq_true, Bool.or_eq_true, Bool.not_eq_true'] at h2
    obtain ⟨h3, h4⟩ := h2
    refine ⟨fun x hx e => ?_, fun hij => ?_⟩
    · rcases h3 with h3 | h3
      · exfalso
        have : (o.op.operands.any fun x => match x with | .tmp t => t == d | _ => false) = true := Array.any_eq_true'.2 ⟨x, hx, by rw [e]; simp⟩
        rw [this] at h3; cases h3
      · obtain ⟨e', he', hb'⟩ := Array.any_eq_true'.1 h3
        simp only [Bool.and_eq_true, beq_iff_eq] at hb'
        exact ⟨e', he', hb'.1, hb'.2⟩
    · rcases h4 with h4 | h4
      · exact absurd (by simpa using h4) hij
      · simpa using h4

def runsTo (P : Program) (aS : Act) (o : Oper) (w : World) (v : Value) (w' : World) : Prop :=
  (execOp aS.eval o).run P w = .ok (.value v) w' ∨ ((execOp aS.eval o).run P w = .ok .skip w' ∧ v = undef)

/-- What has been done is closed under waiting. -/
def Closed (l : List Oper) (L : Nat → Bool) : Prop := ∀ (j : Nat) (o : Oper), l[j]? = some o → L j = true → ∀ e ∈ o.after, Region.binds .any e = true → L e.on = true
theorem runs_val {P : Program} {aS : Act} {o : Oper} {w w' : World} {v : Value} (h : (execOp aS.eval o).run P w = .ok (.value v) w') : runsTo P aS o w v w' := .inl h
theorem runs_skip {P : Program} {aS : Act} {o : Oper} {w w' : World} (h : (execOp aS.eval o).run P w = .ok .skip w') : runsTo P aS o w undef w' := .inr ⟨h, rfl⟩

def stepAll (P : Program) (aS : Act) (J : (Nat → Bool) → World → Prop) (l : List Oper) : List Oper → List Value → Nat → Prop
  | o :: os, v :: vs, k => (∀ L w, L k = false → (∀ e ∈ o.after, Region.binds .any e = true → L e.on = true) → Closed l L → J L w → ∃ w', runsTo P aS o w v w' ∧ J (upd L k) w') ∧ stepAll P aS J l os vs (k + 1)
  | [], [], _ => True
  | _, _, _ => False

theorem stepAll_at {P : Program} {aS : Act} {J : (Nat → Bool) → World → Prop} {l : List Oper} : ∀ {os : List Oper} {vs : List Value} {k : Nat}, stepAll P aS J l os vs k → ∀ i o, os[i]? = some o →
    ∃ v, vs[i]? = some v ∧ ∀ L w, L (k + i) = false → (∀ e ∈ o.after, Region.binds .any e = true → L e.on = true) → Closed l L → J L w → ∃ w', runsTo P aS o w v w' ∧ J (upd L (k + i)) w'
  | [], [], k, h, i, o, hi => by simp at hi
  | [], _ :: _, k, h, i, o, hi => h.elim
  | _ :: _, [], k, h, i, o, hi => h.elim
  | o' :: os, v' :: vs, k, h, 0, o, hi => by
    simp at hi; subst hi
    exact ⟨v', rfl, h.1⟩
  | o' :: os, v' :: vs, k, h, i + 1, o, hi => by
    obtain ⟨v, hv, hs⟩ := stepAll_at h.2 i o (by simpa using hi)
    refine ⟨v, by simpa using hv, ?_⟩
    rw [show k + (i + 1) = k + 1 + i from by omega]
    exact hs
theorem stepAll_len {P : Program} {aS : Act} {J : (Nat → Bool) → World → Prop} {l : List Oper} : ∀ {os : List Oper} {vs : List Value} {k : Nat}, stepAll P aS J l os vs k → os.length = vs.length
  | [], [], _, _ => rfl
  | [], _ :: _, _, h => h.elim
  | _ :: _, [], _, h => h.elim
  | _ :: _, _ :: _, _, h => by simp [stepAll_len h.2]

theorem putAll_defers : ∀ (os : List Oper) (vs : List Value) (a : Act), (putAll os vs a).defers = a.defers
  | [], _, _ => by simp [putAll]
  | _ :: _, [], _ => by simp [putAll]
  | o :: os, v :: vs, a => by
    rw [putAll, putAll_defers os vs]
    cases o.dst <;> rfl
theorem putAll_size : ∀ (os : List Oper) (vs : List Value) (a : Act), (putAll os vs a).tmps.size = a.tmps.size
  | [], _, _ => by simp [putAll]
  | _ :: _, [], _ => by simp [putAll]
  | o :: os, v :: vs, a => by
    rw [putAll, putAll_size os vs]
    cases h : o.dst <;> simp [Act.put]
/-- A slot that none of them writes. -/
theorem putAll_other : ∀ (os : List Oper) (vs : List Value) (a : Act) (d : Nat), (∀ o ∈ os, o.dst ≠ some d) → (putAll os vs a).tmps[d]? = a.tmps[d]?
  | [], _, _, _, _ => by simp [putAll]
  | _ :: _, [], _, _, _ => by simp [putAll]
  | o :: os, v :: vs, a, d, h => by
    rw [putAll, putAll_other os vs _ d (fun p hp => h p (.tail _ hp))]
    have := h o (.head _)
    cases e : o.dst with
    | none => rfl
    | some t =>
      have hne : t ≠ d := fun q => this (by rw [e, q])
      simp [Act.put, Array.getElem?_setIfInBounds_ne hne]
/-- A slot that one of them writes. -/
theorem putAll_at : ∀ (os : List Oper) (vs : List Value) (a : Act) (i : Nat) (o : Oper) (v : Value) (d : Nat), os[i]? = some o → vs[i]? = some v → o.dst = some d → (∀ j p, os[j]? = some p → j ≠ i → p.dst ≠ some d) → (putAll os vs a).tmps[d]? = if d < a.tmps.size then some v else none
  | [], _, _, i, o, v, d, hi, _, _, _ => by simp at hi
  | _ :: _, [], _, i, o, v, d, _, hv, _, _ => by simp at hv
  | o' :: os, v' :: vs, a, 0, o, v, d, hi, hv, hd, hx => by
    simp at hi hv
    subst hi; subst hv
    rw [putAll, putAll_other os vs _ d (fun p hp => by
      obtain ⟨j, hj⟩ := List.mem_iff_getElem?.1 hp
      exact hx (j + 1) p (by simpa using hj) (by omega))]
    simp [Act.put, hd, Array.getElem?_setIfInBounds]
  | o' :: os, v' :: vs, a, i + 1, o, v, d, hi, hv, hd, hx => by
    rw [putAll, putAll_at os vs _ i o v d (by simpa using hi) (by simpa using hv) hd (fun j p hj hne => hx (j + 1) p (by simpa using hj) (by omega))]
    have : (a.put o'.dst v').tmps.size = a.tmps.size := by cases o'.dst <;> simp [Act.put]
    rw [this]

/-- The frame when just the operations of L have been done. -/
structure FrameAt (ops : Array Oper) (vs : List Value) (a : Act) (L : Nat → Bool) (b : Act) : Prop where
  defers : b.defers = a.defers
  size : b.tmps.size = a.tmps.size
  done : ∀ (i : Nat) (o : Oper) (v : Value) (d : Nat), ops[i]? = some o → vs[i]? = some v → o.dst = some d → L i = true → b.tmps[d]? = if d < a.tmps.size then some v else none
  rest : ∀ d, (∀ (i : Nat) (o : Oper), ops[i]? = some o → o.dst = some d → L i = false) → b.tmps[d]? = a.tmps[d]?

theorem FrameAt.put {ops : Array Oper} {vs : List Value} {a b : Act} {L : Nat → Bool} (hB : commB ops = true) (h : FrameAt ops vs a L b) {i : Nat} {o : Oper} {v : Value} (hi : ops[i]? = some o) (hv : vs[i]? = some v) :
    FrameAt ops vs a (upd L i) (b.put o.dst v) := by
  refine ⟨?_, ?_, ?_, ?_⟩
  · rw [← h.defers]; cases o.dst <;> rfl
  · rw [← h.size]; cases o.dst <;> simp [Act.put]
  · intro j p u d hj hu hd hl
    by_cases hij : j = i
    · subst hij
      have : p = o := Option.some.inj (hj.symm.trans hi)
      subst this
      have : u = v := Option.some.inj (hu.symm.trans hv)
      subst this
      simp [Act.put, hd, Array.getElem?_setIfInBounds, h.size]
    · rw [upd_ne _ _ _ hij] at hl
      have hne := ((commB_spec hB hi).2.2.2 j p hj d hd).2 (fun e => hij e.symm)
      rw [← h.done j p u d hj hu hd hl]
      cases e : o.dst with
      | none => rfl
      | some t =>
        have hne : t ≠ d := fun q => hne (by rw [e, q])
        simp [Act.put, Array.getElem?_setIfInBounds_ne hne]
  · intro d hd
    have h1 : o.dst ≠ some d := fun e => by have := hd i o hi e; simp at this
    have h2 : ∀ (j : Nat) (p : Oper), ops[j]? = some p → p.dst = some d → L j = false := by
      intro j p hj hp
      have := hd j p hj hp
      by_cases hij : j = i
      · subst hij; simp at this
      · rwa [upd_ne _ _ _ hij] at this
    rw [← h.rest d h2]
    cases e : o.dst with
    | none => rfl
    | some t =>
      have hne : t ≠ d := fun q => h1 (by rw [e, q])
      simp [Act.put, Array.getElem?_setIfInBounds_ne hne]

theorem FrameAt.eval {ops : Array Oper} {vs : List Value} {a b : Act} {L : Nat → Bool} (hB : commB ops = true) (hlen : ops.size = vs.length) (h : FrameAt ops vs a L b) {i : Nat} {o : Oper} (hi : ops[i]? = some o)
    (hp : ∀ e ∈ o.after, Region.binds .any e = true → L e.on = true) : ∀ x ∈ o.op.operands, b.eval x = (putAll ops.toList vs a).eval x := by
  intro x hx
  cases x with
  | tmp t =>
    show b.tmps.getD t undef = (putAll ops.toList vs a).tmps.getD t undef
    have key : b.tmps[t]? = (putAll ops.toList vs a).tmps[t]? := by
      by_cases hw : ∃ (j : Nat) (p : Oper), ops[j]? = some p ∧ p.dst = some t
      · obtain ⟨j, p, hj, hpd⟩ := hw
        obtain ⟨e, he, hb, hon⟩ := ((commB_spec hB hi).2.2.2 j p hj t hpd).1 _ hx rfl
        have hL : L j = true := hon ▸ hp e he hb
        have hjl : j < vs.length := by rw [← hlen]; exact (Array.getElem?_eq_some_iff.1 hj).1
        have hvj : vs[j]? = some vs[j] := List.getElem?_eq_getElem hjl
        rw [h.done j p _ t hj hvj hpd hL, putAll_at ops.toList vs a j p _ t (by simpa using hj) hvj hpd]
        intro k q hk hkj
        exact ((commB_spec hB (by simpa using hk)).2.2.2 j p hj t hpd).2 hkj
      · have hno : ∀ o ∈ ops.toList, o.dst ≠ some t := by
          intro p hp' e
          obtain ⟨j, hj⟩ := List.mem_iff_getElem?.1 hp'
          exact hw ⟨j, p, by simpa using hj, e⟩
        rw [putAll_other _ _ _ _ hno, h.rest t (fun j p hj e => absurd ⟨j, p, hj, e⟩ hw)]
    simp only [Array.getD_eq_getD_getElem?, key]
  | const v => rfl
  | global g => rfl
  | func f => rfl

theorem FrameAt.all {ops : Array Oper} {vs : List Value} {a b : Act} {L : Nat → Bool} (hB : commB ops = true) (hlen : ops.size = vs.length) (h : FrameAt ops vs a L b) (hL : ∀ i, i < ops.size → L i = true) : b = putAll ops.toList vs a := by
  have hd : b.defers = (putAll ops.toList vs a).defers := by rw [h.defers, putAll_defers]
  have ht : b.tmps = (putAll ops.toList vs a).tmps := by
    apply Array.ext_getElem?
    intro t
    by_cases hw : ∃ (j : Nat) (p : Oper), ops[j]? = some p ∧ p.dst = some t
    · obtain ⟨j, p, hj, hpd⟩ := hw
      have hjs := (Array.getElem?_eq_some_iff.1 hj).1
      have hvj : vs[j]? = some vs[j] := List.getElem?_eq_getElem (by rw [← hlen]; exact hjs)
      rw [h.done j p _ t hj hvj hpd (hL j hjs), putAll_at ops.toList vs a j p _ t (by simpa using hj) hvj hpd]
      intro k q hk hkj
      exact ((commB_spec hB (by simpa using hk)).2.2.2 j p hj t hpd).2 hkj
    · have hno : ∀ o ∈ ops.toList, o.dst ≠ some t := by
        intro p hp' e
        obtain ⟨j, hj⟩ := List.mem_iff_getElem?.1 hp'
        exact hw ⟨j, p, by simpa using hj, e⟩
      rw [putAll_other _ _ _ _ hno, h.rest t (fun j p hj e => absurd ⟨j, p, hj, e⟩ hw)]
  cases b
  generalize hq : putAll ops.toList vs a = q at *
  cases q
  simp at hd ht
  rw [hd, ht]

theorem countP_upd : ∀ (l : List Nat), l.Nodup → ∀ i ∈ l, ∀ (L : Nat → Bool), L i = false → l.countP (fun j => !L j) = l.countP (fun j => !upd L i j) + 1
  | [], _, i, hi, _, _ => by cases hi
  | a :: l, hn, i, hi, L, hL => by
    rw [List.nodup_cons] at hn
    rw [List.countP_cons, List.countP_cons]
    by_cases ha : a = i
    · subst ha
      have : l.countP (fun j => !upd L a j) = l.countP (fun j => !L j) := by
        apply List.countP_congr
        intro j hj
        have : j ≠ a := fun e => hn.1 (e ▸ hj)
        simp [upd_ne _ _ _ this]
      simp [hL, this]
    · have hi' : i ∈ l := by
        rcases List.mem_cons.1 hi with rfl | h
        · exact absurd rfl ha
        · exact h
      rw [countP_upd l hn.2 i hi' L hL, upd_ne _ _ _ ha]
      omega

theorem wpAny_comm {P : Program} {ops : Array Oper} {Q : Exit → Act → World → Prop} {vs : List Value} {a : Act} {J : (Nat → Bool) → World → Prop} (hB : commB ops = true)
    (hs : stepAll P (putAll ops.toList vs a) J ops.toList ops.toList vs 0) (hend : ∀ L w', (∀ i, i < ops.size → L i = true) → J L w' → Q .normal (putAll ops.toList vs a) w') :
    ∀ (fuel : Nat) (listed : Array Bool) (b : Act) (w : World), listed.size = ops.size → (List.range ops.size).countP (fun i => !listed.getD i false) = fuel → FrameAt ops vs a (fun i => listed.getD i false) b → Closed ops.toList (fun i => listed.getD i false) → J (fun i => listed.getD i false) w →
    wpAny P .any ops Q fuel listed b w := by
  have hlen : ops.size = vs.length := by simpa using stepAll_len hs
  have hfin : ∀ (listed : Array Bool) (b : Act) (w : World), listed.size = ops.size → FrameAt ops vs a (fun i => listed.getD i false) b → J (fun i => listed.getD i false) w → Region.ready .any ops listed = [] → Q .normal b w := by
    intro listed b w hsz hf hJ hr
    have hall : ∀ n i, i ≤ n → i < ops.size → listed.getD i false = true := by
      intro n
      induction n with
      | zero =>
        intro i hi hio
        cases hx : listed.getD i false with
        | true => rfl
        | false =>
          exfalso
          have : i ∈ Region.ready .any ops listed := by
            rw [mem_ready]
            refine ⟨?_, ops[i], by simp [hio], fun e he hb => ?_⟩
            · have : i < listed.size := by omega
              simp [this] at hx ⊢; exact hx
            · have := (commB_spec hB (i := i) (o := ops[i]) (by simp [hio])).2.2.1 e he hb
              omega
          rw [hr] at this; cases this
      | succ n ih =>
        intro i hi hio
        cases hx : listed.getD i false with
        | true => rfl
        | false =>
          exfalso
          have : i ∈ Region.ready .any ops listed := by
            rw [mem_ready]
            refine ⟨?_, ops[i], by simp [hio], fun e he hb => ?_⟩
            · have : i < listed.size := by omega
              simp [this] at hx ⊢; exact hx
            · have := (commB_spec hB (i := i) (o := ops[i]) (by simp [hio])).2.2.1 e he hb
              exact ih e.on (by omega) (by omega)
          rw [hr] at this; cases this
    have := hf.all hB hlen (fun i hi => hall i i (Nat.le_refl _) hi)
    rw [this]
    exact hend _ _ (fun i hi => hall i i (Nat.le_refl _) hi) hJ
  intro fuel
  induction fuel with
  | zero =>
    intro listed b w hsz hc hf hcl hJ
    have hr : Region.ready .any ops listed = [] := by
      apply List.eq_nil_iff_forall_not_mem.2
      intro i hi
      obtain ⟨h1, o, ho, _⟩ := mem_ready.1 hi
      have hio := (Array.getElem?_eq_some_iff.1 ho).1
      rw [List.countP_eq_zero] at hc
      have := hc i (List.mem_range.2 hio)
      have hil : i < listed.size := by omega
      simp [hil] at h1 this
      rw [h1] at this; cases this
    exact ⟨hr, hfin listed b w hsz hf hJ hr⟩
  | succ fuel ih =>
    intro listed b w hsz hc hf hcl hJ
    refine ⟨fun hr => hfin listed b w hsz hf hJ hr, fun i hi => ?_⟩
    obtain ⟨h1, o, ho, hpre⟩ := mem_ready.1 hi
    have hio := (Array.getElem?_eq_some_iff.1 ho).1
    have hil : i < listed.size := by omega
    have h1' : listed.getD i false = false := by simp [hil] at h1 ⊢; exact h1
    obtain ⟨v, hv, hstep⟩ := stepAll_at hs i o (by simpa using ho)
    rw [Nat.zero_add] at hstep
    obtain ⟨w', hrun, hJ'⟩ := hstep _ _ h1' hpre hcl hJ
    obtain ⟨hg, hsel, _⟩ := commB_spec hB ho
    have hex : execOp b.eval o = execOp (putAll ops.toList vs a).eval o := execOp_congr o hsel (hf.eval hB hlen ho hpre)
    have hupd : (fun j => (listed.setIfInBounds i true).getD j false) = upd (fun j => listed.getD j false) i := by
      funext j
      by_cases hj : j = i
      · subst hj; simp [hil]
      · rw [upd_ne _ _ _ hj, getD_set_ne false (fun e => hj e.symm)]
    have hcnt : (List.range ops.size).countP (fun j => !(listed.setIfInBounds i true).getD j false) = fuel := by
      have := countP_upd (List.range ops.size) (List.nodup_range) i (List.mem_range.2 hio) (fun j => listed.getD j false) h1'
      rw [hc] at this
      have e : (fun j => !(listed.setIfInBounds i true).getD j false) = fun j => !upd (fun j => listed.getD j false) i j := by
        funext j; rw [← hupd]
      rw [e]; omega
    have hnext : wpAny P .any ops Q fuel (listed.setIfInBounds i true) (b.put o.dst v) w' := by
      refine ih _ _ _ (by simp [hsz]) hcnt ?_ ?_ ?_
      · rw [hupd]; exact hf.put hB ho hv
      · rw [hupd]
        intro j p hj hl e he hb
        by_cases hji : j = i
        · subst hji
          have : p = o := Option.some.inj (hj.symm.trans (by simpa using ho))
          subst this
          unfold upd
          split
          · rfl
          · exact hpre e he hb
        · rw [upd_ne _ _ _ hji] at hl
          unfold upd
          split
          · rfl
          · exact hcl j p hj hl e he hb
      · rw [hupd]; exact hJ'
    unfold wpOp
    rw [ho]
    simp only [Region.wanted, hg, if_true]
    left
    unfold Oper.wp
    rw [hex]
    rcases hrun with hrun | ⟨hrun, rfl⟩
    · rw [hrun]; exact hnext
    · rw [hrun]; exact hnext

theorem wp_region_comm {P : Program} {ops : Array Oper} {id : Nat} {Q : Exit → Act → World → Prop} {a : Act} {w : World} (vs : List Value) (J : (Nat → Bool) → World → Prop) (hm : P.follows .mixedOrders = true) (hB : commB ops = true)
    (h0 : J (fun _ => false) w.drew) (hs : stepAll P (putAll ops.toList vs a) J ops.toList ops.toList vs 0) (hend : ∀ L w', (∀ i, i < ops.size → L i = true) → J L w' → Q .normal (putAll ops.toList vs a) w') : (Code.region id ops true).wp P Q a w := by
  refine wp_region_any hm ?_
  have e : (fun i => (Array.replicate ops.size false).getD i false) = fun _ => false := by
    funext i
    by_cases h : i < ops.size <;> simp [h]
  refine wpAny_comm hB hs hend _ _ _ _ (by simp) ?_ ?_ ?_ ?_
  · have : (List.range ops.size).countP (fun i => !(Array.replicate ops.size false).getD i false) = (List.range ops.size).length := by
      rw [List.countP_eq_length]
      intro i _
      by_cases h : i < ops.size <;> simp [h]
    simpa using this
  · rw [e]
    exact ⟨rfl, rfl, fun _ _ _ _ _ _ _ h => (by cases h), fun _ _ => rfl⟩
  · rw [e]
    intro j p hj hl
    cases hl
  · rw [e]; exact h0
/-- The same, the frame behind the statement under a name of its own. -/
theorem wp_region_by {P : Program} {l : List Oper} {id : Nat} {Q : Exit → Act → World → Prop} {a : Act} {w : World} (vs : List Value) (J : (Nat → Bool) → World → Prop) (hm : P.follows .mixedOrders = true) (hB : commB l.toArray = true)
    (h0 : J (fun _ => false) w.drew) (h : ∀ aS, aS = putAll l vs a → stepAll P aS J l l vs 0 ∧ ∀ L w', (∀ i, i < l.length → L i = true) → J L w' → Q .normal aS w') : (Code.region id l.toArray true).wp P Q a w := by
  obtain ⟨h1, h2⟩ := h _ rfl
  exact wp_region_comm vs J hm hB h0 (by simpa using h1) (fun L w' hL hJ => by simpa using h2 L w' (by simpa using hL) hJ)
end Go.Proofs.YtoilokfpfmicaaaDoor
