/- A statement whose order is open: a word of one's own on what has been done, what it handed back and the world; calls and guards too. No program in sight. -/
import Derived.Test.YtoilokfpfmicaaaDoorRegion
set_option linter.unusedVariables false
set_option linter.unusedSimpArgs false
namespace Go.Proofs.YtoilokfpfmicaaaDoor
open Go.RowKit

def updV (V : Nat → Value) (i : Nat) (v : Value) : Nat → Value := fun j => if j = i then v else V j
@[simp] theorem updV_same (V : Nat → Value) (i : Nat) (v : Value) : updV V i v i = v := by simp [updV]
theorem updV_ne (V : Nat → Value) (i j : Nat) (v : Value) (h : j ≠ i) : updV V i v j = V j := by simp [updV, h]
/-- The results of l, from place k on. -/
def resV (V : Nat → Value) : List Oper → Nat → List Value
  | [], _ => []
  | _ :: l, k => V k :: resV V l (k + 1)
theorem resV_at (V : Nat → Value) : ∀ (l : List Oper) (k i : Nat), i < l.length → (resV V l k)[i]? = some (V (k + i))
  | [], _, _, h => by simp at h
  | _ :: l, k, 0, _ => rfl
  | _ :: l, k, i + 1, h => by
    simp only [resV, List.getElem?_cons_succ]
    rw [resV_at V l (k + 1) i (by simpa using h), Nat.add_assoc, Nat.add_comm 1 i]
theorem resV_len (V : Nat → Value) : ∀ (l : List Oper) (k : Nat), (resV V l k).length = l.length
  | [], _ => rfl
  | _ :: l, k => by simp [resV, resV_len V l]

/-- As 'commB', guards too: what is asked of a guard is waited for, and lies in the frame. -/
def commG (ops : Array Oper) (n : Nat) : Bool :=
  (List.range ops.size).all fun i =>
    match ops[i]? with
    | none => false
    | some o =>
      (match o.guard with
       | none => true
       | some (j, _) => (o.after.any fun e => Region.binds .any e && e.on == j) && (match ops[j]? with | some p => p.dst.isSome | none => false)) &&
      (match o.op with | .select _ _ => false | _ => true) &&
      (match o.dst with | some d => decide (d < n) | none => true) &&
      (o.after.all fun e => !Region.binds .any e || decide (e.on < i)) &&
      ((List.range ops.size).all fun j =>
        match ops[j]? with
        | none => false
        | some p =>
          (match p.dst with
           | none => true
           | some d => (!(o.op.operands.any fun x => match x with | .tmp t => t == d | _ => false) || (o.after.any fun e => Region.binds .any e && e.on == j)) &&
               (decide (i = j) || o.dst != some d)))
structure CommG (ops : Array Oper) (n i : Nat) (o : Oper) : Prop where
  guard : ∀ j b, o.guard = some (j, b) → (∃ e ∈ o.after, Region.binds .any e = true ∧ e.on = j) ∧ ∃ p d, ops[j]? = some p ∧ p.dst = some d
  sel : ∀ cs b, o.op ≠ .select cs b
  dst : ∀ d, o.dst = some d → d < n
  wait : ∀ e ∈ o.after, Region.binds .any e = true → e.on < i
  look : ∀ (j : Nat) (p : Oper), ops[j]? = some p → ∀ d, p.dst = some d → ((∀ x ∈ o.op.operands, x = .tmp d → ∃ e ∈ o.after, Region.binds .any e = true ∧ e.on = j) ∧ (i ≠ j → o.dst ≠ some d))
theorem commG_spec {ops : Array Oper} {n : Nat} (h : commG ops n = true) {i : Nat} {o : Oper} (hi : ops[i]? = some o) : CommG ops n i o := by
  have hlt := (Array.getElem?_eq_some_iff.1 hi).1
  unfold commG at h
  rw [List.all_eq_true] at h
  have h1 := h i (List.mem_range.2 hlt)
  simp only [hi, Bool.and_eq_true] at h1
  obtain ⟨⟨⟨⟨ha, hb⟩, hz⟩, hc⟩, hd⟩ := h1
  refine ⟨?_, ?_, ?_, ?_, ?_⟩
  · intro j b e
    rw [e] at ha
    simp only [Bool.and_eq_true] at ha
    obtain ⟨h1, h2⟩ := ha
    obtain ⟨e', he', hb'⟩ := Array.any_eq_true'.1 h1
    simp only [Bool.and_eq_true, beq_iff_eq] at hb'
    refine ⟨⟨e', he', hb'.1, hb'.2⟩, ?_⟩
    cases hp : ops[j]? with
    | none => rw [hp] at h2; cases h2
    | some p =>
      rw [hp] at h2
      obtain ⟨d, hd⟩ := Option.isSome_iff_exists.1 h2
      exact ⟨p, d, rfl, hd⟩
  · intro cs b e
    rw [e] at hb
    cases hb
  · intro d e
    rw [e] at hz
    simpa using hz
  · intro e he hbd
    have := Array.all_eq_true'.1 hc e he
    simpa [hbd] using this
  · intro j p hj d hpd
    rw [List.all_eq_true] at hd
    have h2 := hd j (List.mem_range.2 (Array.getElem?_eq_some_iff.1 hj).1)
    simp only [hj, hpd, Bool.and_eq_true, Bool.or_eq_true, Bool.not_eq_true'] at h2
    obtain ⟨h3, h4⟩ := h2
    refine ⟨fun x hx e => ?_, fun hij => ?_⟩
    · rcases h3 with h3 | h3
      · exfalso
        have : (o.op.operands.any fun x => match x with | .tmp t => t == d | _ => false) = true := Array.any_eq_true'.2 ⟨x, hx, by rw [e]; simp⟩
        rw [this] at h3; cases h3
      · obtain ⟨e', he', hb'⟩ := Array.any_eq_true'.1 h3
        simp only [Bool.and_eq_true, beq_iff_eq] at hb'
        exact ⟨e', he', hb'.1, hb'.2⟩
    · rcases h4 with h4 | h4
      · exact absurd (by simpa using h4) hij
      · simpa using h4

/-- The frame when just the operations of L have been done. -/
structure FrameV (ops : Array Oper) (V : Nat → Value) (a : Act) (L : Nat → Bool) (b : Act) : Prop where
  defers : b.defers = a.defers
  size : b.tmps.size = a.tmps.size
  done : ∀ (i : Nat) (o : Oper) (d : Nat), ops[i]? = some o → o.dst = some d → L i = true → b.tmps[d]? = if d < a.tmps.size then some (V i) else none
  rest : ∀ d, (∀ (i : Nat) (o : Oper), ops[i]? = some o → o.dst = some d → L i = false) → b.tmps[d]? = a.tmps[d]?

theorem FrameV.put {ops : Array Oper} {V : Nat → Value} {a b : Act} {L : Nat → Bool} {n : Nat} (hB : commG ops n = true) (h : FrameV ops V a L b) {i : Nat} {o : Oper} (v : Value) (hi : ops[i]? = some o) :
    FrameV ops (updV V i v) a (upd L i) (b.put o.dst v) := by
  refine ⟨?_, ?_, ?_, ?_⟩
  · rw [← h.defers]; cases o.dst <;> rfl
  · rw [← h.size]; cases o.dst <;> simp [Act.put]
  · intro j p d hj hd hl
    by_cases hij : j = i
    · subst hij
      have : p = o := Option.some.inj (hj.symm.trans hi)
      subst this
      simp [Act.put, hd, Array.getElem?_setIfInBounds, h.size]
    · rw [upd_ne _ _ _ hij] at hl
      have hne := ((commG_spec hB hi).look j p hj d hd).2 (fun e => hij e.symm)
      rw [updV_ne _ _ _ _ hij, ← h.done j p d hj hd hl]
      cases e : o.dst with
      | none => rfl
      | some t =>
        have hne : t ≠ d := fun q => hne (by rw [e, q])
        simp [Act.put, Array.getElem?_setIfInBounds_ne hne]
  · intro d hd
    have h1 : o.dst ≠ some d := fun e => by have := hd i o hi e; simp at this
    have h2 : ∀ (j : Nat) (p : Oper), ops[j]? = some p → p.dst = some d → L j = false := by
      intro j p hj hp
      have := hd j p hj hp
      by_cases hij : j = i
      · subst hij; simp at this
      · rwa [upd_ne _ _ _ hij] at this
    rw [← h.rest d h2]
    cases e : o.dst with
    | none => rfl
    | some t =>
      have hne : t ≠ d := fun q => h1 (by rw [e, q])
      simp [Act.put, Array.getElem?_setIfInBounds_ne hne]

theorem FrameV.at {ops : Array Oper} {V : Nat → Value} {a b : Act} {L : Nat → Bool} {n : Nat} (hB : commG ops n = true) (h : FrameV ops V a L b) {t : Nat}
    (hw : ∀ (j : Nat) (p : Oper), ops[j]? = some p → p.dst = some t → L j = true) : b.tmps[t]? = (putAll ops.toList (resV V ops.toList 0) a).tmps[t]? := by
  by_cases he : ∃ (j : Nat) (p : Oper), ops[j]? = some p ∧ p.dst = some t
  · obtain ⟨j, p, hj, hpd⟩ := he
    have hjl := (Array.getElem?_eq_some_iff.1 hj).1
    have hvj : (resV V ops.toList 0)[j]? = some (V j) := by rw [resV_at V _ 0 j (by simpa using hjl), Nat.zero_add]
    rw [h.done j p t hj hpd (hw j p hj hpd), putAll_at ops.toList _ a j p _ t (by simpa using hj) hvj hpd]
    intro k q hk hkj
    exact ((commG_spec hB (by simpa using hk)).look j p hj t hpd).2 hkj
  · have hno : ∀ o ∈ ops.toList, o.dst ≠ some t := by
      intro p hp' e
      obtain ⟨j, hj⟩ := List.mem_iff_getElem?.1 hp'
      exact he ⟨j, p, by simpa using hj, e⟩
    rw [putAll_other _ _ _ _ hno, h.rest t (fun j p hj e => absurd ⟨j, p, hj, e⟩ he)]
theorem FrameV.eval {ops : Array Oper} {V : Nat → Value} {a b : Act} {L : Nat → Bool} {n : Nat} (hB : commG ops n = true) (h : FrameV ops V a L b) {i : Nat} {o : Oper} (hi : ops[i]? = some o)
    (hp : ∀ e ∈ o.after, Region.binds .any e = true → L e.on = true) : ∀ x ∈ o.op.operands, b.eval x = (putAll ops.toList (resV V ops.toList 0) a).eval x := by
  intro x hx
  cases x with
  | tmp t =>
    show b.tmps.getD t undef = (putAll ops.toList _ a).tmps.getD t undef
    have key := h.at hB (t := t) (fun j p hj hpd => by
      obtain ⟨e, he, hb, hon⟩ := ((commG_spec hB hi).look j p hj t hpd).1 _ hx rfl
      exact hon ▸ hp e he hb)
    simp only [Array.getD_eq_getD_getElem?, key]
  | const v => rfl
  | global g => rfl
  | func f => rfl
theorem FrameV.all {ops : Array Oper} {V : Nat → Value} {a b : Act} {L : Nat → Bool} {n : Nat} (hB : commG ops n = true) (h : FrameV ops V a L b) (hL : ∀ i, i < ops.size → L i = true) : b = putAll ops.toList (resV V ops.toList 0) a := by
  have hd : b.defers = (putAll ops.toList (resV V ops.toList 0) a).defers := by rw [h.defers, putAll_defers]
  have ht : b.tmps = (putAll ops.toList (resV V ops.toList 0) a).tmps := by
    apply Array.ext_getElem?
    intro t
    exact h.at hB (fun j p hj _ => hL j (Array.getElem?_eq_some_iff.1 hj).1)
  cases b
  generalize hq : putAll ops.toList (resV V ops.toList 0) a = q at *
  cases q
  simp at hd ht
  rw [hd, ht]

/-- Whether an operation is done at all. -/
def wants (o : Oper) (V : Nat → Value) : Bool :=
  match o.guard with
  | none => true
  | some (j, b) => match V j with | .bool c => c == b | _ => false
theorem FrameV.wants {ops : Array Oper} {V : Nat → Value} {a b : Act} {L : Nat → Bool} (hB : commG ops a.tmps.size = true) (h : FrameV ops V a L b) {i : Nat} {o : Oper} (hi : ops[i]? = some o)
    (hp : ∀ e ∈ o.after, Region.binds .any e = true → L e.on = true) : Region.wanted o (yielded ops b.tmps) = wants o V := by
  unfold Region.wanted Proofs.YtoilokfpfmicaaaDoor.wants
  cases hg : o.guard with
  | none => rfl
  | some jb =>
    obtain ⟨j, c⟩ := jb
    obtain ⟨⟨e, he, hb, hon⟩, p, d, hj, hd⟩ := (commG_spec hB hi).guard j c hg
    have hL : L j = true := hon ▸ hp e he hb
    have hds := (commG_spec hB hj).dst d hd
    have := h.done j p d hj hd hL
    rw [if_pos hds] at this
    simp only [yielded, hj, Option.bind_some, hd, this]
    cases V j <;> simp

/-- One operation: what it hands back, and the world behind it. -/
def does (P : Program) (aS : Act) (o : Oper) (w : World) (K : Value → World → Prop) : Prop :=
  (∃ v w', (execOp aS.eval o).run P w = .ok (.value v) w' ∧ K v w') ∨ (∃ w', (execOp aS.eval o).run P w = .ok .skip w' ∧ K undef w') ∨
  (∃ f args w', (execOp aS.eval o).run P w = .ok (.enter f args) w' ∧ Calls P f args w' fun e w'' => ∃ v, e = .returned v ∧ K v w'')
theorem does_val {P : Program} {aS : Act} {o : Oper} {w w' : World} {v : Value} {K : Value → World → Prop} (h : (execOp aS.eval o).run P w = .ok (.value v) w') (k : K v w') : does P aS o w K := .inl ⟨v, w', h, k⟩
theorem does_skip {P : Program} {aS : Act} {o : Oper} {w w' : World} {K : Value → World → Prop} (h : (execOp aS.eval o).run P w = .ok .skip w') (k : K undef w') : does P aS o w K := .inr (.inl ⟨w', h, k⟩)
theorem does_call {P : Program} {aS : Act} {o : Oper} {w w' : World} {f : FuncId} {args : Array Value} {K : Value → World → Prop} (h : (execOp aS.eval o).run P w = .ok (.enter f args) w')
    (k : Calls P f args w' fun e w'' => ∃ v, e = .returned v ∧ K v w'') : does P aS o w K := .inr (.inr ⟨f, args, w', h, k⟩)

def stepV (P : Program) (a : Act) (J : (Nat → Bool) → (Nat → Value) → World → Prop) (l : List Oper) : List Oper → Nat → Prop
  | o :: os, k => (∀ L V w, L k = false → (∀ e ∈ o.after, Region.binds .any e = true → L e.on = true) → Closed l L → J L V w →
      (if wants o V = true then does P (putAll l (resV V l 0) a) o w (fun v w' => J (upd L k) (updV V k v) w') else J (upd L k) (updV V k undef) w)) ∧ stepV P a J l os (k + 1)
  | [], _ => True
theorem stepV_at {P : Program} {a : Act} {J : (Nat → Bool) → (Nat → Value) → World → Prop} {l : List Oper} : ∀ {os : List Oper} {k : Nat}, stepV P a J l os k → ∀ i o, os[i]? = some o →
    ∀ L V w, L (k + i) = false → (∀ e ∈ o.after, Region.binds .any e = true → L e.on = true) → Closed l L → J L V w →
      (if wants o V = true then does P (putAll l (resV V l 0) a) o w (fun v w' => J (upd L (k + i)) (updV V (k + i) v) w') else J (upd L (k + i)) (updV V (k + i) undef) w)
  | [], k, h, i, o, hi => by simp at hi
  | o' :: os, k, h, 0, o, hi => by
    simp at hi; subst hi
    exact h.1
  | o' :: os, k, h, i + 1, o, hi => by
    have := stepV_at h.2 i o (by simpa using hi)
    rw [show k + (i + 1) = k + 1 + i from by omega]
    exact this

theorem wpAny_V {P : Program} {ops : Array Oper} {Q : Exit → Act → World → Prop} {a : Act} {J : (Nat → Bool) → (Nat → Value) → World → Prop} (hB : commG ops a.tmps.size = true)
    (hs : stepV P a J ops.toList ops.toList 0) (hend : ∀ L V w', (∀ i, i < ops.size → L i = true) → J L V w' → Q .normal (putAll ops.toList (resV V ops.toList 0) a) w') :
    ∀ (fuel : Nat) (listed : Array Bool) (V : Nat → Value) (b : Act) (w : World), listed.size = ops.size → (List.range ops.size).countP (fun i => !listed.getD i false) = fuel → FrameV ops V a (fun i => listed.getD i false) b → Closed ops.toList (fun i => listed.getD i false) → J (fun i => listed.getD i false) V w →
    wpAny P .any ops Q fuel listed b w := by
  have hfin : ∀ (listed : Array Bool) (V : Nat → Value) (b : Act) (w : World), listed.size = ops.size → FrameV ops V a (fun i => listed.getD i false) b → J (fun i => listed.getD i false) V w → Region.ready .any ops listed = [] → Q .normal b w := by
    intro listed V b w hsz hf hJ hr
    have hall : ∀ n i, i ≤ n → i < ops.size → listed.getD i false = true := by
      have one : ∀ i, i < ops.size → (∀ k, k < i → listed.getD k false = true) → listed.getD i false = true := by
        intro i hio ih
        cases hx : listed.getD i false with
        | true => rfl
        | false =>
          exfalso
          have : i ∈ Region.ready .any ops listed := by
            rw [mem_ready]
            refine ⟨?_, ops[i], by simp [hio], fun e he hb => ?_⟩
            · have : i < listed.size := by omega
              simp [this] at hx ⊢; exact hx
            · exact ih e.on ((commG_spec hB (i := i) (o := ops[i]) (by simp [hio])).wait e he hb)
          rw [hr] at this; cases this
      intro n
      induction n with
      | zero => intro i hi hio; exact one i hio (fun k hk => by omega)
      | succ n ih => intro i hi hio; exact one i hio (fun k hk => ih k (by omega) (by omega))
    have := hf.all hB (fun i hi => hall i i (Nat.le_refl _) hi)
    rw [this]
    exact hend _ _ _ (fun i hi => hall i i (Nat.le_refl _) hi) hJ
  intro fuel
  induction fuel with
  | zero =>
    intro listed V b w hsz hc hf hcl hJ
    have hr : Region.ready .any ops listed = [] := by
      apply List.eq_nil_iff_forall_not_mem.2
      intro i hi
      obtain ⟨h1, o, ho, _⟩ := mem_ready.1 hi
      have hio := (Array.getElem?_eq_some_iff.1 ho).1
      rw [List.countP_eq_zero] at hc
      have := hc i (List.mem_range.2 hio)
      have hil : i < listed.size := by omega
      simp [hil] at h1 this
      rw [h1] at this; cases this
    exact ⟨hr, hfin listed V b w hsz hf hJ hr⟩
  | succ fuel ih =>
    intro listed V b w hsz hc hf hcl hJ
    refine ⟨fun hr => hfin listed V b w hsz hf hJ hr, fun i hi => ?_⟩
    obtain ⟨h1, o, ho, hpre⟩ := mem_ready.1 hi
    have hio := (Array.getElem?_eq_some_iff.1 ho).1
    have hil : i < listed.size := by omega
    have h1' : listed.getD i false = false := by simp [hil] at h1 ⊢; exact h1
    have hstep := stepV_at hs i o (by simpa using ho) _ V w (by simpa using h1') hpre hcl hJ
    rw [Nat.zero_add] at hstep
    have hsel := (commG_spec hB ho).sel
    have hex : execOp b.eval o = execOp (putAll ops.toList (resV V ops.toList 0) a).eval o := execOp_congr o hsel (hf.eval hB ho hpre)
    have hupd : (fun j => (listed.setIfInBounds i true).getD j false) = upd (fun j => listed.getD j false) i := by
      funext j
      by_cases hj : j = i
      · subst hj; simp [hil]
      · rw [upd_ne _ _ _ hj, getD_set_ne false (fun e => hj e.symm)]
    have hcnt : (List.range ops.size).countP (fun j => !(listed.setIfInBounds i true).getD j false) = fuel := by
      have := countP_upd (List.range ops.size) (List.nodup_range) i (List.mem_range.2 hio) (fun j => listed.getD j false) h1'
      rw [hc] at this
      have e : (fun j => !(listed.setIfInBounds i true).getD j false) = fun j => !upd (fun j => listed.getD j false) i j := by
        funext j; rw [← hupd]
      rw [e]; omega
    have hnext : ∀ v w', J (upd (fun j => listed.getD j false) i) (updV V i v) w' → wpAny P .any ops Q fuel (listed.setIfInBounds i true) (b.put o.dst v) w' := by
      intro v w' hJ'
      refine ih _ (updV V i v) _ _ (by simp [hsz]) hcnt ?_ ?_ ?_
      · rw [hupd]; exact hf.put hB v ho
      · rw [hupd]
        intro j p hj hl e he hb
        by_cases hji : j = i
        · subst hji
          have : p = o := Option.some.inj (hj.symm.trans (by simpa using ho))
          subst this
          unfold upd
          split
          · rfl
          · exact hpre e he hb
        · rw [upd_ne _ _ _ hji] at hl
          unfold upd
          split
          · rfl
          · exact hcl j p hj hl e he hb
      · rw [hupd]; exact hJ'
    unfold wpOp
    rw [ho]
    simp only [hf.wants hB ho hpre]
    by_cases hw : wants o V = true
    · rw [if_pos hw] at hstep ⊢
      left
      unfold Oper.wp
      rw [hex]
      rcases hstep with ⟨v, w', hrun, hJ'⟩ | ⟨w', hrun, hJ'⟩ | ⟨f, args, w', hrun, hcall⟩
      · rw [hrun]; exact hnext _ _ hJ'
      · rw [hrun]; exact hnext _ _ hJ'
      · rw [hrun, Oper.upon_enter]
        refine hcall.mono ?_
        rintro e w'' ⟨v, rfl, hJ'⟩
        exact hnext _ _ hJ'
    · rw [if_neg hw] at hstep ⊢
      exact hnext _ _ hstep

theorem wp_region_V {P : Program} {l : List Oper} {id : Nat} {Q : Exit → Act → World → Prop} {a : Act} {w : World} (J : (Nat → Bool) → (Nat → Value) → World → Prop) (hm : P.follows .mixedOrders = true) (hB : commG l.toArray a.tmps.size = true)
    (h0 : J (fun _ => false) (fun _ => undef) w.drew) (hs : stepV P a J l l 0) (hend : ∀ L V w', (∀ i, i < l.length → L i = true) → J L V w' → Q .normal (putAll l (resV V l 0) a) w') : (Code.region id l.toArray true).wp P Q a w := by
  refine wp_region_any hm ?_
  have e : (fun i => (Array.replicate l.toArray.size false).getD i false) = fun _ => false := by
    funext i
    by_cases h : i < l.length <;> simp [h]
  refine wpAny_V hB (by simpa using hs) (by simpa using hend) _ _ (fun _ => undef) _ _ (by simp) ?_ ?_ ?_ ?_
  · have : (List.range l.toArray.size).countP (fun i => !(Array.replicate l.toArray.size false).getD i false) = (List.range l.toArray.size).length := by
      rw [List.countP_eq_length]
      intro i _
      by_cases h : i < l.length <;> simp [h]
    simpa using this
  · rw [e]
    exact ⟨rfl, rfl, fun _ _ _ _ _ h => (by cases h), fun _ _ => rfl⟩
  · rw [e]
    intro j p hj hl
    cases hl
  · rw [e]; exact h0

/-! ### Where what is handed back is the same in every order -/
theorem wants_congr {o : Oper} {V V' : Nat → Value} (h : ∀ j b, o.guard = some (j, b) → V j = V' j) : wants o V = wants o V' := by
  unfold wants
  cases hg : o.guard with
  | none => rfl
  | some jb => simp only [h jb.1 jb.2 hg]
theorem execOp_res {ops : Array Oper} {n : Nat} (hB : commG ops n = true) {V V' : Nat → Value} {a : Act} {L : Nat → Bool} {i : Nat} {o : Oper} (hi : ops[i]? = some o)
    (hp : ∀ e ∈ o.after, Region.binds .any e = true → L e.on = true) (hV : ∀ i, L i = true → V i = V' i) : execOp (putAll ops.toList (resV V ops.toList 0) a).eval o = execOp (putAll ops.toList (resV V' ops.toList 0) a).eval o := by
  apply execOp_congr o (commG_spec hB hi).sel
  intro x hx
  cases x with
  | tmp t =>
    show Array.getD _ t undef = Array.getD _ t undef
    have key : (putAll ops.toList (resV V ops.toList 0) a).tmps[t]? = (putAll ops.toList (resV V' ops.toList 0) a).tmps[t]? := by
      by_cases he : ∃ (j : Nat) (p : Oper), ops[j]? = some p ∧ p.dst = some t
      · obtain ⟨j, p, hj, hpd⟩ := he
        obtain ⟨e, he, hb, hon⟩ := ((commG_spec hB hi).look j p hj t hpd).1 _ hx rfl
        have hL : L j = true := hon ▸ hp e he hb
        have hjl := (Array.getElem?_eq_some_iff.1 hj).1
        have hv : ∀ U : Nat → Value, (resV U ops.toList 0)[j]? = some (U j) := fun U => by rw [resV_at U _ 0 j (by simpa using hjl), Nat.zero_add]
        have hx' : ∀ k q, ops.toList[k]? = some q → k ≠ j → q.dst ≠ some t := fun k q hk hkj => ((commG_spec hB (by simpa using hk)).look j p hj t hpd).2 hkj
        rw [putAll_at ops.toList _ a j p _ t (by simpa using hj) (hv V) hpd hx', putAll_at ops.toList _ a j p _ t (by simpa using hj) (hv V') hpd hx', hV j hL]
      · have hno : ∀ o ∈ ops.toList, o.dst ≠ some t := by
          intro p hp' e
          obtain ⟨j, hj⟩ := List.mem_iff_getElem?.1 hp'
          exact he ⟨j, p, by simpa using hj, e⟩
        rw [putAll_other _ _ _ _ hno, putAll_other _ _ _ _ hno]
    simp only [Array.getD_eq_getD_getElem?, key]
  | const v => rfl
  | global g => rfl
  | func f => rfl
theorem does.mono {P : Program} {aS : Act} {o : Oper} {w : World} {K K' : Value → World → Prop} (h : does P aS o w K) (hk : ∀ v w, K v w → K' v w) : does P aS o w K' := by
  rcases h with ⟨v, w', hr, k⟩ | ⟨w', hr, k⟩ | ⟨f, args, w', hr, hc⟩
  · exact .inl ⟨v, w', hr, hk _ _ k⟩
  · exact .inr (.inl ⟨w', hr, hk _ _ k⟩)
  · exact .inr (.inr ⟨f, args, w', hr, hc.mono fun e w'' ⟨v, he, k⟩ => ⟨v, he, hk _ _ k⟩⟩)

def stepF (P : Program) (aS : Act) (U : Nat → Value) (J : (Nat → Bool) → World → Prop) (l : List Oper) : List Oper → Nat → Prop
  | o :: os, k => (∀ L w, L k = false → (∀ e ∈ o.after, Region.binds .any e = true → L e.on = true) → Closed l L → J L w →
      (if wants o U = true then does P aS o w (fun v w' => v = U k ∧ J (upd L k) w') else U k = undef ∧ J (upd L k) w)) ∧ stepF P aS U J l os (k + 1)
  | [], _ => True
theorem stepF_at {P : Program} {aS : Act} {U : Nat → Value} {J : (Nat → Bool) → World → Prop} {l : List Oper} : ∀ {os : List Oper} {k : Nat}, stepF P aS U J l os k → ∀ i o, os[i]? = some o →
    ∀ L w, L (k + i) = false → (∀ e ∈ o.after, Region.binds .any e = true → L e.on = true) → Closed l L → J L w →
      (if wants o U = true then does P aS o w (fun v w' => v = U (k + i) ∧ J (upd L (k + i)) w') else U (k + i) = undef ∧ J (upd L (k + i)) w)
  | [], k, h, i, o, hi => by simp at hi
  | o' :: os, k, h, 0, o, hi => by
    simp at hi; subst hi
    exact h.1
  | o' :: os, k, h, i + 1, o, hi => by
    have := stepF_at h.2 i o (by simpa using hi)
    rw [show k + (i + 1) = k + 1 + i from by omega]
    exact this
theorem stepV_mk {P : Program} {a : Act} {J : (Nat → Bool) → (Nat → Value) → World → Prop} {l : List Oper} : ∀ (os : List Oper) (k : Nat), (∀ i o, os[i]? = some o →
    ∀ L V w, L (k + i) = false → (∀ e ∈ o.after, Region.binds .any e = true → L e.on = true) → Closed l L → J L V w →
      (if wants o V = true then does P (putAll l (resV V l 0) a) o w (fun v w' => J (upd L (k + i)) (updV V (k + i) v) w') else J (upd L (k + i)) (updV V (k + i) undef) w)) → stepV P a J l os k
  | [], _, _ => True.intro
  | o :: os, k, h => ⟨h 0 o rfl, stepV_mk os (k + 1) fun i o' hi => by
      have := h (i + 1) o' (by simpa using hi)
      rw [show k + (i + 1) = k + 1 + i from by omega] at this
      exact this⟩
theorem resV_list (U : Nat → Value) : ∀ (l : List Oper) (vs : List Value) (k : Nat), vs.length = l.length → (∀ i v, vs[i]? = some v → U (k + i) = v) → resV U l k = vs
  | [], [], _, _, _ => rfl
  | [], _ :: _, _, h, _ => by simp at h
  | _ :: _, [], _, h, _ => by simp at h
  | _ :: l, v :: vs, k, h, hv => by
    rw [resV, resV_list U l vs (k + 1) (by simpa using h) (fun i u hu => by
      have := hv (i + 1) u (by simpa using hu)
      rw [show k + (i + 1) = k + 1 + i from by omega] at this
      exact this), show U k = v from hv 0 v rfl]
/-- The statement whose results are vs in every order; the frame behind it under a name of its own. -/
theorem wp_region_F {P : Program} {l : List Oper} {id : Nat} {Q : Exit → Act → World → Prop} {a : Act} {w : World} (vs : List Value) (J : (Nat → Bool) → World → Prop) (hm : P.follows .mixedOrders = true) (hB : commG l.toArray a.tmps.size = true) (hlen : vs.length = l.length)
    (h0 : J (fun _ => false) w.drew) (h : ∀ aS, aS = putAll l vs a → stepF P aS (fun i => vs.getD i undef) J l l 0 ∧ ∀ L w', (∀ i, i < l.length → L i = true) → J L w' → Q .normal aS w') : (Code.region id l.toArray true).wp P Q a w := by
  obtain ⟨h1, h2⟩ := h _ rfl
  have hvs : resV (fun i => vs.getD i undef) l 0 = vs := resV_list _ _ _ _ hlen (fun i v hv => by simp [hv])
  refine wp_region_V (fun L V w => (∀ i, L i = true → V i = vs.getD i undef) ∧ J L w) hm hB ⟨fun _ h => (by cases h), h0⟩ (stepV_mk l 0 fun i o hi L V w hL hw hcl hJ => ?_) (fun L V w' hL hJ => ?_)
  · rw [Nat.zero_add] at hL ⊢
    have hs := stepF_at h1 i o hi L w (by simpa using hL) hw hcl hJ.2
    rw [Nat.zero_add] at hs
    have hwt : wants o V = wants o (fun i => vs.getD i undef) := wants_congr fun j b hg => by
      obtain ⟨⟨e, he, hb, hon⟩, _⟩ := (commG_spec hB (by simpa using hi)).guard j b hg
      exact hJ.1 j (hon ▸ hw e he hb)
    have hex := execOp_res (a := a) hB (i := i) (o := o) (by simpa using hi) hw hJ.1
    simp only [List.toList_toArray] at hex
    rw [hvs] at hex
    have hup : ∀ (v : Value), v = vs.getD i undef → ∀ j, upd L i j = true → updV V i v j = vs.getD j undef := by
      intro v hv j hj
      by_cases e : j = i
      · subst e; simp [hv]
      · rw [updV_ne _ _ _ _ e]
        rw [upd_ne _ _ _ e] at hj
        exact hJ.1 j hj
    rw [hwt]
    by_cases hwn : wants o (fun i => vs.getD i undef) = true
    · rw [if_pos hwn] at hs ⊢
      unfold does
      rw [hex]
      exact does.mono hs fun v w' ⟨hv, hJ'⟩ => ⟨hup v hv, hJ'⟩
    · rw [if_neg hwn] at hs ⊢
      exact ⟨hup undef hs.1.symm, hs.2⟩
  · have hall : resV V l 0 = vs := by
      rw [← hvs]
      exact resV_list _ _ _ _ (by rw [resV_len]) (fun i v hv => by
        have hi : i < l.length := by have := (List.getElem?_eq_some_iff.1 hv).1; rwa [resV_len] at this
        rw [resV_at _ _ _ _ hi] at hv
        cases hv
        rw [Nat.zero_add]
        exact hJ.1 i (hL i hi))
    rw [hall]
    exact h2 L w' hL hJ.2
end Go.Proofs.YtoilokfpfmicaaaDoor
