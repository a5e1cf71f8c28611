/- The abstract evaluator: draw regions, each operation in any order. -/
import Derived.Test.YtkmlcncemcaidaaGreatDoorEvWc
namespace Go.Ev
variable {P : Program} {cx : Cx} {K nt : Nat} {ops : Array Oper} {f0 : Fr} {h0 : H} {na0 : Nat}

theorem fake_get (d t : Nat) (v : AV) : getT 0 ⟨[(d, v)], .nil, []⟩ t = if t = d then v else .bad := by
  rw [getT_no (bit_zero t)]
  show (Bool.rec AV.bad v (Nat.beq d t) : AV) = _
  cases hb : Nat.beq d t with
  | true => rw [if_pos (Nat.eq_of_beq_eq_true hb).symm]
  | false => rw [if_neg (fun e => by subst e; simp at hb)]
theorem fake_FV {μ : Mu} {a : Act} {d : Nat} {v : AV} (h : VR μ v (a.tmps.getD d undef)) : FV 0 μ ⟨[(d, v)], .nil, []⟩ a := fun t => by
  rw [fake_get]
  split
  · next e => subst e; exact h
  · exact .bad _
theorem fr0_FV {μ : Mu} {a : Act} : FV 0 μ fr0 a := fun t => by
  rw [getT_no (bit_zero t)]
  exact .bad _
theorem evX_const {K K' : Nat} {f f' : Fr} {x : Operand} (h : ∀ t, x ≠ .tmp t) : evX x K f = evX x K' f' := by
  cases x with
  | tmp t => exact absurd rfl (h t)
  | _ => rfl
theorem tmpsOf_mem {t : Nat} : ∀ {l : List Operand}, .tmp t ∈ l → t ∈ tmpsOf l
  | x :: l, h => by
    rcases List.mem_cons.1 h with e | e
    · subst e; simp [tmpsOf]
    · have := tmpsOf_mem e
      cases x <;> simp [tmpsOf, this]
  | [], h => by cases h
theorem evXs_ok {μ : Mu} {a : Act} {fr : Fr} : ∀ {l : List Operand}, (∀ x ∈ l, VR μ (evX x K fr) (a.eval x)) → VRs μ (evXs K fr l) (l.map a.eval)
  | [], _ => .nil
  | x :: l, h => .cons _ _ _ _ (h x (by simp)) (evXs_ok fun y hy => h y (by simp [hy]))
theorem gd_wanted {μ : Mu} {a : Act} {fr : Fr} {o : Oper} (hg : gdSt (gtOf ops) K fr o.guard = some true) (hv : ∀ d, d ∈ gdTmp (gtOf ops) o.guard → VR μ (getT K fr d) (a.tmps.getD d undef)) : Region.wanted o (yielded ops a.tmps) = true := by
  cases hgd : o.guard with
  | none => unfold Region.wanted; rw [hgd]
  | some p =>
    obtain ⟨j, w⟩ := p
    rw [hgd] at hg hv
    simp only [gdSt] at hg
    split at hg
    · next d hd =>
      have hvd := hv d (by simp [gdTmp, hd])
      split at hg
      · next b hb =>
        have hbw : b = w := by simpa using hg
        subst hbw
        rw [hb] at hvd
        exact gwanted (K := 0) (g := some (j, b)) hgd (fake_FV hvd) ⟨d, hd, by rw [fake_get, if_pos rfl]⟩
      · cases hg
      · cases hg
    · cases hg
theorem gd_unwanted {μ : Mu} {a : Act} {fr : Fr} {o : Oper} (hg : gdSt (gtOf ops) K fr o.guard = some false) (hv : ∀ d, d ∈ gdTmp (gtOf ops) o.guard → VR μ (getT K fr d) (a.tmps.getD d undef)) : ¬ Region.wanted o (yielded ops a.tmps) = true := by
  cases hgd : o.guard with
  | none => rw [hgd] at hg; simp [gdSt] at hg
  | some p =>
    obtain ⟨j, w⟩ := p
    rw [hgd] at hg hv
    simp only [gdSt] at hg
    split at hg
    · next d hd =>
      have hvd := hv d (by simp [gdTmp, hd])
      split at hg
      · next b hb =>
        have hbw : b ≠ w := by simpa using hg
        rw [hb] at hvd
        exact unwanted (K := 0) hgd (fake_FV hvd) hd (.inl ⟨by rw [fake_get, if_pos rfl], hbw⟩)
      · next hb =>
        rw [hb] at hvd
        exact unwanted (K := 0) (b := true) hgd (fake_FV hvd) hd (.inr (by rw [fake_get, if_pos rfl]))
      · cases hg
    · cases hg

theorem StepD.inv {gt : Nat → Option Tmp} {act : Act'} {na : Nat} {fr : Fr} {h : H} {rc : Rc} {act' : Act'} {na' : Nat} {h' : H} (s : StepD P cx K gt act na fr h rc act' na' h') :
    (rc.x.c = .r → (gdSt gt K fr rc.x.o.guard = some true ∧ rc.wt = true ∧ rc.args = evXs K fr (opnds rc.x.o) ∧ ∃ h2, runOp P cx rc.x.o rc.args h = .ok rc.v h2 ∧ h2.next = h.next) ∨ (gdSt gt K fr rc.x.o.guard = some false ∧ rc.v = .tup [])) ∧
    (rc.x.c = .e → (gdSt gt K fr rc.x.o.guard = some true ∧ runOp P cx rc.x.o (evXs K fr (opnds rc.x.o)) h = .ok rc.v rc.h) ∨ (gdSt gt K fr rc.x.o.guard = some false ∧ rc.v = .tup [] ∧ rc.h = h)) ∧
    (rc.x.c = .a → gdSt gt K fr rc.x.o.guard = some true ∧ ∃ nv, newOp P rc.x.o (evXs K fr (opnds rc.x.o)) = some (nv, rc.blk) ∧ rc.v = nv.at rc.na) := by
  cases s with
  | r hc hg he hn => exact ⟨fun _ => .inl ⟨hg, rfl, rfl, _, he, hn⟩, fun e => (by rw [hc] at e; cases e), fun e => (by rw [hc] at e; cases e)⟩
  | rn hc hg => exact ⟨fun _ => .inr ⟨hg, rfl⟩, fun e => (by rw [hc] at e; cases e), fun e => (by rw [hc] at e; cases e)⟩
  | e hc hg he hn => exact ⟨fun e => (by rw [hc] at e; cases e), fun _ => .inl ⟨hg, he⟩, fun e => (by rw [hc] at e; cases e)⟩
  | en hc hg hn => exact ⟨fun e => (by rw [hc] at e; cases e), fun _ => .inr ⟨hg, rfl, rfl⟩, fun e => (by rw [hc] at e; cases e)⟩
  | a hc hg hz => exact ⟨fun e => (by rw [hc] at e; cases e), fun e => (by rw [hc] at e; cases e), fun _ => ⟨hg, _, hz, rfl⟩⟩
section
variable {T : List Rc} {act : Act'} {na : Nat} {fr : Fr} {h : H} {hh : H} {μ0 μ : Mu} {w0 w : World} {ds : List Deferred} {listed : Array Bool} {a : Act} {Q : Exit → Act → World → Prop}
variable (hc : CallOK P cx.call) (hov : OvOK P cx.ov) (hhp : ∀ v f h, ∃ s, cx.hp v f h = .fail s)
variable (t : Tk P cx K ops f0 h0 na0 T act na fr h) (hlt : ∀ rc ∈ T, ∀ d, rc.x.o.dst = some d → d < nt) (hna : na ≤ h0.next)
variable (iv : Inv ops T K nt f0 h0 hh μ0 w0 ds listed a w μ)
variable {rc : Rc} {T2 T1 : List Rc} (eT : T = T2 ++ rc :: T1) (hun : SL listed rc.x.i = false) (hB : ∀ j, bit rc.x.b j = true → SL listed j = true) (hi : rc.x.i < listed.size)
include t iv eT hun hB in
theorem reveal_e {act1 : Act'} {na1 : Nat} {fr1 : Fr} {h1 : H} (t1 : Tk P cx K ops f0 h0 na0 T1 act1 na1 fr1 h1) (hE : isE rc.x.c = true) : Ext hh μ0 w0 h1 μ w ∧ h0.next ≤ h1.next ∧
    ∀ A ∈ T, isA A.x.c = true → SL listed A.x.i = true → (∀ y ∈ T, isE y.x.c = true → SL (listed.setIfInBounds rc.x.i true) y.x.i = true → bit y.x.b A.x.i = false) → rc.x.i < listed.size → PF h1 μ w w0 A := by
  have hst : stg h0 (SL listed) T = stg h0 (SL listed) T1 := by
    rw [eT, stg_skip (rc :: T1) T2 fun y hy hyE hS => ?_, stg, if_neg (fun e => by rw [hun] at e; exact absurd e.2 (by simp))]
    have := later_e t iv eT hun hE hy hyE
    rw [hS] at this; cases this
  have m1 : ∀ {y}, y ∈ T1 → y ∈ T := fun hy => by rw [eT]; simp [hy]
  have hpd : ∀ A, TopA T1 A → ∀ y ∈ T, isE y.x.c = true → SL listed y.x.i = true → bit y.x.b A.x.i = false := fun A hA y hy hyE hS => by
    rw [eT] at hy
    rcases List.mem_append.1 hy with h2 | h2
    · have := later_e t iv eT hun hE h2 hyE; rw [hS] at this; cases this
    · rcases List.mem_cons.1 h2 with h3 | h3
      · subst h3; rw [hun] at hS; cases hS
      · exact t.top_pend (T2 := T2 ++ [rc]) (T1 := T1) (by rw [eT]; simp) hA h3 hyE
  have hAS : ∀ A, TopA T1 A → A ∈ T ∧ isA A.x.c = true ∧ SL listed A.x.i = true := fun A hA => by
    have hm := hA.mem
    obtain ⟨_, _, _, hAc, _⟩ := hA
    exact ⟨m1 hm, hAc, early_e t eT hB hE hm (.inr hAc)⟩
  obtain ⟨r1, r2, r3⟩ := t1.reveal (S := SL listed) (hh := hh) (μ0 := μ0) (μ := μ) (w0 := w0) (w := w) (fun y hy hyE => early_e t eT hB hE hy (.inl hyE)) (by rw [← hst]; exact iv.ext)
    (fun A hA => by
      rw [← hst]
      obtain ⟨q1, q2, q3⟩ := hAS A hA
      exact iv.pend A q1 q2 q3 (hpd A hA))
    (fun A A' hA hA' hne l l' h2 h3 => by
      obtain ⟨q1, q2, q3⟩ := hAS A hA
      obtain ⟨s1, s2, s3⟩ := hAS A' hA'
      exact iv.dist A q1 A' s1 q2 s2 q3 s3 hne l l' h2 h3)
  refine ⟨r1, by rw [r2, ← hst]; exact iv.nx, fun A hA hAc hAS' hp hi => ?_⟩
  obtain ⟨l, p1, p2, p3, p4, p5⟩ := iv.pend A hA hAc hAS' fun y hy hyE hS => hp y hy hyE (sl_mono hS)
  refine ⟨l, p1, p2, p3, p4, fun hF => ?_⟩
  rcases r3 _ hF with h2 | ⟨A', l', h2, h3, h4⟩
  · rw [← hst] at h2; exact p5 h2
  · obtain ⟨s1, s2, s3⟩ := hAS A' h2
    have hb1 : bit rc.x.b A.x.i = false := hp rc (by rw [eT]; simp) hE (sl_same hi)
    have hb2 : bit rc.x.b A'.x.i = true := (t.early eT h2.mem).cls (by
      revert hE s2
      cases rc.x.c <;> cases A'.x.c <;> simp [isE, isA, pairC])
    have hne : A.na ≠ A'.na := fun e => by
      have := t.nas.2.2 A hA A' s1 hAc s2 e
      subst this
      rw [hb1] at hb2; cases hb2
    exact iv.dist A hA A' s1 hAc s2 hAS' s3 hne l l' p1 h3 h4.symm
theorem Ext.park {g : H} (hx : Ext hh μ0 w0 g μ w) {b : Nat} (hb : μ b = none) (hge : hh.next ≤ b) (hlt : b < g.next) (l : Loc) {w' : World} {o : Obj} (hw : w'.heap = w.heap.push o) (ho1 : w'.os = w.os) (ho2 : w'.output = w.output) : Ext hh μ0 w0 g (Ev.upd μ b l) w' := by
  have hle := upd_le l hb
  have hold : ∀ B, B < w.heap.size → w'.heap[B]? = w.heap[B]? := fun B hB => by
    rw [hw, Array.getElem?_push, if_neg (Nat.ne_of_lt hB)]
  have mu : ∀ x bx lx, g.m.get x = some bx → Ev.upd μ b l x = some lx → μ x = some lx := fun x bx lx hgx e => by
    rw [upd_ne] at e
    · exact e
    · intro he; subst he
      obtain ⟨l', h1, _⟩ := hx.hr.blk _ _ hgx
      rw [hb] at h1; cases h1
  refine ⟨hx.le.trans hle, ⟨fun x bx h1 => ?_, fun x y bx by_ lx ly h1 h2 e1 e2 e3 => hx.hr.inj x y bx by_ lx ly h1 h2 (mu _ _ _ h1 e1) (mu _ _ _ h2 e2) e3, fun x hxn => ?_, hx.hr.gm.mono hle⟩, ?_, fun B hB hF => ?_, fun B ⟨x, bx, lx, h1, h0, h2, h3⟩ => ?_, fun B ⟨x, bx, lx, h1, h2, h3⟩ => ?_, hx.nx, fun x hxn => ?_, ho1.trans hx.io.1, ho2.trans hx.io.2⟩
  · obtain ⟨lx, h2, h3, h4⟩ := hx.hr.blk x bx h1
    exact ⟨lx, hle _ _ h2, by rw [hw]; simp; omega, h4.congr hle (hold _ h3)⟩
  · rw [upd_ne _ _ _ (by omega)]; exact hx.hr.fresh x hxn
  · have := hx.sz; rw [hw]; simp; omega
  · rw [hold B (Nat.lt_of_lt_of_le hB hx.sz)]; exact hx.keep B hB hF
  · exact hx.foot B ⟨x, bx, lx, h1, h0, mu _ _ _ h1 h2, h3⟩
  · exact hx.own B ⟨x, bx, lx, h1, mu _ _ _ h1 h2, h3⟩
  · rw [upd_ne _ _ _ (by omega)]; exact hx.dom x hxn
include hc hov hhp t hlt hna iv eT in
theorem inv_step (hna0 : hh.next ≤ na0) (hrdy : rc.x.i ∈ Region.ready .any ops listed) : wpOp P ops Q rc.x.i (fun a' w' => ∃ μ', Inv ops T K nt f0 h0 hh μ0 w0 ds (listed.setIfInBounds rc.x.i true) a' w' μ') a w := by
  obtain ⟨act1, na1, fr1, h1, act', na', h', t1, ok, s⟩ := t.at eT
  obtain ⟨hl0, o, ho, hall⟩ := mem_ready.1 hrdy
  rw [ok.op] at ho
  cases ho
  have hi : rc.x.i < listed.size := by
    rcases Nat.lt_or_ge rc.x.i listed.size with h' | h'
    · exact h'
    · simp [Array.getElem?_eq_none h'] at hl0
  have hun : SL listed rc.x.i = false := by
    simp [hi] at hl0
    simp [SL, hi, hl0]
  have hB : ∀ j, bit rc.x.b j = true → SL listed j = true := fun j hj => by
    have hb : rc.x.b = bsum (emask rc.x.o.after.toList) (T1.map (·.x)) := congrArg En.b ok.eq
    rw [hb] at hj
    obtain ⟨y, h2, h3, h4⟩ := bsum_spec _ _ _ hj
    obtain ⟨e, he1, he2, he3⟩ := (emask_spec _ _).1 h3
    have hy := hall e (by simpa using he1) he2
    rw [he3] at hy
    rcases h4 with h4 | h4
    · rw [h4]; exact hy
    · obtain ⟨z, hz1, hz2⟩ := List.mem_map.1 h2
      exact iv.clo z (by rw [eT]; simp [hz1]) (by rw [hz2]; exact hy) j (by rw [hz2]; exact h4)
  have hrd : rc.x.rd = gdTmp (gtOf ops) rc.x.o.guard ++ tmpsOf (opnds rc.x.o) := congrArg En.rd ok.eq
  have hread : ∀ x ∈ rc.x.rd, VR μ (getT K fr1 x) (a.tmps.getD x undef) := fun x hx => by
    rw [← reads_ok t iv eT hun hB t1 hx]
    exact iv.vals x
  have hgd : ∀ d, d ∈ gdTmp (gtOf ops) rc.x.o.guard → VR μ (getT K fr1 d) (a.tmps.getD d undef) := fun d hd => hread d (by rw [hrd]; simp [hd])
  have hargs : VRs μ (evXs K fr1 (opnds rc.x.o)) ((opnds rc.x.o).map a.eval) := evXs_ok fun x hx => by
    cases x with
    | tmp d => exact hread d (by rw [hrd]; simp [tmpsOf_mem hx])
    | const v => rw [evX_const (K' := 0) (f' := fr0) (by simp)]; exact fr0_FV.evX iv.ext.hr.gm _
    | global v => rw [evX_const (K' := 0) (f' := fr0) (by simp)]; exact fr0_FV.evX iv.ext.hr.gm _
    | func v => rw [evX_const (K' := 0) (f' := fr0) (by simp)]; exact fr0_FV.evX iv.ext.hr.gm _
  have hmem : rc ∈ T := by rw [eT]; simp
  unfold wpOp
  rw [ok.op]
  simp only
  have pmono : ∀ A ∈ T, isA A.x.c = true → SL listed A.x.i = true → (∀ y ∈ T, isE y.x.c = true → SL (listed.setIfInBounds rc.x.i true) y.x.i = true → bit y.x.b A.x.i = false) → PF (stg h0 (SL listed) T) μ w w0 A :=
    fun A hA hAc hS hp => iv.pend A hA hAc hS fun y hy hyE hyS => hp y hy hyE (sl_mono hyS)
  cases hcl : rc.x.c with
  | r =>
    have hE : isE rc.x.c = false := by simp [isE, hcl]
    have hA : isA rc.x.c = false := by simp [isA, hcl]
    have hst := stage_r t (listed := listed) eT hE
    rcases s.inv.1 hcl with ⟨hg, hwt, har, h2, he, hn⟩ | ⟨hg, hv0⟩
    · rw [if_pos (gd_wanted hg hgd)]
      have hrun := read_same t iv eT hun hB t1 ok hcl hwt he hn
      rw [← har] at hargs
      exact .inl (runOp_sound hc hov hhp iv.ext.hr hargs hrun fun cv w' μ' hx hv => ⟨μ', inv_next t hlt hna iv eT hun hB hi iv.ext iv.nx hA (by rw [hst]; exact hx) hv pmono⟩)
    · rw [if_neg (gd_unwanted hg hgd)]
      exact ⟨μ, inv_next t hlt hna iv eT hun hB hi iv.ext iv.nx hA (by rw [hst]; exact .refl iv.ext.hr) (by rw [hv0]; exact .tup [] #[] .nil) pmono⟩
  | e =>
    have hE : isE rc.x.c = true := by simp [isE, hcl]
    have hA : isA rc.x.c = false := by simp [isA, hcl]
    have hst := stage_e t iv eT hun hi hE
    obtain ⟨r1, r2, r3⟩ := reveal_e t iv eT hun hB t1 hE
    rcases s.inv.2.1 hcl with ⟨hg, he⟩ | ⟨hg, hv0, hh0⟩
    · rw [if_pos (gd_wanted hg hgd)]
      exact .inl (runOp_sound hc hov hhp r1.hr hargs he fun cv w' μ' hx hv => ⟨μ', inv_next t hlt hna iv eT hun hB hi r1 r2 hA (by rw [hst]; exact hx) hv fun A q1 q2 q3 q4 => r3 A q1 q2 q3 q4 hi⟩)
    · rw [if_neg (gd_unwanted hg hgd)]
      rw [hh0] at hst
      exact ⟨μ, inv_next t hlt hna iv eT hun hB hi r1 r2 hA (by rw [hst]; exact .refl r1.hr) (by rw [hv0]; exact .tup [] #[] .nil) fun A q1 q2 q3 q4 => r3 A q1 q2 q3 q4 hi⟩
  | a =>
    have hE : isE rc.x.c = false := by simp [isE, hcl]
    have hA : isA rc.x.c = true := by simp [isA, hcl]
    have hst := stage_r t (listed := listed) eT hE
    have hnas := t.nas.2.1 rc hmem hA
    obtain ⟨hg, nv, hz, hv⟩ := s.inv.2.2 hcl
    rw [if_pos (gd_wanted hg hgd)]
    refine .inl ?_
    obtain ⟨cv, w', l, ob, hrun, hheap, ho1, ho2, hlB, hnew⟩ := newOp_sound (P := P) (w := w) hargs hz
    unfold Oper.wp
    rw [hrun]
    simp only [Oper.upon]
    have hnone := iv.un rc hmem hA hun
    have hlt' : rc.na < (stg h0 (SL listed) T).next := by have := iv.nx; omega
    have hx := iv.ext.park hnone (by omega) hlt' l hheap ho1 ho2
    have hle := upd_le (μ := μ) l hnone
    obtain ⟨hbr, hvn⟩ := hnew _ hle
    have hold : ∀ B, B < w.heap.size → w'.heap[B]? = w.heap[B]? := fun B hB => by
      rw [hheap, Array.getElem?_push, if_neg (Nat.ne_of_lt hB)]
    have hsz : w'.heap.size = w.heap.size + 1 := by rw [hheap]; simp
    have hfoot : ∀ B, Own (stg h0 (SL listed) T) (upd μ rc.na l) B → Own (stg h0 (SL listed) T) μ B := fun B ⟨x, bx, lx, q1, q2, q3⟩ => by
      by_cases hxn : x = rc.na
      · subst hxn
        obtain ⟨l', q4, _⟩ := iv.ext.hr.blk _ _ q1
        rw [hnone] at q4; cases q4
      · rw [upd_ne _ _ _ hxn] at q2
        exact ⟨x, bx, lx, q1, q2, q3⟩
    have hfl : ∀ B, Own (stg h0 (SL listed) T) μ B → B < w.heap.size := fun B ⟨x, bx, lx, q1, q2, q3⟩ => by
      obtain ⟨l', q4, q5, _⟩ := iv.ext.hr.blk _ _ q1
      rw [q2] at q4; cases q4; omega
    have hupd : ∀ A ∈ T, isA A.x.c = true → A ≠ rc → upd μ rc.na l A.na = μ A.na := fun A hA' hc' hne => upd_ne _ _ _ fun e => hne (t.nas.2.2 A hA' rc hmem hc' hA e)
    have hslA : ∀ A ∈ T, A ≠ rc → SL (listed.setIfInBounds rc.x.i true) A.x.i = SL listed A.x.i := fun A hA' hne => sl_ne fun e => hne (t.uniq hmem hA' e).symm
    refine ⟨upd μ rc.na l, ⟨by rw [Array.size_setIfInBounds]; exact iv.size, clo_ok t iv eT hB, by rw [hst]; exact hx, by rw [hst]; exact iv.nx, vals_ok t hlt iv eT hi hle ?_, by rw [putDefers]; exact iv.dfr, by rw [putSize]; exact iv.n, ?_, ?_, ?_, ?_⟩⟩
    · rw [hv]; exact hvn rc.na (upd_same _ _ _)
    · intro A hA' hAc hS
      have hne : A ≠ rc := fun e => by subst e; rw [sl_same hi] at hS; cases hS
      rw [hslA A hA' hne] at hS
      rw [hupd A hA' hAc hne]
      exact iv.un A hA' hAc hS
    · intro A hA' hAc hS hpd
      rw [hst]
      by_cases hne : A = rc
      · subst hne
        refine ⟨_, upd_same _ _ _, by rw [hsz, hlB]; exact Nat.lt_succ_self _, by rw [hlB]; exact iv.ext.sz, hbr, fun hF => ?_⟩
        have := hfl _ (hfoot _ hF)
        omega
      · rw [hslA A hA' hne] at hS
        obtain ⟨l2, p1, p2, p3, p4, p5⟩ := pmono A hA' hAc hS hpd
        exact ⟨l2, hle _ _ p1, by rw [hsz]; omega, p3, p4.congr hle (hold _ p2), fun hF => p5 (hfoot _ hF)⟩
    · intro A hA' A' hA2 hc1 hc2 hS hS' hne l1 l' q1 q2
      by_cases e1 : A = rc
      · subst e1
        have e2 : A' ≠ A := fun e => by subst e; exact hne rfl
        rw [hupd A' hA2 hc2 e2] at q2
        rw [upd_same] at q1; cases q1
        rw [hslA A' hA2 e2] at hS'
        have := iv.lt A' hA2 hc2 hS' l' q2
        intro e; omega
      · rw [hupd A hA' hc1 e1] at q1
        rw [hslA A hA' e1] at hS
        by_cases e2 : A' = rc
        · subst e2
          rw [upd_same] at q2; cases q2
          have := iv.lt A hA' hc1 hS l1 q1
          intro e; omega
        · rw [hupd A' hA2 hc2 e2] at q2
          rw [hslA A' hA2 e2] at hS'
          exact iv.dist A hA' A' hA2 hc1 hc2 hS hS' hne l1 l' q1 q2
    · intro A hA' hc1 hS l1 q1
      rw [hsz]
      by_cases e1 : A = rc
      · subst e1
        rw [upd_same] at q1; cases q1
        omega
      · rw [hupd A hA' hc1 e1] at q1
        rw [hslA A hA' e1] at hS
        have := iv.lt A hA' hc1 hS l1 q1
        omega
end

end Go.Ev
