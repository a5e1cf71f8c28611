/- The abstract evaluator: deferred calls. -/
import Derived.Test.YtkmlcncemcaidaaGreatDoorEvTj
import Derived.Recover
namespace Go.Ev
variable {P : Program} {cx : Cx} {K nt : Nat} {r : R}

/- what may be recovered, and how the frame below stands -/
inductive RC (μ : Mu) (u0 : FrameMode) : AV → FrameMode → Prop
  | ret (h : u0 = .returning) : RC μ u0 .niliface u0
  | live {t x cv} (h : u0 = .panicking [{ v := cv, recovered := false }]) (hv : VR μ (.iface t x) cv) : RC μ u0 (.iface t x) u0
  | done {cv} (h : u0 = .panicking [{ v := cv, recovered := false }]) : RC μ u0 .niliface (.panicking [{ v := cv, recovered := true }])
theorem RC.mono {μ μ' : Mu} {u0 u : FrameMode} {rc : AV} (hle : μ.Le μ') (h : RC μ u0 rc u) : RC μ' u0 rc u := by
  cases h with
  | ret h => exact .ret h
  | live h hv => exact .live h (hv.mono hle)
  | done h => exact .done h

theorem popArg_nil (K : Nat) (gt : Nat → Option Tmp) (g : Gd) (x : Operand) : popArg K gt g x [] = (.lf x, []) := by cases x <;> rfl
theorem popArgs_nil (K : Nat) (gt : Nat → Option Tmp) (g : Gd) : ∀ (xs : List Operand) (acc : TE), popArgs K gt g xs acc [] = popArgs 0 (fun _ => none) none xs acc [] ∧ (popArgs K gt g xs acc []).2 = []
  | [], acc => ⟨rfl, rfl⟩
  | x :: xs, acc => by
    simp only [popArgs, popArg_nil]
    exact popArgs_nil K gt g xs _
theorem node_nil (K : Nat) (gt : Nat → Option Tmp) (o : Oper) : node K gt o [] = node 0 (fun _ => none) o [] ∧ (node K gt o []).2 = [] := by
  unfold node
  cases arity o.op with
  | a0 => exact ⟨rfl, rfl⟩
  | a1 x => simp only [popArg_nil]; exact ⟨trivial, trivial⟩
  | a2 x y => simp only [popArg_nil]; exact ⟨trivial, trivial⟩
  | a3 x y z => simp only [popArg_nil]; exact ⟨trivial, trivial⟩
  | al l =>
    have h1 := popArgs_nil K gt o.guard l.reverse .nil
    have h2 := popArgs_nil 0 (fun _ => none) o.guard l.reverse .nil
    simp only [h1.1, h2.1]
    refine ⟨trivial, ?_⟩
    rw [← h1.1]; exact h1.2
theorem single_node {o : Oper} {d : Option Tmp} {t : TE} (hg : o.guard = none) (h : single o = .rt d t) {ops : Array Oper} : WN K (gtOf ops) none t o ∧ d = o.dst ∧ flat t = [o] ∧ inner t = [] := by
  obtain ⟨h1, h2⟩ := node_nil K (gtOf ops) o
  generalize hn : node K (gtOf ops) o [] = q at h1 h2
  obtain ⟨t', st'⟩ := q
  simp only at h2
  subst h2
  obtain ⟨_, h4, h5⟩ := node_spec (K := K) (gt := gtOf ops) (by intro p hp; cases hp) hn
  rw [hg] at h5
  have hfl : flat t' = [o] := by simpa [flatS] using h4.symm
  have hin : inner t' = [] := by
    have := flat_node h5
    rw [hfl] at this
    cases hi : inner t' with
    | nil => rfl
    | cons x l => rw [hi] at this; simp at this
  unfold single at h
  rw [← h1] at h
  simp only at h
  have hd := h5.dstOf
  have hcase : rootOf (fun _ => none) (none, t') = .rt (dstOf t') t' ∨ ∃ a b, rootOf (fun _ => none) (none, t') = .df a b := by
    cases h5 with
    | nl hx hg hl =>
      simp only [rootOf]
      split
      · exact .inr ⟨_, _, rfl⟩
      · exact .inl rfl
    | n0 => exact .inl rfl
    | n1 => exact .inl rfl
    | n2 => exact .inl rfl
    | n3 => exact .inl rfl
  rcases hcase with hc | ⟨a, b, hc⟩
  · rw [hc] at h; cases h
    exact ⟨h5, hd, hfl, hin⟩
  · rw [hc] at h; cases h

theorem isRec_inv {o : Oper} (h : isRec o = true) (ρ : Operand → Value) (w : World) : (execOp ρ o).run P w = .ok .recover w := by
  unfold isRec at h
  split at h
  · next as ats hop =>
    have : execOp ρ o = (do let d ← resolve ρ ⟨.builtin .recover, as, ats⟩ o.type; invoke d.target d.args) := by unfold execOp; rw [hop]
    rw [this]
    rfl
  · cases h
section
variable (hm : P.follows .mixedOrders = true) (hf : Fin r) (hc : CallOK P cx.call) (hov : OvOK P cx.ov) (hK : cx.K = K) (hhp : ∀ v f h, ∃ s, cx.hp v f h = .fail s)
include hf hc hov hK hhp
theorem no_panic {Q : Exit → Act → World → Prop} {h : H} {μ : Mu} {w : World} : PanicR Q cx K nt r h μ w := fun f v cv a' h' μ' w' _ _ _ e => by
  have _ := hc
  have _ := hov
  have _ := hK
  obtain ⟨s, hs⟩ := hhp v f h'
  rw [hs] at e
  exact hf.no e
theorem evD1_sound {ops : Array Oper} {Q : Exit → Act → List Frame → World → Prop} {c0 : Frame} {cs0 : List Frame} {u0 : FrameMode} {kk : AV → Fr → H → R} : ∀ (is : List Nat) (os : List Oper), is.map (ops[·]?) = os.map some →
    ∀ (f : Fr) (a : Act) (h : H) (μ : Mu) (w : World) (rc : AV) (u : FrameMode), FR K nt μ f a → HR h μ w → Free K nt f os → RC μ u0 rc u → evD1 ops os P cx rc f h kk = r →
    (∀ rc' u' f' a' h' μ' w', Ext h μ w h' μ' w' → FR K nt μ' f' a' → RC μ' u0 rc' u' → kk rc' f' h' = r → Q .normal a' ({ c0 with mode := u' } :: cs0) w') → wpOpsS P ops Q is a ({ c0 with mode := u } :: cs0) w
  | [], [], _, f, a, h, μ, w, rc, u, hfr, hr, hfree, hrc, e, hk => hk rc u f a h μ w (.refl hr) hfr hrc e
  | i :: is, o :: os, hio, f, a, h, μ, w, rc, u, hfr, hr, hfree, hrc, e, hk => by
    simp only [List.map_cons, List.cons.injEq] at hio
    simp only [wpOpsS, hio.1]
    simp only [evD1] at e
    split at e
    · exact hf.no e
    · next hg =>
      have hw : Region.wanted o (yielded ops a.tmps) = true := by unfold Region.wanted; rw [hg]
      rw [if_pos hw]
      have hlt : ∀ d, o.dst = some d → d < nt := fun d hd => hfree.lt d (by simp [dsts, hd])
      have hfree' : Free K nt f ([] ++ [o] ++ os) := hfree
      have ih := fun (v : AV) (cv : Value) (rc' : AV) (u' : FrameMode) (a' : Act) (h' : H) (μ' : Mu) (w' : World) (e1 : Ext h μ w h' μ' w') (e2 : FR K nt μ' f a') (e3 : VR μ' v cv) (e4 : RC μ' u0 rc' u') (e5 : evD1 ops os P cx rc' (Ev.put K f o.dst v) h' kk = r) =>
        evD1_sound is os hio.2 (Ev.put K f o.dst v) (a'.put o.dst cv) h' μ' w' rc' u' (e2.put hlt e3) e1.hr (hfree'.rest v) e4 e5 fun rc2 u2 f2 a2 h2 μ2 w2 s1 s2 s3 s4 => hk rc2 u2 f2 a2 h2 μ2 w2 (e1.trans s1) s2 s3 s4
      cases hrec : isRec o with
      | true =>
        rw [hrec] at e
        rw [isRec_inv hrec]
        simp only [cond_true] at e
        rw [hK] at e
        cases hrc with
        | ret h0 =>
          subst h0
          exact ih .niliface .nilIface .niliface .returning a h μ w (.refl hr) hfr .niliface (.ret rfl) e
        | live h0 hv =>
          subst h0
          exact ih _ _ .niliface _ a h μ w (.refl hr) hfr hv (.done rfl) e
        | done h0 =>
          exact ih .niliface .nilIface .niliface _ a h μ w (.refl hr) hfr .niliface (.done h0) e
      | false =>
        rw [hrec] at e
        simp only [cond_false] at e
        split at e
        · next d t hs =>
          obtain ⟨hn, hd, hfl, hin⟩ := single_node (K := K) hg hs (ops := ops)
          have hns := node_sound (P := P) (ops := ops) (Q := fun e a' w' => Q e a' ({ c0 with mode := u } :: cs0) w') (nt := nt) (f := f) hf hc hov hK hn a h μ w _ (fun a' w' => wpOpsS P ops Q is a' ({ c0 with mode := u } :: cs0) w') hfr hr (by rw [hin]; exact ⟨by simp [dsts], by simp [dsts]⟩) ((no_panic hf hc hov hK hhp).k f) e trivial fun v cv a' h' μ' w' e1 e2 e3 e4 e5 => by
            rw [hK, hd] at e5
            exact ih v cv rc u a' h' μ' w' e1 e2 e4 (hrc.mono e1.le) e5
          rw [hfl] at hns
          simp only [wpL] at hns
          rw [if_pos hw] at hns
          unfold Oper.wp at hns
          split
          · next w' hrun => rw [hrun] at hns; exact hns.elim
          · exact hns
        · exact hf.no e
  | [], _ :: _, hio, _, _, _, _, _, _, _, _, _, _, _, _, _ => by simp at hio
  | _ :: _, [], hio, _, _, _, _, _, _, _, _, _, _, _, _, _ => by simp at hio
include hm in
theorem evD_other {c : Code} {c0 : Frame} {cs0 : List Frame} {u0 : FrameMode} (hok : codeOk K nt c = true) {Q : Exit → Act → List Frame → World → Prop} {f : Fr} {a : Act} {h : H} {μ : Mu} {w : World} {rc : AV} {u : FrameMode} {k : Ex → AV → Fr → H → R}
    (hfr : FR K nt μ f a) (hr : HR h μ w) (hrc : RC μ u0 rc u) (e : evC c P cx f h (fun e f h => k e rc f h) = r)
    (hk : ∀ e e' rc' u' f' a' h' μ' w', ExR e e' → Ext h μ w h' μ' w' → FR K nt μ' f' a' → RC μ' u0 rc' u' → k e rc' f' h' = r → Q e' a' ({ c0 with mode := u' } :: cs0) w') : c.wpS P Q a ({ c0 with mode := u } :: cs0) w :=
  wpS_of_wp (code_sound hm hf hc hov hK c hok _ f a h μ w _ hfr hr (no_panic hf hc hov hK hhp) (fun e e' f' a' h' μ' w' e1 e2 e3 e4 => hk e e' rc u f' a' h' μ' w' e1 e2 e3 (hrc.mono e2.le) e4) e)
include hm in
theorem evD_sound {c0 : Frame} {cs0 : List Frame} {u0 : FrameMode} : ∀ (c : Code), codeOk K nt c = true → ∀ (Q : Exit → Act → List Frame → World → Prop) (f : Fr) (a : Act) (h : H) (μ : Mu) (w : World) (rc : AV) (u : FrameMode) (k : Ex → AV → Fr → H → R),
    FR K nt μ f a → HR h μ w → RC μ u0 rc u → evD c P cx rc f h k = r →
    (∀ e e' rc' u' f' a' h' μ' w', ExR e e' → Ext h μ w h' μ' w' → FR K nt μ' f' a' → RC μ' u0 rc' u' → k e rc' f' h' = r → Q e' a' ({ c0 with mode := u' } :: cs0) w') → c.wpS P Q a ({ c0 with mode := u } :: cs0) w
  | .seq x y, hok => fun Q f a h μ w rc u k hfr hr hrc e hk => by
    simp only [codeOk] at hok
    cases hx : codeOk K nt x with
    | false => rw [hx] at hok; cases hok
    | true =>
      rw [hx] at hok
      simp only [evD] at e
      refine wpS_seq (evD_sound x hx _ f a h μ w rc u _ hfr hr hrc e fun e e' rc' u' f' a' h' μ' w' e1 e2 e3 e4 e5 => ?_)
      cases e1 with
      | normal => exact evD_sound y hok Q f' a' h' μ' w' rc' u' k e3 e2.hr e4 e5 fun e e' rc2 u2 f2 a2 h2 μ2 w2 q1 q2 q3 q4 q5 => hk e e' rc2 u2 f2 a2 h2 μ2 w2 q1 (e2.trans q2) q3 q4 q5
      | exit i => exact hk (.exit i) _ rc' u' f' a' h' μ' w' (.exit i) e2 e3 e4 e5
      | ret => exact hk .ret _ rc' u' f' a' h' μ' w' .ret e2 e3 e4 e5
  | .region id ops d, hok => fun Q f a h μ w rc u k hfr hr hrc e hk => by
    cases d with
    | true => exact evD_other hm hf hc hov hK hhp hok hfr hr hrc e hk
    | false =>
      simp only [codeOk] at hok
      obtain ⟨q1, _, q3⟩ := ndk_spec K nt ops.toList 0 hok
      simp only [evD] at e
      have hfr0 : FR K nt μ ⟨[], f.t, f.d⟩ a := ⟨fun t => by
        cases hb : bit K t with
        | true =>
          have := hfr.v t
          rw [getT_bit hb] at this ⊢
          exact this
        | false => rw [getT_no hb]; exact .bad _, hfr.d, hfr.n⟩
      refine wpS_region (evD1_sound (nt := nt) hf hc hov hK hhp _ ops.toList (range_map ops) ⟨[], f.t, f.d⟩ a h μ w rc u hfr0 hr ⟨q1, fun d hd => ?_, q3⟩ hrc e fun rc' u' f' a' h' μ' w' e1 e2 e3 e4 => hk .normal _ rc' u' f' a' h' μ' w' .normal e1 e2 e3 e4)
      have hb : bit K d = false := by have := (List.mem_filter.1 hd).2; simpa using this
      rw [getT_no hb]; rfl
  | .skip, hok => fun Q f a h μ w rc u k hfr hr hrc e hk => evD_other hm hf hc hov hK hhp hok hfr hr hrc e hk
  | .cond .., hok => fun Q f a h μ w rc u k hfr hr hrc e hk => evD_other hm hf hc hov hK hhp hok hfr hr hrc e hk
  | .block .., hok => fun Q f a h μ w rc u k hfr hr hrc e hk => evD_other hm hf hc hov hK hhp hok hfr hr hrc e hk
  | .loop .., hok => fun Q f a h μ w rc u k hfr hr hrc e hk => evD_other hm hf hc hov hK hhp hok hfr hr hrc e hk
  | .rangeFunc .., hok => fun Q f a h μ w rc u k hfr hr hrc e hk => evD_other hm hf hc hov hK hhp hok hfr hr hrc e hk
  | .exit .., hok => fun Q f a h μ w rc u k hfr hr hrc e hk => evD_other hm hf hc hov hK hhp hok hfr hr hrc e hk
  | .scope .., hok => fun Q f a h μ w rc u k hfr hr hrc e hk => evD_other hm hf hc hov hK hhp hok hfr hr hrc e hk
  | .label .., hok => fun Q f a h μ w rc u k hfr hr hrc e hk => evD_other hm hf hc hov hK hhp hok hfr hr hrc e hk
  | .goto .., hok => fun Q f a h μ w rc u k hfr hr hrc e hk => evD_other hm hf hc hov hK hhp hok hfr hr hrc e hk
  | .ret, hok => fun Q f a h μ w rc u k hfr hr hrc e hk => evD_other hm hf hc hov hK hhp hok hfr hr hrc e hk
  | .refuse .., hok => fun Q f a h μ w rc u k hfr hr hrc e hk => evD_other hm hf hc hov hK hhp hok hfr hr hrc e hk
end

/-! the run of deferred calls -/
section
variable {hint : Nat → Nat} {ov : Nat → Option (List AV → H → R)} {lf : Nat} {ih : Call} (hmx : P.follows .mixedOrders = true)
def BackR (h : H) (μ : Mu) (w : World) (u0 : FrameMode) (r : R) (e : Ending) (u' : FrameMode) (w' : World) : Prop :=
  (∃ cv, e = .returned cv) ∧ ∃ b h' μ', r = .ok (.bool b) h' ∧ Ext h μ w h' μ' w' ∧
    ((b = false ∧ u' = u0) ∨ (b = true ∧ ∃ cv, u0 = .panicking [{ v := cv, recovered := false }] ∧ u' = .panicking [{ v := cv, recovered := true }]))
theorem back_end {fn : Func} {f : Fr} {a : Act} {h h' : H} {μ μ' : Mu} {w w' : World} {u0 ux u' : FrameMode} {rc rc' : AV} (e5 : (resV P K f h' fn.results.toList fun _ => match rc, rc' with
      | .iface .., .niliface => .ok (.bool true) h'
      | .iface .., .iface .. => .ok (.bool false) h'
      | .niliface, .niliface => .ok (.bool false) h'
      | _, _ => .fail "recover") = r) (hf : Fin r) (e2 : Ext h μ w h' μ' w') (e3 : FR K nt μ' f a) (hux : ux = u0) (hrc : RC μ u0 rc ux) (e4 : RC μ' u0 rc' u') (hd : f.d = []) :
    a.defers = [] ∧ ∃ v, (results fn a.tmps).run P w' = .ok v w' ∧ BackR h μ w u0 r (.returned v) u' w' := by
  have hds := e3.d
  rw [hd] at hds
  generalize ha : a.defers = ds at hds
  cases hds
  obtain ⟨l, cs, q1, _, q3⟩ := resV_sound (P := P) e3.v e2.hr hf _ _ e5
  refine ⟨rfl, _, run_results q1, ⟨_, rfl⟩, ?_⟩
  clear e5
  cases hrc with
  | ret h0 =>
    cases e4 with
    | ret h1 => exact ⟨false, h', μ', q3.symm, e2, .inl ⟨rfl, rfl⟩⟩
    | live h1 hv => rw [h1] at h0; cases h0
    | done h1 => rw [h1] at h0; cases h0
  | live h0 hv =>
    cases e4 with
    | ret h1 => rw [h1] at h0; cases h0
    | live h1 hv => exact ⟨false, h', μ', q3.symm, e2, .inl ⟨rfl, rfl⟩⟩
    | done h1 => exact ⟨true, h', μ', q3.symm, e2, .inr ⟨rfl, _, h1, rfl⟩⟩
  | done h0 => rw [h0] at hux; cases hux
include hmx in
theorem callD_sound (hc : CallOK P ih) (hov : OvOK P ov) {rc : AV} {f : FuncId} {args : List AV} {cargs : Array Value} {h : H} {μ : Mu} {w : World} {u0 : FrameMode} (hv : VRs μ args cargs.toList) (hr : HR h μ w) (hrc : RC μ u0 rc u0) (hf : Fin r)
    (e : callD P hint ov lf ih rc f args h = r) : CallsD P f cargs u0 w (BackR h μ w u0 r) := by
  unfold callD at e
  split at e
  · next fn c hb =>
    obtain ⟨hfn, hbody⟩ := bodyOf_inv hb
    obtain ⟨hok, e⟩ := cond_fail' hf e
    have hok : codeOk (hint f) fn.ntmps c = true := by rw [nt_eq] at hok; simpa using hok
    refine callsD_of_wpS hfn hbody fun c₀ cs hu => ?_
    subst hu
    have hcs : (c₀ :: cs) = ({ c₀ with mode := c₀.mode } :: cs : List Frame) := rfl
    rw [hcs]
    refine evD_sound (cx := ⟨hint f, ih, ov, lf, fun _ _ _ => .fail "panic in deferred"⟩) (nt := fn.ntmps) hmx hf hc hov rfl (fun _ _ _ => ⟨_, rfl⟩) c hok _ _ _ h μ w rc _ _ (enter_FR hv fn.ntmps) hr hrc e ?_
    intro e e' rc' u' f' a' h' μ' w' e1 e2 e3 e4 e5
    cases e1 with
    | exit i => exact hf.no e5
    | normal =>
      split at e5
      · next hx => cases hx
      · next hx => cases hx
      · next hd =>
        obtain ⟨g1, v, g2, g3⟩ := back_end e5 hf e2 e3 rfl hrc e4 (by assumption)
        exact ⟨g1, u', rfl, v, g2, g3⟩
      · exact hf.no e5
    | ret =>
      split at e5
      · next hx => cases hx
      · next hx => cases hx
      · next hd =>
        obtain ⟨g1, v, g2, g3⟩ := back_end e5 hf e2 e3 rfl hrc e4 (by assumption)
        exact ⟨g1, u', rfl, v, g2, g3⟩
      · exact hf.no e5
  · exact hf.no e
theorem enter_run {f : FuncId} {args : Array Value} {w : World} (h : fk P f = 0) : (callFunc f args).run P w = .ok (.enter f args) w := by
  unfold fk at h
  split at h
  · cases h
  · next fn hfn =>
    split at h
    · cases h
    · next hname =>
      split at h
      · next c hb => simp [callFunc, hfn, hname, hb]
      · cases h
include hmx in
theorem runD_sound (hc : CallOK P ih) (hov : OvOK P ov) : DOK P hint ov lf ih := by
  intro K nt fn fr a d
  induction d with
  | nil =>
    intro ds m u h μ w r e hf hfv hn hds hm hr
    cases hds
    cases hm with
    | ret =>
      simp only [runD] at e
      obtain ⟨v, cv, h1, h2, h3⟩ := finish_sound (P := P) hfv hr hf e
      exact ⟨cv, h1, v, h, μ, h3, .refl hr, h2⟩
    | pan hv =>
      simp only [runD] at e
      exact ⟨_, _, h, μ, e.symm, rfl, .refl hr, hv⟩
  | cons p d IH =>
    intro ds m u h μ w r e hf hfv hn hds hm hr
    obtain ⟨fv, args⟩ := p
    cases hds with | cons hd hds =>
    rename_i dd ds
    obtain ⟨g, first, cap, cap', args', h1, h2, h3, h4, h5⟩ := hd
    subst h1
    have hu : u ≠ .run := by cases hm <;> simp
    obtain ⟨dt, da⟩ := dd
    simp only at h2 h3
    subst h2 h3
    unfold runD at e
    split at e
    · next f first' cap'' rc hfun hrc =>
      cases hfun
      obtain ⟨hfk, e⟩ := cond_fail hf e
      have hfk : fk P f = 0 := Nat.eq_of_beq_eq_true hfk
      have hRC : RC μ u rc u := by
        cases hm with
        | ret => cases hrc; exact .ret rfl
        | pan hv =>
          unfold rcOf at hrc
          split at hrc
          · rename_i hx; cases hx
          · next t x hx => cases hx; cases hrc; exact .live rfl hv
          · cases hrc
      refine leaves_cons hu (args := da ++ cap') (enter_run hfk) ?_
      generalize hcd : callD P hint ov lf ih rc f (first ++ (args ++ cap)) h = r1 at e
      have hf1 : Fin r1 := by
        intro s hs; subst hs; exact hf.no e
      refine (callD_sound (cargs := da ++ cap') hmx hc hov ?_ hr hRC hf1 hcd).mono ?_
      · rw [Array.toList_append, ← List.append_assoc]
        exact h5.append h4
      · rintro e' u' w' ⟨⟨cv, rfl⟩, b, h', μ', rfl, hx, hb⟩
        have hfv' : FV K μ' fr a := fun t => (hfv t).mono hx.le
        rcases hb with ⟨rfl, rfl⟩ | ⟨rfl, cv', rfl, rfl⟩
        · have hm' : Mode μ' m u' := by
            cases hm with
            | ret => exact .ret
            | pan hv => exact .pan (hv.mono hx.le)
          have hs : settle u' = u' := by cases hm <;> rfl
          show Leaves P fn a.tmps (RetR h μ w r) ds (settle u') w'
          rw [hs]
          exact Leaves.mono (fun _ _ => RetR.ext hx) _ _ _ (IH ds m u' h' μ' w' r e hf hfv' hn (hds.mono hx.le) hm' hx.hr)
        · exact Leaves.mono (fun _ _ => RetR.ext hx) _ _ _ (IH ds none .returning h' μ' w' r e hf hfv' hn (hds.mono hx.le) .ret hx.hr)
    · exact hf.no e
include hmx in
theorem eval_sound (hov : OvOK P ov) (n : Nat) : CallOK P (evCall P hint ov lf n) := evCall_sound hmx hov (fun _ hc => runD_sound hmx hc hov) n
end

end Go.Ev
