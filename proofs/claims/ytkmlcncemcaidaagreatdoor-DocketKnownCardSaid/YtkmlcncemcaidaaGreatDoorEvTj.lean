/- The abstract evaluator: functions. -/
import Derived.Test.YtkmlcncemcaidaaGreatDoorEvTi
namespace Go.Ev
variable {P : Program} {K nt : Nat} {r : R}

def resRun (tmps : Array Value) : ResultVar → Sem Value
  | .tmp t => pure (tmps.getD t undef)
  | .cell a t => do loadVar t (← asAddr (tmps.getD a undef))
theorem resV_sound {f : Fr} {a : Act} {h : H} {μ : Mu} {w : World} (hfr : FV K μ f a) (hr : HR h μ w) (hf : Fin r) : ∀ (rs : List ResultVar) (k : List AV → R), resV P K f h rs k = r →
    ∃ l cs, (rs.mapM (resRun a.tmps)).run P w = .ok cs w ∧ VRs μ l cs ∧ k l = r
  | [], k, e => ⟨[], [], by simp, .nil, e⟩
  | .tmp t :: rs, k, e => by
    obtain ⟨l, cs, h1, h2, h3⟩ := resV_sound hfr hr hf rs _ e
    refine ⟨_, a.tmps.getD t undef :: cs, ?_, .cons _ _ _ _ (hfr t) h2, h3⟩
    rw [List.mapM_cons]
    simp [resRun, h1]
  | .cell x t :: rs, k, e => by
    obtain ⟨l, cs, h1, h2, h3⟩ := resV_sound hfr hr hf rs _ e
    obtain ⟨b, o, hx, h3⟩ := onPtr_eq hf h3
    have hv := hfr x
    rw [hx] at hv
    obtain ⟨L, hL, hc⟩ := hv.ptr_inv
    obtain ⟨v, c, q1, q2, q3⟩ := ldT_sound (P := P) hr hf h3 hL
    refine ⟨_, c :: cs, ?_, .cons _ _ _ _ q2 h2, q3⟩
    rw [List.mapM_cons]
    simp [resRun, asAddr, hc, q1, h1]
theorem run_results {fn : Func} {tmps : Array Value} {w : World} {cs : List Value} (h : (fn.results.toList.mapM (resRun tmps)).run P w = .ok cs w) :
    (results fn tmps).run P w = .ok (match cs with | [v] => v | cs => .tuple cs.toArray) w := by
  have hm : (fn.results.mapM (resRun tmps)).run P w = .ok cs.toArray w := by
    rw [Array.mapM_eq_mapM_toList]
    simp only [Sem.run_map, h]
    rfl
  have hd : results fn tmps = (do
      let vs ← fn.results.mapM (resRun tmps)
      pure (if h : vs.size = 1 then vs[0] else .tuple vs)) := by
    unfold results
    congr 1
  rw [hd]
  simp only [Sem.run_bind, hm, Result.andThen, Sem.run_pure]
  match cs with
  | [] => rfl
  | [v] => rfl
  | a :: b :: cs => simp
theorem finish_sound {fn : Func} {f : Fr} {a : Act} {h : H} {μ : Mu} {w : World} (hfr : FV K μ f a) (hr : HR h μ w) (hf : Fin r) (e : finish P K fn f h = r) :
    ∃ v cv, (results fn a.tmps).run P w = .ok cv w ∧ VR μ v cv ∧ r = .ok v h := by
  obtain ⟨l, cs, h1, h2, h3⟩ := resV_sound (P := P) hfr hr hf _ _ e
  have hres := run_results h1
  unfold outK at h3
  split at h3
  · next v =>
    cases h2 with | cons _ c _ _ hv hs =>
    cases hs
    exact ⟨v, c, hres, hv, h3.symm⟩
  · next hne =>
    refine ⟨.tup l, .tuple cs.toArray, ?_, .tup _ _ (by simpa using h2), h3.symm⟩
    rw [hres]
    match cs with
    | [] => rfl
    | [v] =>
      cases h2 with | cons v' _ _ _ hv hs =>
      cases hs
      exact absurd rfl (hne v')
    | a :: b :: cs => rfl

/- the entering frame -/
theorem args_get : ∀ (l : List AV) (o : Nat) (c : Tr AV) (i : Nat), (stCells l c o).get i = if h : o ≤ i ∧ i < o + l.length then some (l[i - o]'(by omega)) else c.get i
  | [], o, c, i => by rw [dif_neg (by simp only [List.length_nil]; omega)]; rfl
  | v :: l, o, c, i => by
    rw [stCells_cons, args_get l (o + 1) (c.set o v) i, Tr.get_set]
    by_cases h1 : o + 1 ≤ i ∧ i < o + 1 + l.length
    · rw [dif_pos h1, dif_pos ⟨by omega, by simp only [List.length_cons]; omega⟩]
      congr 1
      have : i - o = (i - (o + 1)) + 1 := by omega
      simp only [this, List.getElem_cons_succ]
    · rw [dif_neg h1]
      by_cases h2 : i = o
      · subst h2
        rw [if_pos rfl, dif_pos ⟨Nat.le_refl _, by simp only [List.length_cons]; omega⟩]
        simp
      · rw [if_neg h2, dif_neg (by simp only [List.length_cons]; omega)]
theorem enter_FR {μ : Mu} {args : List AV} {cargs : Array Value} (hv : VRs μ args cargs.toList) (n : Nat) : FR K n μ (argsFr args) { tmps := cargs ++ Array.replicate (n - cargs.size) undef, defers := [] } := by
  have hlen : args.length = cargs.size := by have := hv.length; simpa using this
  refine ⟨fun t => ?_, .nil, by simp; omega⟩
  cases hb : bit K t with
  | false => rw [getT_no hb]; exact .bad _
  | true =>
    rw [getT_bit hb]
    show VR μ (optBad ((stCells args .nil 0).get t)) _
    rw [args_get]
    by_cases h : 0 ≤ t ∧ t < 0 + args.length
    · rw [dif_pos h]
      obtain ⟨c, h1, h2⟩ := hv.get t _ (List.getElem?_eq_getElem (by omega))
      have h3 : cargs[t]? = some c := by simpa using h1
      have : (cargs ++ Array.replicate (n - cargs.size) undef).getD t undef = c := by
        rw [Array.getD_eq_getD_getElem?, Array.getElem?_append_left (by omega), h3]; rfl
      rw [this]
      exact h2
    · rw [dif_neg h, Tr.get_nil]
      exact .bad _

/-! leaving a frame -/
inductive Mode (μ : Mu) : Option AV → FrameMode → Prop
  | ret : Mode μ none .returning
  | pan {v cv} (h : VR μ v cv) : Mode μ (some v) (.panicking [{ v := cv, recovered := false }])
/- what is asked of the run of deferred calls -/
def DOK (P : Program) (hint : Nat → Nat) (ov : Nat → Option (List AV → H → R)) (lf : Nat) (ih : Call) : Prop :=
  ∀ (K nt : Nat) (fn : Func) (fr : Fr) (a : Act) (d : List (AV × List AV)) (ds : List Deferred) (m : Option AV) (u : FrameMode) (h : H) (μ : Mu) (w : World) (r : R),
    runD P hint ov lf ih K fn fr d m h = r → Fin r → FV K μ fr a → nt ≤ a.tmps.size → DRs μ d ds → Mode μ m u → HR h μ w → Leaves P fn a.tmps (RetR h μ w r) ds u w
theorem RetR.ext {h h' : H} {μ μ' : Mu} {w w' : World} {r : R} (hx : Ext h μ w h' μ' w') {e : Ending} {w'' : World} (hr : RetR h' μ' w' r e w'') : RetR h μ w r e w'' := by
  cases e with
  | returned cv => obtain ⟨v, h2, μ2, q1, q2, q3⟩ := hr; exact ⟨v, h2, μ2, q1, hx.trans q2, q3⟩
  | panicked chain => obtain ⟨v, cv, h2, μ2, q1, q2, q3, q4⟩ := hr; exact ⟨v, cv, h2, μ2, q1, q2, hx.trans q3, q4⟩
  | outgrown => exact hr.elim
theorem Leaves.mono {fn : Func} {tmps : Array Value} {R R' : Ending → World → Prop} (hR : ∀ e w, R e w → R' e w) : ∀ (ds : List Deferred) (u : FrameMode) (w : World), Leaves P fn tmps R ds u w → Leaves P fn tmps R' ds u w
  | [], .returning, w, h => let ⟨v, h1, h2⟩ := h; ⟨v, h1, hR _ _ h2⟩
  | [], .panicking chain, w, h => hR _ _ h
  | [], .run, w, h => h
  | d :: ds, u, w, h => by
    obtain ⟨h0, fv, cap, f, args, h1, h2, h3⟩ := h
    refine ⟨h0, fv, cap, f, args, h1, h2, h3.mono fun e u' w' he => ?_⟩
    cases e with
    | returned v => exact Leaves.mono hR ds _ w' he
    | panicked chain => exact Leaves.mono hR ds _ w' he
    | outgrown => exact hR _ _ he

section
variable {hint : Nat → Nat} {ov : Nat → Option (List AV → H → R)} {lf : Nat} {ih : Call} (hm : P.follows .mixedOrders = true)
theorem ret_sound (hD : DOK P hint ov lf ih) {fn : Func} {fr : Fr} {a : Act} {h : H} {μ : Mu} {w : World} (hf : Fin r) (hfr : FR K nt μ fr a) (hr : HR h μ w) (e : retF P hint ov lf ih K fn fr h = r) :
    Leaves P fn a.tmps (RetR h μ w r) a.defers .returning w := by
  have hd := hfr.d
  unfold retF at e
  split at e
  · next hn =>
    rw [hn] at hd
    generalize hds : a.defers = ds at hd
    cases hd
    obtain ⟨v, cv, h1, h2, h3⟩ := finish_sound (P := P) hfr.v hr hf e
    exact ⟨cv, h1, v, h, μ, h3, .refl hr, h2⟩
  · exact hD K nt fn fr a fr.d a.defers none .returning h μ w r e hf hfr.v hfr.n hd .ret hr
theorem pan_sound (hD : DOK P hint ov lf ih) {fn : Func} {fr : Fr} {a : Act} {h : H} {μ : Mu} {w : World} (hf : Fin r) (hfr : FR K nt μ fr a) (hr : HR h μ w) {v : AV} {cv : Value} (hv : VR μ v cv) (e : hpF P hint ov lf ih K fn v fr h = r) :
    Leaves P fn a.tmps (RetR h μ w r) a.defers (.panicking [{ v := cv, recovered := false }]) w := by
  have hd := hfr.d
  unfold hpF at e
  split at e
  · next hn =>
    rw [hn] at hd
    generalize hds : a.defers = ds at hd
    cases hd
    exact ⟨v, cv, h, μ, e.symm, rfl, .refl hr, hv⟩
  · exact hD K nt fn fr a fr.d a.defers (some v) _ h μ w r e hf hfr.v hfr.n hd (.pan hv) hr
theorem bodyOf_inv {f : FuncId} {fn : Func} {c : Code} (h : bodyOf P f = some (fn, c)) : P.funcs[f]? = some fn ∧ fn.body = some c := by
  unfold bodyOf at h
  split at h
  · next fn' hfn =>
    split at h
    · next c' hb => cases h; exact ⟨hfn, hb⟩
    · cases h
  · cases h
/- functions that only read -/
theorem qMap_get : ∀ (t : Tr Blk) (k : Nat), (qMap t).get k = (t.get k).bind qBlk
  | .nil, k => by
    show (Tr.nil : Tr Blk).get k = _
    rw [Tr.get_nil]; rfl
  | .node v l r, k => by
    show (Tr.node (v.bind qBlk) (qMap l) (qMap r)).get k = _
    cases k with
    | zero => rw [Tr.get_zero, Tr.get_zero]
    | succ k =>
      rw [Tr.get_succ, Tr.get_succ]
      cases Nat.beq (k % 2) 0 with
      | true => exact qMap_get l _
      | false => exact qMap_get r _
theorem qBlk_spec {μ : Mu} {w : World} {l : Loc} {b b' : Blk} (h : qBlk b = some b') (hb : BR μ w l b) : BR μ w l b' ∧ RO b' = true := by
  cases b with
  | cells ty n d t fz ex =>
    cases h
    obtain ⟨c, fr, h1, h2, h3, h4, h5, h6, h7, h8⟩ := hb
    exact ⟨⟨c, fr, h1, h2, h3, h4, h5, h6, (fun h0 => by have h0 : fz + (n + 2) = 0 := h0; omega), fun j hj hj' => h8 j (by have hj : l.δ + (fz + (n + 2)) ≤ j + 1 := hj; omega) hj'⟩, Nat.ble_eq_true_of_le (Nat.le_add_left _ _)⟩
  | mp es bs cl ro => cases h; exact ⟨hb, rfl⟩
  | it m since seen last => cases h
theorem HR.quiet {h : H} {μ : Mu} {w : World} (hr : HR h μ w) : HR ⟨h.next, qMap h.m⟩ μ w ∧ ∀ B, ¬ Foot ⟨h.next, qMap h.m⟩ μ B := by
  have hget : ∀ b blk, (qMap h.m).get b = some blk → ∃ blk0, h.m.get b = some blk0 ∧ qBlk blk0 = some blk := fun b blk hb => by
    rw [qMap_get] at hb
    cases hg : h.m.get b with
    | none => rw [hg] at hb; cases hb
    | some blk0 => rw [hg] at hb; exact ⟨blk0, rfl, hb⟩
  refine ⟨⟨fun b blk hb => ?_, fun b b' blk blk' l l' hb hb' => ?_, hr.fresh, hr.gm⟩, fun B ⟨b, blk, l, hb, hro, hl, hlB⟩ => ?_⟩
  · obtain ⟨blk0, h1, h2⟩ := hget b blk hb
    obtain ⟨l, h3, h4, h5⟩ := hr.blk b blk0 h1
    exact ⟨l, h3, h4, (qBlk_spec h2 h5).1⟩
  · obtain ⟨b0, h1, _⟩ := hget b blk hb
    obtain ⟨b0', h1', _⟩ := hget b' blk' hb'
    exact hr.inj b b' b0 b0' l l' h1 h1'
  · obtain ⟨blk0, h1, h2⟩ := hget b blk hb
    obtain ⟨l, h3, h4, h5⟩ := hr.blk b blk0 h1
    rw [(qBlk_spec h2 h5).2] at hro; cases hro
theorem Ext.quiet {h h' : H} {μ μ' : Mu} {w w' : World} {lim : Nat} (hr : HR h μ w) (hx : Ext ⟨h.next, qMap h.m⟩ μ w h' μ' w') (hlim : h'.next ≤ lim) : Ext h μ w ⟨lim, h.m⟩ μ' w' := by
  have hnf := hr.quiet.2
  have hmu : ∀ b blk l', h.m.get b = some blk → μ' b = some l' → μ b = some l' := fun b blk l' hb hl' => by
    obtain ⟨l, h3, _⟩ := hr.blk b blk hb
    rw [hx.le _ _ h3] at hl'
    rw [h3, hl']
  refine ⟨hx.le, ⟨fun b blk hb => ?_, fun b b' blk blk' l l' hb hb' hl hl' hB => hr.inj b b' blk blk' l l' hb hb' (hmu b blk l hb hl) (hmu b' blk' l' hb' hl') hB, fun b hb => hx.hr.fresh b (Nat.le_trans hlim hb), hx.hr.gm⟩, hx.sz, fun B hB _ => hx.keep B hB (hnf B), fun B ⟨b, blk, l, h1, h0, h2, h3⟩ => .inl ⟨b, blk, l, h1, h0, hmu b blk l h1 h2, h3⟩, fun B ⟨b, blk, l, h1, h2, h3⟩ => .inl ⟨b, blk, l, h1, hmu b blk l h1 h2, h3⟩, Nat.le_trans hx.nx hlim, hx.dom, hx.io⟩
  obtain ⟨l, h3, h4, h5⟩ := hr.blk b blk hb
  exact ⟨l, hx.le _ _ h3, Nat.lt_of_lt_of_le h4 hx.sz, h5.congr hx.le (hx.keep _ h4 (hnf _))⟩
theorem qFin_sound {fn : Func} {f : Fr} {a : Act} {h : H} {μ : Mu} {w : World} {lim : Nat} (hfr : FR K nt μ f a) (hr : HR h μ w) (hf : Fin r) (e : qFin P K fn lim f h = r) :
    a.defers = [] ∧ ∃ v cv, (results fn a.tmps).run P w = .ok cv w ∧ VR μ v cv ∧ r = .ok v ⟨lim, .nil⟩ ∧ h.next ≤ lim := by
  unfold qFin at e
  split at e
  · next hd =>
    have hds := hfr.d
    rw [hd] at hds
    generalize ha : a.defers = ds at hds
    cases hds
    refine ⟨rfl, ?_⟩
    obtain ⟨l, cs, h1, h2, h3⟩ := resV_sound (P := P) hfr.v hr hf _ _ e
    have hres := run_results h1
    unfold qOut at h3
    split at h3
    · next v =>
      obtain ⟨hl, h3⟩ := cond_fail hf h3
      cases h2 with | cons _ c _ _ hv hs =>
      cases hs
      exact ⟨v, c, hres, hv, h3.symm, Nat.le_of_ble_eq_true hl⟩
    · next hne =>
      obtain ⟨hl, h3⟩ := cond_fail hf h3
      refine ⟨.tup l, .tuple cs.toArray, ?_, .tup _ _ (by simpa using h2), h3.symm, Nat.le_of_ble_eq_true hl⟩
      rw [hres]
      match cs with
      | [] => rfl
      | [v] =>
        cases h2 with | cons v' _ _ _ hv hs =>
        cases hs
        exact absurd rfl (hne v')
      | a :: b :: cs => rfl
  · exact hf.no e
include hm in
theorem goQ_sound (hc : CallOK P ih) (hov : OvOK P ov) {f : FuncId} {fn : Func} {c : Code} (hfn : P.funcs[f]? = some fn) (hbody : fn.body = some c) {args : List AV} {h : H} {μ : Mu} {w : World} {cargs : Array Value} (hr : HR h μ w) (hv : VRs μ args cargs.toList) (hf : Fin r)
    (e : goQ P hint ov lf ih f args h (fn, c) = r) : Calls P f cargs w (RetR h μ w r) := by
  unfold goQ at e
  obtain ⟨hok, e⟩ := cond_fail hf e
  generalize hr0 : evC c P ⟨hint f, ih, ov, lf, dHpQ⟩ (argsFr args) ⟨h.next, qMap h.m⟩ (qEnd P (hint f) fn (Nat.add h.next 4096)) = r0 at e
  have hf0 : Fin r0 := fun s hs => by subst hs; exact hf.no e
  have hback : ∀ v lim, r0 = .ok v ⟨lim, .nil⟩ → r = .ok v ⟨lim, h.m⟩ := fun v lim hv => by subst hv; exact e.symm
  refine calls_of_wp_defers hfn hbody ?_
  have fin : ∀ (f' : Fr) (a' : Act) (h' : H) (μ' : Mu) (w' : World), Ext ⟨h.next, qMap h.m⟩ μ w h' μ' w' → FR (hint f) fn.ntmps μ' f' a' → qFin P (hint f) fn (Nat.add h.next 4096) f' h' = r0 → Leaves P fn a'.tmps (RetR h μ w r) a'.defers .returning w' := fun f' a' h' μ' w' e1 e2 e3 => by
    obtain ⟨q1, v, cv, q2, q3, q4, q5⟩ := qFin_sound (P := P) e2 e1.hr hf0 e3
    rw [q1]
    exact ⟨cv, q2, v, _, μ', hback v _ q4, e1.quiet hr q5, q3⟩
  refine code_sound (cx := ⟨hint f, ih, ov, lf, dHpQ⟩) (nt := fn.ntmps) hm hf0 hc hov rfl c hok _ _ _ ⟨h.next, qMap h.m⟩ μ w _ (enter_FR hv fn.ntmps) hr.quiet.1 ?_ ?_ hr0
  · intro f' v cv a' h' μ' w' e1 e2 e3 e4
    exact hf0.no e4
  · intro e e' f' a' h' μ' w' e1 e2 e3 e4
    cases e1 with
    | normal => exact fin f' a' h' μ' w' e2 e3 e4
    | ret => exact fin f' a' h' μ' w' e2 e3 e4
    | exit i => exact hf0.no e4
include hm in
theorem callS_sound (hc : CallOK P ih) (hov : OvOK P ov) (hD : DOK P hint ov lf ih) (n : Nat) : CallOK P (callS P hint ov lf n ih) := by
  intro f args h μ w cargs r hr hv e hf
  unfold callS at e
  obtain ⟨b, hb, e⟩ := opt hf e
  obtain ⟨fn, c⟩ := b
  obtain ⟨hfn, hbody⟩ := bodyOf_inv hb
  unfold goB at e
  cases hq : bit (hint f) 4000 with
  | true =>
    rw [hq] at e
    exact goQ_sound hm hc hov hfn hbody hr hv hf e
  | false =>
  rw [hq] at e
  simp only [cond_false] at e
  unfold goF at e
  obtain ⟨hok, e⟩ := cond_fail hf e
  refine calls_of_wp_defers hfn hbody ?_
  refine code_sound (cx := cxOf P hint ov lf ih (hint f) fn) (nt := fn.ntmps) hm hf hc hov rfl c hok _ _ _ h μ w _ (enter_FR hv fn.ntmps) hr ?_ ?_ e
  · intro f' v cv a' h' μ' w' e1 e2 e3 e4
    exact Leaves.mono (fun _ _ => RetR.ext e1) _ _ _ (pan_sound hD hf e2 e1.hr e3 e4)
  · intro e e' f' a' h' μ' w' e1 e2 e3 e4
    cases e1 with
    | normal => exact Leaves.mono (fun _ _ => RetR.ext e2) _ _ _ (ret_sound hD hf e3 e2.hr e4)
    | ret => exact Leaves.mono (fun _ _ => RetR.ext e2) _ _ _ (ret_sound hD hf e3 e2.hr e4)
    | exit i => exact hf.no e4
include hm in
theorem evCall_sound (hov : OvOK P ov) (hD : ∀ ih, CallOK P ih → DOK P hint ov lf ih) : ∀ n, CallOK P (evCall P hint ov lf n)
  | 0 => fun _ _ _ _ _ _ _ _ _ e hf => hf.no e
  | n + 1 => callS_sound hm (evCall_sound hov hD n) hov (hD _ (evCall_sound hov hD n)) n
end

end Go.Ev
