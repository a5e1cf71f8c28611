/- The abstract evaluator: regions. -/
import Derived.Test.YtkmlcncemcaidaaGreatDoorEvTg
namespace Go.Ev
variable {P : Program} {ops : Array Oper} {Q : Exit → Act → World → Prop} {cx : Cx} {K nt : Nat} {f : Fr} {r : R} {gt : Nat → Option Tmp}

theorem getT_put {K : Nat} (f : Fr) (d t : Tmp) (v : AV) : getT K (put K f (some d) v) t = if t = d then v else getT K f t := by
  show getT K (putT K f v d) t = _
  unfold putT putB
  cases hb : bit K d with
  | true =>
    cases ht : bit K t with
    | true =>
      rw [getT_bit ht, getT_bit ht]
      show optBad ((f.t.set d v).get t) = _
      rw [Tr.get_set]
      split <;> rfl
    | false =>
      have : t ≠ d := fun e => by rw [e, hb] at ht; cases ht
      rw [getT_no ht, getT_no ht, if_neg this]
  | false =>
    cases ht : bit K t with
    | true =>
      have : t ≠ d := fun e => by rw [e, hb] at ht; cases ht
      rw [getT_bit ht, getT_bit ht, if_neg this]
    | false =>
      rw [getT_no ht, getT_no ht]
      show fsC t (d, v) f.st (fs t f.st) = _
      unfold fsC
      by_cases e : t = d
      · subst e; simp
      · have : Nat.beq d t = false := by
          cases hbb : Nat.beq d t with
          | false => rfl
          | true => exact absurd (Nat.eq_of_beq_eq_true hbb).symm e
        rw [if_neg e]
        show (Bool.rec (fs t f.st) v (Nat.beq d t) : AV) = _
        rw [this]
theorem put_d {K : Nat} (f : Fr) (d : Option Tmp) (v : AV) : (put K f d v).d = f.d := by
  cases d with
  | none => rfl
  | some d =>
    show (putT K f v d).d = _
    unfold putT putB
    cases bit K d <;> rfl
theorem FR.put {μ : Mu} {a : Act} (h : FR K nt μ f a) {d : Option Tmp} {v : AV} {c : Value} (hd : ∀ t, d = some t → t < nt) (hv : VR μ v c) : FR K nt μ (Ev.put K f d v) (a.put d c) := by
  cases d with
  | none => exact h
  | some d =>
    have hlt := hd d rfl
    refine ⟨fun t => ?_, by rw [put_d]; exact h.d, by rw [put_tmps, Array.size_setIfInBounds]; exact h.n⟩
    rw [getT_put, getD_put _ _ _ _ (Nat.lt_of_lt_of_le hlt h.n)]
    split
    · exact hv
    · exact h.v t

/-! the places that no mask keeps -/
noncomputable def kf (K : Nat) (L : List Oper) : List Tmp := (dsts L).filter fun d => !bit K d
theorem kf_append (l m : List Oper) : kf K (l ++ m) = kf K l ++ kf K m := by unfold kf; rw [dsts_append, List.filter_append]
mutual
theorem WN.kfree : ∀ {g t o}, WN K gt g t o → ∀ d ∈ dsts (inner t), bit K d = false
  | _, _, _, .n0 h hg => fun d hd => by cases hd
  | _, _, _, .n1 h hg ha => WT.kfree ha
  | _, _, _, .n2 h hg ha hb => fun d hd => by
    simp only [inner, dsts_append, List.mem_append] at hd
    exact hd.elim (WT.kfree ha d) (WT.kfree hb d)
  | _, _, _, .n3 h hg ha hb hc => fun d hd => by
    simp only [inner, dsts_append, List.mem_append] at hd
    exact hd.elim (fun h => h.elim (WT.kfree ha d) (WT.kfree hb d)) (WT.kfree hc d)
  | _, _, _, .nl h hg hl => WL.kfree hl
theorem WT.kfree : ∀ {g t x}, WT K gt g t x → ∀ d ∈ dsts (flat t), bit K d = false
  | _, _, _, .lf => fun d hd => by cases hd
  | _, _, _, .node (d := d') h hd hb => fun d hm => by
    rw [flat_node h, dsts_append, List.mem_append] at hm
    rcases hm with hm | hm
    · exact WN.kfree h d hm
    · have : d = d' := by simpa [dsts, hd] using hm
      rw [this]; exact hb
  | _, _, _, .gd (d' := d') hj h hd hb => fun d hm => by
    simp only [flat] at hm
    rw [flat_node h, dsts_append, List.mem_append] at hm
    rcases hm with hm | hm
    · exact WN.kfree h d hm
    · have : d = d' := by simpa [dsts, hd] using hm
      rw [this]; exact hb
theorem WL.kfree : ∀ {g l xs}, WL K gt g l xs → ∀ d ∈ dsts (flat l), bit K d = false
  | _, _, _, .nil => fun d hd => by cases hd
  | _, _, _, .cons ha hl => fun d hd => by
    simp only [flat, dsts_append, List.mem_append] at hd
    exact hd.elim (WT.kfree ha d) (WL.kfree hl d)
end

/- the frame knows none of the places to come -/
structure Free (K nt : Nat) (f : Fr) (L : List Oper) : Prop where
  nd : (kf K L).Nodup
  bad : ∀ d ∈ kf K L, getT K f d = .bad
  lt : ∀ d ∈ dsts L, d < nt
theorem Free.clean {l m : List Oper} (h : Free K nt f (l ++ m)) (hk : ∀ d ∈ dsts l, bit K d = false) : Clean K nt f l := by
  have hl : kf K l = dsts l := List.filter_eq_self.2 fun d hd => by rw [hk d hd]; rfl
  have h1 := h.nd
  have h2 := h.bad
  have h3 := h.lt
  rw [kf_append, hl] at h1 h2
  rw [dsts_append] at h3
  exact ⟨(List.nodup_append.1 h1).1, fun d hd => ⟨h3 d (List.mem_append.2 (.inl hd)), h2 d (List.mem_append.2 (.inl hd))⟩⟩
theorem Free.rest {l m : List Oper} {o : Oper} (h : Free K nt f (l ++ [o] ++ m)) (v : AV) : Free K nt (put K f o.dst v) m := by
  have h1 := h.nd
  have h2 := h.bad
  have h3 := h.lt
  rw [kf_append] at h1 h2
  rw [dsts_append] at h3
  refine ⟨(List.nodup_append.1 h1).2.1, fun d hd => ?_, fun d hd => h3 d (List.mem_append.2 (.inr hd))⟩
  have hb := h2 d (List.mem_append.2 (.inr hd))
  cases hdst : o.dst with
  | none => exact hb
  | some d' =>
    rw [getT_put]
    split
    · next e =>
      subst e
      exfalso
      have hkb : bit K d = false := by
        have := (List.mem_filter.1 hd).2
        simpa using this
      refine (List.nodup_append.1 h1).2.2 d ?_ d hd rfl
      rw [kf_append]
      refine List.mem_append.2 (.inr ?_)
      simp [kf, dsts, hdst, hkb]
    · exact hb

theorem range_map (ops : Array Oper) : (List.range ops.size).map (ops[·]?) = ops.toList.map some := by
  apply List.ext_getElem?
  intro i
  rw [List.getElem?_map, List.getElem?_map]
  by_cases hi : i < ops.size
  · rw [List.getElem?_range hi]
    simp [hi]
  · rw [List.getElem?_eq_none (by simpa using hi), List.getElem?_eq_none (by simpa using hi)]
    rfl
def PanicR (Q : Exit → Act → World → Prop) (cx : Cx) (K nt : Nat) (r : R) (h : H) (μ : Mu) (w : World) : Prop :=
  ∀ f v cv a' h' μ' w', Ext h μ w h' μ' w' → FR K nt μ' f a' → VR μ' v cv → cx.hp v f h' = r → Q (.panic [{ v := cv, recovered := false }]) a' w'
theorem PanicR.ext {h h' : H} {μ μ' : Mu} {w w' : World} (hp : PanicR Q cx K nt r h μ w) (hx : Ext h μ w h' μ' w') : PanicR Q cx K nt r h' μ' w' :=
  fun f v cv a' h'' μ'' w'' e1 e2 e3 e4 => hp f v cv a' h'' μ'' w'' (hx.trans e1) e2 e3 e4
theorem PanicR.k {h : H} {μ : Mu} {w : World} (hp : PanicR Q cx K nt r h μ w) (f : Fr) : PanicK Q cx K nt f r h μ w := hp f

def flatL : List (Gd × TE) → List Oper
  | [] => []
  | p :: r => flat p.2 ++ flatL r
theorem flatL_append (l m : List (Gd × TE)) : flatL (l ++ m) = flatL l ++ flatL m := by
  induction l with
  | nil => rfl
  | cons p l ih => simp only [List.cons_append, flatL, ih, List.append_assoc]
theorem flatL_reverse (st : List (Gd × TE)) : flatL st.reverse = flatS st := by
  induction st with
  | nil => rfl
  | cons p st ih => rw [List.reverse_cons, flatL_append, ih]; simp [flatL, flatS]

/- a root in the frame -/
variable (P ops Q cx K nt r) in
def RootS (p : Gd × TE) : Prop := ∀ (rest : List Oper) f a h μ w (ih : KF) (kk : Fr → H → R) (Kc : Act → World → Prop), FR K nt μ f a → HR h μ w → Free K nt f (flat p.2 ++ rest) → PanicR Q cx K nt r h μ w →
  rCons (rootOf (gtOf ops) p) [] ih P cx f h kk = r →
  (∀ f' a' h' μ' w', Ext h μ w h' μ' w' → FR K nt μ' f' a' → Free K nt f' rest → ih P cx f' h' kk = r → Kc a' w') → wpL P ops Q Kc (flat p.2) a w

section
variable (hf : Fin r) (hc : CallOK P cx.call) (hov : OvOK P cx.ov) (hK : cx.K = K)
include hf hc hov hK
theorem root_plain {t : TE} {o : Oper} (h : WN K (gtOf ops) none t o) (rest : List Oper) (f : Fr) (a : Act) (hh : H) (μ : Mu) (w : World) (ih : KF) (kk : Fr → H → R) (Kc : Act → World → Prop) (hfr : FR K nt μ f a) (hr : HR hh μ w)
    (hfree : Free K nt f (flat t ++ rest)) (hp : PanicR Q cx K nt r hh μ w) (e : rRt ih (dstOf t) t P cx f hh kk = r)
    (hk : ∀ f' a' h' μ' w', Ext hh μ w h' μ' w' → FR K nt μ' f' a' → Free K nt f' rest → ih P cx f' h' kk = r → Kc a' w') : wpL P ops Q Kc (flat t) a w := by
  subst hK
  rw [flat_node h] at hfree
  have hcl := Free.clean (by rw [List.append_assoc] at hfree; exact hfree) h.kfree
  change evT t P cx f hh (rootK (dstOf t) ih P cx f kk) = r at e
  refine node_sound (nt := nt) hf hc hov rfl h a hh μ w _ Kc hfr hr hcl (hp.k f) e trivial fun v cv a' h' μ' w' e1 e2 e3 e4 e5 => ?_
  change ih P cx (Ev.put cx.K f (dstOf t) v) h' kk = r at e5
  rw [h.dstOf] at e5
  exact hk _ _ h' μ' w' e1 (e2.put (fun d hd => hfree.lt d (by simp [dsts, hd])) e4) (hfree.rest v) e5
theorem root_guard {t : TE} {o : Oper} {j : Nat} {wt : Bool} {d : Tmp} (hj : gtOf ops j = some d) (h : WN K (gtOf ops) (some (j, wt)) t o) (rest : List Oper) (f : Fr) (a : Act) (hh : H) (μ : Mu) (w : World) (ih : KF) (kk : Fr → H → R) (Kc : Act → World → Prop) (hfr : FR K nt μ f a) (hr : HR hh μ w)
    (hfree : Free K nt f (flat t ++ rest)) (hp : PanicR Q cx K nt r hh μ w) (e : rRt ih (dstOf t) (.gd d wt t) P cx f hh kk = r)
    (hk : ∀ f' a' h' μ' w', Ext hh μ w h' μ' w' → FR K nt μ' f' a' → Free K nt f' rest → ih P cx f' h' kk = r → Kc a' w') : wpL P ops Q Kc (flat t) a w := by
  subst hK
  rw [flat_node h] at hfree
  have hcl := Free.clean (by rw [List.append_assoc] at hfree; exact hfree) h.kfree
  have hlt : ∀ d, o.dst = some d → d < nt := fun d hd => hfree.lt d (by simp [dsts, hd])
  change gdV wt (evT t) P cx f hh (rootK (dstOf t) ih P cx f kk) (getT cx.K f d) = r at e
  have hskip : ∀ b : Bool, ((getT cx.K f d = .bool b ∧ b ≠ wt) ∨ getT cx.K f d = .tup []) → rootK (dstOf t) ih P cx f kk (.tup []) hh = r → wpL P ops Q Kc (flat t) a w := fun b hbb e => by
    rw [flat_node h, ← wpL_append]
    have hg := WN.guards h
    rw [flat_node h] at hg
    refine skip_sound hj hbb (inner t) a (fun o' ho' => hg o' (by simp [ho'])) hcl hfr fun a' h1 h2 h3 => ?_
    simp only [wpL]
    rw [if_neg (unwanted (hg o (by simp)) h1.v hj hbb)]
    change ih P cx (Ev.put cx.K f (dstOf t) (.tup [])) hh kk = r at e
    rw [h.dstOf] at e
    exact hk _ _ hh μ w (.refl hr) (h1.put hlt (.tup [] #[] .nil)) (hfree.rest _) e
  cases hv : getT cx.K f d with
  | bool b =>
    rw [hv] at e
    change (Bool.rec (rootK (dstOf t) ih P cx f kk (.tup []) hh) (evT t P cx f hh (rootK (dstOf t) ih P cx f kk)) (b == wt) : R) = r at e
    cases hbw : b == wt with
    | true =>
      have : b = wt := by simpa using hbw
      subst this
      rw [hbw] at e
      refine node_sound (nt := nt) hf hc hov rfl h a hh μ w _ Kc hfr hr hcl (hp.k f) e ⟨d, hj, hv⟩ fun v cv a' h' μ' w' e1 e2 e3 e4 e5 => ?_
      change ih P cx (Ev.put cx.K f (dstOf t) v) h' kk = r at e5
      rw [h.dstOf] at e5
      exact hk _ _ h' μ' w' e1 (e2.put hlt e4) (hfree.rest v) e5
    | false =>
      rw [hbw] at e
      exact hskip b (.inl ⟨hv, by simpa using hbw⟩) e
  | tup l =>
    rw [hv] at e
    cases l with
    | nil => exact hskip true (.inr hv) e
    | cons => exact hf.no e
  | _ => rw [hv] at e; exact hf.no e
theorem root_defer {o : Oper} {l : TE} {fx : Operand} {as : Array Operand} {ats : Array TypeId} (hop : o.op = .defer ⟨.value fx, as, ats⟩) (hg : o.guard = none) (hl : WL K (gtOf ops) none l o.op.operands.toList) (rest : List Oper) (f : Fr) (a : Act) (hh : H) (μ : Mu) (w : World) (ih : KF) (kk : Fr → H → R) (Kc : Act → World → Prop) (hfr : FR K nt μ f a) (hr : HR hh μ w)
    (hfree : Free K nt f (flat l ++ [o] ++ rest)) (hp : PanicR Q cx K nt r hh μ w) (e : rDf ih o.dst l P cx f hh kk = r)
    (hk : ∀ f' a' h' μ' w', Ext hh μ w h' μ' w' → FR K nt μ' f' a' → Free K nt f' rest → ih P cx f' h' kk = r → Kc a' w') : wpL P ops Q Kc (flat l ++ [o]) a w := by
  subst hK
  have hcl := Free.clean (by rw [List.append_assoc] at hfree; exact hfree) (WL.kfree hl)
  have hlt : ∀ d, o.dst = some d → d < nt := fun d hd => hfree.lt d (by simp [dsts, hd])
  change evT l P cx f hh (dfK o.dst ih P cx f kk) = r at e
  rw [← wpL_append]
  refine list_sound (nt := nt) hf hc hov rfl hl a hh μ w _ _ hfr hr hcl (hp.k f) e trivial fun v a' h' μ' w' e1 e2 e3 e4 e5 => ?_
  obtain ⟨vs, rfl, hv⟩ := e5
  unfold dfK at e4
  split at e4
  · next fn first cap args hvs =>
    cases hvs
    refine wpL_one (gwanted (g := none) hg e2.v trivial) ?_
    have hops : o.op.operands.toList.map a'.eval = a'.eval fx :: (as.map a'.eval).toList := by
      rw [hop]
      simp [Op.operands, Call.operands]
    rw [hops] at hv
    generalize hfx : a'.eval fx = cf at hv
    cases hv with | cons _ _ _ _ h0 hs =>
    cases h0 with | func _ _ _ first' cap' h1 h2 =>
    have hex : (execOp a'.eval o).run P w' = .ok (.defer { target := .fn fn cap', args := first' ++ as.map a'.eval }) w' := by
      have : execOp a'.eval o = (do pure (.defer (← resolve a'.eval ⟨.value fx, as, ats⟩ o.type))) := by unfold execOp; rw [hop]
      rw [this]
      simp [resolve, hfx, Deferred.ofValue]
    unfold Oper.wp
    rw [hex, Oper.upon_defer]
    have hpush : FR cx.K nt μ' ⟨f.st, f.t, (.func fn first cap, args) :: f.d⟩ { a' with defers := { target := .fn fn cap', args := first' ++ as.map a'.eval } :: a'.defers } := by
      refine ⟨fun t => e2.v t, .cons ⟨fn, first, cap, cap', _, rfl, rfl, rfl, h2, ?_⟩ e2.d, e2.n⟩
      rw [Array.toList_append]
      exact h1.append hs
    have hfree' : Free cx.K nt ⟨f.st, f.t, (.func fn first cap, args) :: f.d⟩ (flat l ++ [o] ++ rest) := ⟨hfree.nd, hfree.bad, hfree.lt⟩
    exact hk _ _ h' μ' w' e1 (hpush.put hlt (.tup [] #[] .nil)) (hfree'.rest _) e4
  · exact hf.no e4

theorem root_sound {p : Gd × TE} {o : Oper} (h : WN K (gtOf ops) p.1 p.2 o) : RootS P ops Q cx K nt r p := by
  intro rest f a hh μ w ih kk Kc hfr hr hfree hp e hk
  obtain ⟨g, t⟩ := p
  cases g with
  | none =>
    have plain : rootOf (gtOf ops) (none, t) = .rt (dstOf t) t → wpL P ops Q Kc (flat t) a w := fun he => by
      rw [he] at e
      exact root_plain hf hc hov hK h rest f a hh μ w ih kk Kc hfr hr hfree hp e hk
    cases h with
    | nl hx hg hl =>
      rename_i l xs
      by_cases hd : ∃ fx as ats, o.op = .defer ⟨.value fx, as, ats⟩
      · obtain ⟨fx, as, ats, hop⟩ := hd
        have he : rootOf (gtOf ops) (none, .nl o l) = .df o.dst l := by simp only [rootOf, hop]
        rw [he] at e
        exact root_defer hf hc hov hK hop hg (by rw [hx]; exact hl) rest f a hh μ w ih kk Kc hfr hr hfree hp e hk
      · refine plain ?_
        simp only [rootOf]
        split
        · next fx as ats hop => exact absurd ⟨fx, as, ats, hop⟩ hd
        · rfl
    | n0 => exact plain rfl
    | n1 => exact plain rfl
    | n2 => exact plain rfl
    | n3 => exact plain rfl
  | some g =>
    obtain ⟨j, wt⟩ := g
    cases hj : gtOf ops j with
    | none =>
      have he : rootOf (gtOf ops) (some (j, wt), t) = .df none (.lf (.const .nilIface)) := by simp only [rootOf, hj]
      rw [he] at e
      exact hf.no e
    | some d =>
      have he : rootOf (gtOf ops) (some (j, wt), t) = .rt (dstOf t) (.gd d wt t) := by simp only [rootOf, hj]
      rw [he] at e
      exact root_guard hf hc hov hK hj h rest f a hh μ w ih kk Kc hfr hr hfree hp e hk

theorem roots_sound : ∀ (ps : List (Gd × TE)), (∀ p ∈ ps, ∃ o, WN K (gtOf ops) p.1 p.2 o) → ∀ f a h μ w (kk : Fr → H → R) (Kc : Act → World → Prop), FR K nt μ f a → HR h μ w → Free K nt f (flatL ps) → PanicR Q cx K nt r h μ w →
    evF (ps.map (rootOf (gtOf ops))) P cx f h kk = r → (∀ f' a' h' μ' w', Ext h μ w h' μ' w' → FR K nt μ' f' a' → kk f' h' = r → Kc a' w') → wpL P ops Q Kc (flatL ps) a w
  | [], _, f, a, h, μ, w, kk, Kc, hfr, hr, hfree, hp, e, hk => hk f a h μ w (.refl hr) hfr e
  | p :: ps, hps, f, a, h, μ, w, kk, Kc, hfr, hr, hfree, hp, e, hk => by
    obtain ⟨o, ho⟩ := hps p (by simp)
    show wpL P ops Q Kc (flat p.2 ++ flatL ps) a w
    rw [← wpL_append]
    refine root_sound hf hc hov hK ho (flatL ps) f a h μ w (evF (ps.map (rootOf (gtOf ops)))) kk _ hfr hr hfree hp e fun f' a' h' μ' w' e1 e2 e3 e4 => ?_
    exact roots_sound ps (fun q hq => hps q (by simp [hq])) f' a' h' μ' w' kk Kc e2 e1.hr e3 (hp.ext e1) e4 fun f2 a2 h2 μ2 w2 s1 s2 s3 => hk f2 a2 h2 μ2 w2 (e1.trans s1) s2 s3

/- a region whose operations come in order -/
theorem region_sound {id : Nat} {f : Fr} {a : Act} {h : H} {μ : Mu} {w : World} {kk : Fr → H → R} (hnd : (kf K ops.toList).Nodup) (hlt : ∀ d ∈ dsts ops.toList, d < nt) (hfr : FR K nt μ f a) (hr : HR h μ w) (hp : PanicR Q cx K nt r h μ w)
    (e : evF (forest K ops) P cx ⟨[], f.t, f.d⟩ h kk = r) (hk : ∀ f' a' h' μ' w', Ext h μ w h' μ' w' → FR K nt μ' f' a' → kk f' h' = r → Q .normal a' w') : (Code.region id ops false).wp P Q a w := by
  refine wp_region (wpOps_of_wpL _ ops.toList a w (range_map ops) ?_)
  obtain ⟨h1, h2⟩ := fold_spec (K := K) (gt := gtOf ops) ops.toList [] (by intro p hp; cases hp)
  simp only [flatS, List.nil_append] at h2
  have h3 : flatL (ops.toList.foldl (stepO K (gtOf ops)) []).reverse = ops.toList := by rw [flatL_reverse, h2]
  have hfr0 : FR K nt μ ⟨[], f.t, f.d⟩ a := ⟨fun t => by
    cases hb : bit K t with
    | true =>
      have := hfr.v t
      rw [getT_bit hb] at this ⊢
      exact this
    | false => rw [getT_no hb]; exact .bad _, hfr.d, hfr.n⟩
  have := roots_sound (Q := Q) (nt := nt) hf hc hov hK (ops.toList.foldl (stepO K (gtOf ops)) []).reverse (fun p hp => h1 p (List.mem_reverse.1 hp)) ⟨[], f.t, f.d⟩ a h μ w kk (Q .normal) hfr0 hr
    (by rw [h3]; exact ⟨hnd, fun d hd => by
      have hb : bit K d = false := by have := (List.mem_filter.1 hd).2; simpa using this
      rw [getT_no hb]; rfl, hlt⟩) hp (by
      unfold forest at e
      rw [← List.map_reverse] at e
      exact e) hk
  rw [h3] at this
  exact this
end

end Go.Ev
