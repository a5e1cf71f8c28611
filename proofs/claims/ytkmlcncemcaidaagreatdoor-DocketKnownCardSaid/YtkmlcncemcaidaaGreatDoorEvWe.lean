/- The abstract evaluator: a draw region's run in any order comes to what the plan's walk tells. -/
import Derived.Test.YtkmlcncemcaidaaGreatDoorEvWd
namespace Go.Ev
variable {P : Program} {cx : Cx} {K nt : Nat} {ops : Array Oper} {f0 : Fr} {h0 : H} {na0 : Nat} {r : R}

theorem cnt_le {S S' : Nat → Bool} (hm : ∀ j, S j = true → S' j = true) : ∀ (T : List Rc), (T.filter fun rc => !S' rc.x.i).length ≤ (T.filter fun rc => !S rc.x.i).length
  | [] => Nat.le_refl _
  | rc :: T => by
    have ih := cnt_le hm T
    rw [List.filter_cons, List.filter_cons]
    cases h1 : S rc.x.i with
    | true => rw [hm _ h1]; simpa using ih
    | false =>
      cases h2 : S' rc.x.i with
      | true => simp; omega
      | false => simpa using ih
theorem cnt_lt {S S' : Nat → Bool} (hm : ∀ j, S j = true → S' j = true) {rc : Rc} (h1 : S rc.x.i = false) (h2 : S' rc.x.i = true) : ∀ (T : List Rc), rc ∈ T → (T.filter fun rc => !S' rc.x.i).length < (T.filter fun rc => !S rc.x.i).length
  | [], h => by cases h
  | y :: T, h => by
    rw [List.filter_cons, List.filter_cons]
    rcases List.mem_cons.1 h with e | e
    · subst e
      rw [h1, h2]
      have := cnt_le hm T
      simp; omega
    · have ih := cnt_lt hm h1 h2 T e
      cases h3 : S y.x.i with
      | true => rw [hm _ h3]; simpa using ih
      | false =>
        cases h4 : S' y.x.i with
        | true => simp; omega
        | false => simpa using ih
theorem first_missing {S : Nat → Bool} : ∀ (T : List Rc), (∃ rc ∈ T, S rc.x.i = false) → ∃ T2 rc T1, T = T2 ++ rc :: T1 ∧ S rc.x.i = false ∧ ∀ y ∈ T1, S y.x.i = true
  | [], ⟨_, h, _⟩ => by cases h
  | y :: T, h => by
    by_cases hT : ∃ rc ∈ T, S rc.x.i = false
    · obtain ⟨T2, rc, T1, h1, h2, h3⟩ := first_missing T hT
      exact ⟨y :: T2, rc, T1, by rw [h1]; rfl, h2, h3⟩
    · have hall : ∀ z ∈ T, S z.x.i = true := fun z hz => by
        cases hs : S z.x.i with
        | true => rfl
        | false => exact absurd ⟨z, hz, hs⟩ hT
      obtain ⟨rc, hrc, hs⟩ := h
      rcases List.mem_cons.1 hrc with e | e
      · subst e; exact ⟨[], rc, T, rfl, hs, hall⟩
      · rw [hall rc e] at hs; cases hs
theorem cntA_append (l m : List En) : cntA (l ++ m) = cntA l + cntA m := by
  induction l with
  | nil => simp [cntA]
  | cons x l ih => rw [List.cons_append, cntA_cons, cntA_cons, ih]; omega
theorem cntA_reverse : ∀ (l : List En), cntA l.reverse = cntA l
  | [] => rfl
  | x :: l => by rw [List.reverse_cons, cntA_append, cntA_reverse l, cntA_cons, cntA_cons]; simp [cntA]
theorem Tk.d {T : List Rc} {act : Act'} {na : Nat} {fr : Fr} {h : H} (t : Tk P cx K ops f0 h0 na0 T act na fr h) : fr.d = f0.d := by
  induction t with
  | nil => rfl
  | step t ok s ih => rw [put_d]; exact ih
theorem Ext.bump {h : H} {μ : Mu} {w : World} (hr : HR h μ w) (n : Nat) : Ext h μ w ⟨Nat.add h.next n, h.m⟩ μ w :=
  ⟨.refl _, ⟨hr.blk, hr.inj, fun b hb => hr.fresh b (Nat.le_trans (Nat.le_add_right _ _) hb), hr.gm⟩, Nat.le_refl _, fun _ _ _ => rfl, fun _ h => .inl h, fun _ h => .inl h, Nat.le_add_right _ _, fun _ _ => rfl, rfl, rfl⟩

section
variable {T : List Rc} {act : Act'} {na : Nat} {fr : Fr} {h : H} {hh : H} {μ0 : Mu} {w0 : World} {ds : List Deferred} {Q : Exit → Act → World → Prop}
variable (hc : CallOK P cx.call) (hov : OvOK P cx.ov) (hhp : ∀ v f h, ∃ s, cx.hp v f h = .fail s)
variable (t : Tk P cx K ops f0 h0 na0 T act na fr h) (hlt : ∀ rc ∈ T, ∀ d, rc.x.o.dst = some d → d < nt) (hna : na ≤ h0.next) (hna0 : hh.next ≤ na0) (hall : ∀ i, i < ops.size → ∃ rc ∈ T, rc.x.i = i)
include t in
theorem live {listed : Array Bool} {a : Act} {w : World} {μ : Mu} (iv : Inv ops T K nt f0 h0 hh μ0 w0 ds listed a w μ) (hex : ∃ rc ∈ T, SL listed rc.x.i = false) : Region.ready .any ops listed ≠ [] := by
  obtain ⟨T2, rc, T1, eT, hun, hT1⟩ := first_missing T hex
  obtain ⟨_, _, _, _, _, _, _, _, ok, _⟩ := t.at eT
  have hi : rc.x.i < listed.size := by rw [iv.size]; exact (Array.getElem?_eq_some_iff.1 ok.op).1
  have hrdy : rc.x.i ∈ Region.ready .any ops listed := by
    refine mem_ready.2 ⟨?_, rc.x.o, ok.op, fun e he hb => ?_⟩
    · simp [SL, hi] at hun
      simp [hi, hun]
    · have hbit := ok.edge e.on ((emask_spec _ _).2 ⟨e, by simpa using he, hb, rfl⟩)
      obtain ⟨y, hy, hyi⟩ := t.before eT hbit
      rw [← hyi]
      exact hT1 y hy
  intro e
  rw [e] at hrdy
  cases hrdy
include hc hov hhp t hlt hna hna0 hall in
theorem any_sound (fin : ∀ listed a w μ, Inv ops T K nt f0 h0 hh μ0 w0 ds listed a w μ → (∀ rc ∈ T, SL listed rc.x.i = true) → Q .normal a w) : ∀ (fuel : Nat) (listed : Array Bool) (a : Act) (w : World) (μ : Mu),
    Inv ops T K nt f0 h0 hh μ0 w0 ds listed a w μ → (T.filter fun rc => !SL listed rc.x.i).length ≤ fuel → wpAny P .any ops Q fuel listed a w
  | 0, listed, a, w, μ, iv, hle => by
    have hS : ∀ rc ∈ T, SL listed rc.x.i = true := fun rc hrc => by
      have h1 : (T.filter fun rc => !SL listed rc.x.i) = [] := List.length_eq_zero_iff.1 (Nat.le_zero.1 hle)
      have h2 := List.filter_eq_nil_iff.1 h1 rc hrc
      simpa using h2
    refine ⟨List.eq_nil_iff_forall_not_mem.2 fun j hj => ?_, fin listed a w μ iv hS⟩
    obtain ⟨hl, o, ho, _⟩ := mem_ready.1 hj
    obtain ⟨rc, hrc, hi⟩ := hall j (Array.getElem?_eq_some_iff.1 ho).1
    have h3 := hS rc hrc
    rw [hi] at h3
    have hjs : j < listed.size := by rw [iv.size]; exact (Array.getElem?_eq_some_iff.1 ho).1
    simp [SL, hjs] at h3 hl
    rw [h3] at hl; cases hl
  | fuel + 1, listed, a, w, μ, iv, hle => by
    refine ⟨fun hnil => fin listed a w μ iv fun rc hrc => ?_, fun j hj => ?_⟩
    · cases hs : SL listed rc.x.i with
      | true => rfl
      | false => exact absurd hnil (live t iv ⟨rc, hrc, hs⟩)
    · obtain ⟨hl, o, ho, _⟩ := mem_ready.1 hj
      obtain ⟨rc, hrc, hi⟩ := hall j (Array.getElem?_eq_some_iff.1 ho).1
      subst hi
      obtain ⟨T2, T1, eT⟩ := List.append_of_mem hrc
      refine wpOp_mono (fun a' w' ⟨μ', iv'⟩ => any_sound fin fuel _ a' w' μ' iv' ?_) (inv_step hc hov hhp t hlt hna iv eT hna0 hj)
      have hjs : rc.x.i < listed.size := by rw [iv.size]; exact (Array.getElem?_eq_some_iff.1 ho).1
      have hun : SL listed rc.x.i = false := by
        simp [hjs] at hl
        simp [SL, hjs, hl]
      have := cnt_lt (S := SL listed) (S' := SL (listed.setIfInBounds rc.x.i true)) (fun j => sl_mono) hun (sl_same hjs) T hrc
      omega
end

theorem vs_none {K : Nat} {f0 : Fr} {t : Nat} {S : Nat → Bool} (hS : ∀ j, S j = false) : ∀ (T : List Rc), vs K f0 S t T = getT K f0 t
  | [] => rfl
  | rc :: T => by rw [vs, if_neg (fun e => by rw [hS] at e; exact absurd e.1 (by simp)), vs_none hS T]
theorem stg_none {h0 : H} {S : Nat → Bool} (hS : ∀ j, S j = false) : ∀ (T : List Rc), stg h0 S T = h0
  | [] => rfl
  | rc :: T => by rw [stg, if_neg (fun e => by rw [hS] at e; exact absurd e.2 (by simp)), stg_none hS T]
theorem sl_none (n j : Nat) : SL (Array.replicate n false) j = false := by
  simp only [SL, Array.getD_eq_getD_getElem?, Array.getElem?_replicate]
  split <;> rfl
theorem draw_sound (hm : P.follows .mixedOrders = true) (hf : Fin r) (hc : CallOK P cx.call) (hov : OvOK P cx.ov) (hK : cx.K = K) {id : Nat} {f : Fr} {a : Act} {h : H} {μ : Mu} {w : World} {k : KE} {Q : Exit → Act → World → Prop}
    (hlt : ∀ d ∈ dsts ops.toList, d < nt) (hfr : FR K nt μ f a) (hr : HR h μ w) (e : kDraw ops P cx f h k = r)
    (hk : ∀ f' a' h' μ' w', Ext h μ w h' μ' w' → FR K nt μ' f' a' → k .normal f' h' = r → Q .normal a' w') : (Code.region id ops true).wp P Q a w := by
  unfold kDraw at e
  obtain ⟨l, hl, e⟩ := opt hf e
  rw [hK] at e
  obtain ⟨hpl, hcov, hlen⟩ := dplan_spec hl
  obtain ⟨T, act, na, fr, hfin, t, hT, e⟩ := walk_trace (f0 := ⟨[], f.t, f.d⟩) (h0 := ⟨Nat.add h.next (cntA l), h.m⟩) (na0 := h.next) hf l [] [] h.next ⟨[], f.t, f.d⟩ _ .nil (by simpa using hpl) e
  have hT : T.map (·.x) = l.reverse := by simpa using hT
  have hall : ∀ i, i < ops.size → ∃ rc ∈ T, rc.x.i = i := fun i hi => by
    obtain ⟨y, h1, h2⟩ := hcov i hi
    rw [← hT] at h1
    obtain ⟨rc, h3, h4⟩ := List.mem_map.1 h1
    exact ⟨rc, h3, by rw [h4]; exact h2⟩
  have hlt' : ∀ rc ∈ T, ∀ d, rc.x.o.dst = some d → d < nt := fun rc hrc d hd => by
    obtain ⟨T2, T1, eT⟩ := List.append_of_mem hrc
    obtain ⟨_, _, _, _, _, _, _, _, ok, _⟩ := t.at eT
    refine hlt d (List.mem_filterMap.2 ⟨rc.x.o, ?_, hd⟩)
    exact Array.mem_toList_iff.2 (Array.mem_of_getElem? ok.op)
  have hna : na ≤ (⟨Nat.add h.next (cntA l), h.m⟩ : H).next := by
    have := t.nas.1
    rw [hT, cntA_reverse] at this
    rw [this]
    exact Nat.le_refl _
  have hfr0 : ∀ x, VR μ (getT K ⟨[], f.t, f.d⟩ x) (a.tmps.getD x undef) := fun x => by
    cases hb : bit K x with
    | true =>
      have := hfr.v x
      rw [getT_bit hb] at this ⊢
      exact this
    | false => rw [getT_no hb]; exact .bad _
  have hdrew : Ext h μ w h μ { w with drawn := w.drawn + 1 } := Ext.drew hr
  have hx0 := hdrew.trans (Ext.bump hdrew.hr (cntA l))
  refine wp_region_any hm ?_
  refine any_sound (cx := ⟨K, cx.call, cx.ov, cx.lf, dHp⟩) (hh := h) (μ0 := μ) (w0 := w) (ds := a.defers) (nt := nt) hc hov (fun _ _ _ => ⟨_, rfl⟩) t hlt' hna (Nat.le_refl _) hall ?_ ops.size _ a _ μ ?_ ?_
  · intro listed a' w' μ' iv hS
    have hpd : ∀ A, TopA T A → A ∈ T ∧ isA A.x.c = true ∧ SL listed A.x.i = true := fun A hA => by
      have hm := hA.mem
      obtain ⟨_, _, _, hAc, _⟩ := hA
      exact ⟨hm, hAc, hS A hm⟩
    obtain ⟨r1, r2, r3⟩ := t.reveal (S := SL listed) (hh := h) (μ0 := μ) (μ := μ') (w0 := w) (w := w') (fun y hy _ => hS y hy) iv.ext
      (fun A hA => by
        obtain ⟨q1, q2, q3⟩ := hpd A hA
        exact iv.pend A q1 q2 q3 fun y hy hyE _ => t.top_pend (T2 := []) (T1 := T) rfl hA hy hyE)
      (fun A A' hA hA' hne l l' h2 h3 => by
        obtain ⟨q1, q2, q3⟩ := hpd A hA
        obtain ⟨s1, s2, s3⟩ := hpd A' hA'
        exact iv.dist A q1 A' s1 q2 s2 q3 s3 hne l l' h2 h3)
    refine hk fr a' hfin μ' w' r1 ⟨fun x => ?_, ?_, iv.n⟩ e
    · rw [t.frame, vs_congr (S := fun _ => true) (S' := SL listed) T fun y hy _ => (hS y hy).symm]
      exact iv.vals x
    · rw [t.d, iv.dfr]
      exact hfr.d.mono r1.le
  · refine ⟨by simp, fun rc _ hs => ?_, ?_, ?_, fun x => ?_, rfl, hfr.n, fun rc hrc hA _ => ?_, fun rc _ _ hs => ?_, fun A _ A' _ _ _ hs => ?_, fun A _ _ hs => ?_⟩
    · rw [sl_none] at hs; cases hs
    · rw [stg_none (sl_none _)]; exact hx0
    · rw [stg_none (sl_none _)]; exact Nat.le_refl _
    · rw [vs_none (sl_none _)]; exact hfr0 x
    · exact hr.fresh _ (t.nas.2.1 rc hrc hA).1
    · rw [sl_none] at hs; cases hs
    · rw [sl_none] at hs; cases hs
    · rw [sl_none] at hs; cases hs
  · refine Nat.le_trans (List.length_filter_le _ _) ?_
    have h1 := congrArg List.length hT
    rw [List.length_map, List.length_reverse] at h1
    omega

end Go.Ev
