/- The abstract evaluator: draw regions, what holds behind any of the operations. -/
import Derived.Test.YtkmlcncemcaidaaGreatDoorEvWb
namespace Go.Ev
variable {P : Program} {cx : Cx} {K nt : Nat} {ops : Array Oper} {f0 : Fr} {h0 : H} {na0 : Nat}

abbrev SL (listed : Array Bool) : Nat → Bool := fun j => listed.getD j false
structure Inv (ops : Array Oper) (T : List Rc) (K nt : Nat) (f0 : Fr) (h0 hh : H) (μ0 : Mu) (w0 : World) (ds : List Deferred) (listed : Array Bool) (a : Act) (w : World) (μ : Mu) : Prop where
  size : listed.size = ops.size
  clo : ∀ rc ∈ T, SL listed rc.x.i = true → ∀ j, bit rc.x.b j = true → SL listed j = true
  ext : Ext hh μ0 w0 (stg h0 (SL listed) T) μ w
  nx : h0.next ≤ (stg h0 (SL listed) T).next
  vals : ∀ t, VR μ (vs K f0 (SL listed) t T) (a.tmps.getD t undef)
  dfr : a.defers = ds
  n : nt ≤ a.tmps.size
  un : ∀ rc ∈ T, isA rc.x.c = true → SL listed rc.x.i = false → μ rc.na = none
  pend : ∀ rc ∈ T, isA rc.x.c = true → SL listed rc.x.i = true → (∀ y ∈ T, isE y.x.c = true → SL listed y.x.i = true → bit y.x.b rc.x.i = false) → PF (stg h0 (SL listed) T) μ w w0 rc
  dist : ∀ A ∈ T, ∀ A' ∈ T, isA A.x.c = true → isA A'.x.c = true → SL listed A.x.i = true → SL listed A'.x.i = true → A.na ≠ A'.na → ∀ l l', μ A.na = some l → μ A'.na = some l' → l.B ≠ l'.B
  lt : ∀ A ∈ T, isA A.x.c = true → SL listed A.x.i = true → ∀ l, μ A.na = some l → l.B < w.heap.size

theorem sl_same {listed : Array Bool} {i : Nat} (hi : i < listed.size) : SL (listed.setIfInBounds i true) i = true := by
  simp [SL, hi]
theorem sl_ne {listed : Array Bool} {i j : Nat} (h : i ≠ j) : SL (listed.setIfInBounds i true) j = SL listed j := getD_set_ne false h
theorem sl_mono {listed : Array Bool} {i j : Nat} (h : SL listed j = true) : SL (listed.setIfInBounds i true) j = true := getD_set_true h
theorem putSize (a : Act) (d : Option Tmp) (v : Value) : (a.put d v).tmps.size = a.tmps.size := by
  cases d with
  | none => rfl
  | some d => rw [put_tmps, Array.size_setIfInBounds]
theorem putDefers (a : Act) (d : Option Tmp) (v : Value) : (a.put d v).defers = a.defers := by cases d <;> rfl
theorem PF.next {g g' : H} {μ μ' : Mu} {w w' w0 : World} {A : Rc} (hx : Ext g μ w g' μ' w') (h : PF g μ w w0 A) : PF g' μ' w' w0 A := by
  obtain ⟨l, h1, h2, h3, h4, h5⟩ := h
  refine ⟨l, hx.le _ _ h1, Nat.lt_of_lt_of_le h2 hx.sz, h3, h4.congr hx.le (hx.keep _ h2 fun hF => h5 hF.own), fun hF => ?_⟩
  rcases hx.own _ hF with h6 | h6
  · exact h5 h6
  · omega

section
variable {T : List Rc} {act : Act'} {na : Nat} {fr : Fr} {h : H} {hh : H} {μ0 μ : Mu} {w0 w : World} {ds : List Deferred} {listed : Array Bool} {a : Act}
variable (t : Tk P cx K ops f0 h0 na0 T act na fr h) (hlt : ∀ rc ∈ T, ∀ d, rc.x.o.dst = some d → d < nt) (hna : na ≤ h0.next)
variable (iv : Inv ops T K nt f0 h0 hh μ0 w0 ds listed a w μ)
variable {rc : Rc} {T2 T1 : List Rc} (eT : T = T2 ++ rc :: T1) (hun : SL listed rc.x.i = false) (hB : ∀ j, bit rc.x.b j = true → SL listed j = true) (hi : rc.x.i < listed.size)
include t iv eT hun hB in
/- the values that it reads are those of the plan's walk -/
theorem reads_ok {act1 : Act'} {na1 : Nat} {fr1 : Fr} {h1 : H} (t1 : Tk P cx K ops f0 h0 na0 T1 act1 na1 fr1 h1) {x : Nat} (hx : x ∈ rc.x.rd) : vs K f0 (SL listed) x T = getT K fr1 x := by
  rw [t1.frame, eT]
  rw [vs_skip (rc :: T1) T2 fun y hy hS hd => ?_]
  · rw [vs, if_neg (fun e => by rw [hun] at e; exact absurd e.1 (by simp))]
    exact vs_congr T1 fun y hy hd => hB _ ((t.early eT hy).rdW x hd hx)
  · have := (t.later eT hy).rdR x hd hx
    have := iv.clo y (by rw [eT]; simp [hy]) hS _ this
    rw [hun] at this; cases this
include t eT hi iv hlt in
theorem vals_ok {μ' : Mu} {cv : Value} (hle : μ.Le μ') (hv : VR μ' rc.v cv) : ∀ x, VR μ' (vs K f0 (SL (listed.setIfInBounds rc.x.i true)) x T) ((a.put rc.x.o.dst cv).tmps.getD x undef) := by
  intro x
  have hmem : rc ∈ T := by rw [eT]; simp
  by_cases hd : rc.x.o.dst = some x
  · have h1 : vs K f0 (SL (listed.setIfInBounds rc.x.i true)) x T = rc.v := by
      rw [eT, vs_skip (rc :: T1) T2 fun y hy _ hyd => (t.later eT hy).dst x hd hyd, vs, if_pos ⟨sl_same hi, hd⟩]
    rw [h1, hd, getD_put _ _ _ _ (Nat.lt_of_lt_of_le (hlt rc hmem x hd) iv.n), if_pos rfl]
    exact hv
  · have h1 : vs K f0 (SL (listed.setIfInBounds rc.x.i true)) x T = vs K f0 (SL listed) x T := vs_congr T fun y hy hyd => sl_ne fun e => by
      rw [t.uniq hmem hy e] at hd
      exact hd hyd
    rw [h1]
    have h2 : (a.put rc.x.o.dst cv).tmps.getD x undef = a.tmps.getD x undef := by
      cases hd2 : rc.x.o.dst with
      | none => rfl
      | some d =>
        rw [getD_put _ _ _ _ (Nat.lt_of_lt_of_le (hlt rc hmem d hd2) iv.n), if_neg]
        intro e; subst e; exact hd hd2
    rw [h2]
    exact (iv.vals x).mono hle
include t eT iv hB in
theorem clo_ok : ∀ y ∈ T, SL (listed.setIfInBounds rc.x.i true) y.x.i = true → ∀ j, bit y.x.b j = true → SL (listed.setIfInBounds rc.x.i true) j = true := by
  intro y hy hS j hj
  by_cases e : rc.x.i = y.x.i
  · have := t.uniq (by rw [eT]; simp) hy e
    subst this
    exact sl_mono (hB j hj)
  · rw [sl_ne e] at hS
    exact sl_mono (iv.clo y hy hS j hj)
include t eT in
theorem stage_r (hc : isE rc.x.c = false) : stg h0 (SL (listed.setIfInBounds rc.x.i true)) T = stg h0 (SL listed) T :=
  stg_congr T fun y hy hE => sl_ne fun e => by
    rw [t.uniq (by rw [eT]; simp) hy e] at hc
    rw [hE] at hc; cases hc
include t eT iv hun hi in
theorem stage_e (hc : isE rc.x.c = true) : stg h0 (SL (listed.setIfInBounds rc.x.i true)) T = rc.h := by
  rw [eT, stg_skip (rc :: T1) T2 fun y hy hE hS => ?_, stg, if_pos ⟨hc, sl_same hi⟩]
  have hp := t.later eT hy
  rw [sl_ne hp.ne] at hS
  have hpc : pairC y.x.c rc.x.c = true := by
    revert hE hc
    cases y.x.c <;> cases rc.x.c <;> simp [isE, pairC]
  have := iv.clo y (by rw [eT]; simp [hy]) hS _ (hp.cls hpc)
  rw [hun] at this; cases this
include t eT iv hun in
/- a change of what the plan has later has not come -/
theorem later_e (hc : isE rc.x.c = true) {y : Rc} (hy : y ∈ T2) (hE : isE y.x.c = true) : SL listed y.x.i = false := by
  cases hS : SL listed y.x.i with
  | false => rfl
  | true =>
    have hp := t.later eT hy
    have hpc : pairC y.x.c rc.x.c = true := by
      revert hE hc
      cases y.x.c <;> cases rc.x.c <;> simp [isE, pairC]
    have := iv.clo y (by rw [eT]; simp [hy]) hS _ (hp.cls hpc)
    rw [hun] at this; cases this
include t eT hB in
theorem early_e (hc : isE rc.x.c = true) {y : Rc} (hy : y ∈ T1) (hE : isE y.x.c = true ∨ isA y.x.c = true) : SL listed y.x.i = true := by
  have hp := t.early eT hy
  have hpc : pairC rc.x.c y.x.c = true := by
    revert hE hc
    cases y.x.c <;> cases rc.x.c <;> simp [isE, isA, pairC]
  exact hB _ (hp.cls hpc)
include t eT iv hun hB in
/- a reader finds the same -/
theorem read_same {act1 : Act'} {na1 : Nat} {fr1 : Fr} {h1 : H} (t1 : Tk P cx K ops f0 h0 na0 T1 act1 na1 fr1 h1) (ok : EnOk P ops rc.x (T1.map (·.x))) (hc : rc.x.c = .r) (hw : rc.wt = true) {h2 : H}
    (he : runOp P cx rc.x.o rc.args h1 = .ok rc.v h2) (hn : h2.next = h1.next) : runOp P cx rc.x.o rc.args (stg h0 (SL listed) T) = .ok rc.v (stg h0 (SL listed) T) := by
  have hcl : clsOp P false rc.x.o.op = .r := by
    have h3 := ok.cls
    unfold clsOk at h3
    rw [hc] at h3
    simp only at h3
    split at h3
    · assumption
    · cases h3
  have fin : (∃ h3, runOp P cx rc.x.o rc.args (stg h0 (SL listed) T) = .ok rc.v h3 ∧ h3.next = (stg h0 (SL listed) T).next) → runOp P cx rc.x.o rc.args (stg h0 (SL listed) T) = .ok rc.v (stg h0 (SL listed) T) := by
    rintro ⟨h3, q1, q2⟩
    have := r_same (P := P) (cx := cx) (args := rc.args) hcl _ _ q1 q2
    rw [this] at q1
    exact q1
  apply fin
  have hEr : isE rc.x.c = false := by simp [isE, hc]
  rcases stg_last (S := SL listed) T2 with hno | ⟨U2, y, U1, e2, hyE, hyS, hno⟩
  · cases hpu : pureOp rc.x.o.op with
    | true => exact ⟨_, pure_ind (P := P) (cx := cx) (args := rc.args) hpu h1 (stg h0 (SL listed) T) _ _ he, rfl⟩
    | false =>
    have hpd : pendL (T1.map (·.x)) = false := by
      have h3 := ok.pend
      rw [hc] at h3
      simpa [pendOk, nt_eq, hpu] using h3
    have h4 : stg h0 (SL listed) T = h1 := by
      rw [eT, stg_skip (rc :: T1) T2 hno, stg, if_neg (fun e => by rw [hEr] at e; exact absurd e.1 (by simp)), t1.stage hpd]
      refine stg_congr T1 fun z hz hE => hB _ ((t.early eT hz).cls ?_)
      revert hE
      rw [hc]
      cases z.x.c <;> simp [isE, pairC]
    rw [h4]
    exact ⟨h2, he, hn⟩
  · have eT' : T = U2 ++ y :: (U1 ++ rc :: T1) := by rw [eT, e2]; simp
    have h4 : stg h0 (SL listed) T = y.h := by rw [eT', stg_skip _ U2 hno, stg, if_pos ⟨hyE, hyS⟩]
    rw [h4]
    obtain ⟨act2, na2, fr2, h2', act3, na3, h3, t2, ok2, s2⟩ := t.at eT'
    have hm := t2.act_mem rc (by simp) hc hw
    have hb : bit y.x.b rc.x.i = false := by
      cases hb : bit y.x.b rc.x.i with
      | false => rfl
      | true => have := iv.clo y (by rw [eT']; simp) hyS _ hb; rw [hun] at this; cases this
    cases s2 with
    | r hc' => simp [isE, hc'] at hyE
    | rn hc' => simp [isE, hc'] at hyE
    | a hc' => simp [isE, hc'] at hyE
    | e hc' hg he' hre => exact sameR_spec (reOk_spec hre _ hm hb)
    | en hc' hg hre => exact sameR_spec (reOk_spec hre _ hm hb)
include t eT hlt hna iv hun hB hi in
/- behind an operation that is no new place -/
theorem inv_next {g : H} (hg : Ext hh μ0 w0 g μ w) (hgn : h0.next ≤ g.next) (hA : isA rc.x.c = false) {w' : World} {μ' : Mu} {cv : Value} (hx : Ext g μ w (stg h0 (SL (listed.setIfInBounds rc.x.i true)) T) μ' w') (hv : VR μ' rc.v cv)
    (hp : ∀ A ∈ T, isA A.x.c = true → SL listed A.x.i = true → (∀ y ∈ T, isE y.x.c = true → SL (listed.setIfInBounds rc.x.i true) y.x.i = true → bit y.x.b A.x.i = false) → PF g μ w w0 A) :
    Inv ops T K nt f0 h0 hh μ0 w0 ds (listed.setIfInBounds rc.x.i true) (a.put rc.x.o.dst cv) w' μ' := by
  have _ := hun
  have hmem : rc ∈ T := by rw [eT]; simp
  have hsl : ∀ A ∈ T, isA A.x.c = true → SL (listed.setIfInBounds rc.x.i true) A.x.i = SL listed A.x.i := fun A hA' hc => sl_ne fun e => by
    rw [t.uniq hmem hA' e] at hA
    rw [hc] at hA; cases hA
  have hdom : ∀ A ∈ T, isA A.x.c = true → μ' A.na = μ A.na := fun A hA' hc => hx.dom _ (by have := (t.nas.2.1 A hA' hc).2; omega)
  refine ⟨by rw [Array.size_setIfInBounds]; exact iv.size, clo_ok t iv eT hB, hg.trans hx, Nat.le_trans hgn hx.nx, vals_ok t hlt iv eT hi hx.le hv, by rw [putDefers]; exact iv.dfr, by rw [putSize]; exact iv.n, ?_, ?_, ?_, ?_⟩
  · intro A hA' hc hS
    rw [hsl A hA' hc] at hS
    rw [hdom A hA' hc]
    exact iv.un A hA' hc hS
  · intro A hA' hc hS hpd
    rw [hsl A hA' hc] at hS
    exact (hp A hA' hc hS hpd).next hx
  · intro A hA' A' hA2 hc hc' hS hS' hne l l' h1 h2
    rw [hsl A hA' hc] at hS
    rw [hsl A' hA2 hc'] at hS'
    rw [hdom A hA' hc] at h1
    rw [hdom A' hA2 hc'] at h2
    exact iv.dist A hA' A' hA2 hc hc' hS hS' hne l l' h1 h2
  · intro A hA' hc hS l h1
    rw [hsl A hA' hc] at hS
    rw [hdom A hA' hc] at h1
    exact Nat.lt_of_lt_of_le (iv.lt A hA' hc hS l h1) hx.sz
end

end Go.Ev
