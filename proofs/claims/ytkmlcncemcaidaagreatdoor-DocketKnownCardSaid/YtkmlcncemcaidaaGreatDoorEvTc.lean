/- The abstract evaluator: each operation by its kind. -/
import Derived.Test.YtkmlcncemcaidaaGreatDoorEvTb
namespace Go.Ev
variable {P : Program} {w : World} {o : Oper} {a : Act} {next : Act → World → Prop} {Q : Exit → Act → World → Prop}

theorem pure_v (x : Value) : (pure (.value x) : Sem Next) = (do pure (.value (← (pure x : Sem Value)))) := rfl

theorem panic_wp {h : H} {μ : Mu} (hr : HR h μ w) {cx : Cx} {fr : Fr} {v : AV} {cv : Value} (hv : VR μ v cv) {t : Nat} {x : AV} (hi : v = .iface t x) {r : R} (e : cx.hp v fr h = r) (hp : POK h μ w cx fr a Q r)
    (he : (execOp a.eval o).run P w = ((do pure (.value (← Instr.panic cv)) : Sem Next)).run P w) : o.wp P a w next Q := by
  subst hi
  cases hv with | iface _ _ c' hc =>
  unfold Oper.wp
  rw [he]
  have : (Instr.panic (.iface t c')).run P w = .halt (.panic (.iface t c')) w := rfl
  simp only [Sem.run_bind, this, Result.andThen, Oper.upon]
  exact hp _ _ w μ h (.refl hr) (.iface t x c' hc) e

theorem op0_sound {cx : Cx} {fr : Fr} {h : H} {μ : Mu} (hr : HR h μ w) {k : KV} {r : R} (hf : Fin r) (e : op0 o.op o P cx fr h k = r) (hk : KOK h μ w o a next k r) : o.wp P a w next Q := by
  cases hop : o.op <;> rw [hop] at e <;> first | exact hf.no e | skip
  · next el =>
    change aAlloc el o P cx fr h k = r at e
    exact (alloc_sound (P := P) hr hf e).wp hk (by unfold execOp; rw [hop])
  · next t ro =>
    change aMkM t ro o P cx fr h k = r at e
    exact (mkM_sound (P := P) (ρ := a.eval) hr hf e).wp hk (by unfold execOp; rw [hop])

theorem op1_sound {cx : Cx} {fr : Fr} {h : H} {μ : Mu} (hr : HR h μ w) {x : Operand} (ha : arity o.op = .a1 x) {v : AV} (hx : VR μ v (a.eval x)) {k : KV} {r : R} (hf : Fin r) (e : op1 o.op o P cx fr v h k = r)
    (hk : KOK h μ w o a next k r) (hp : POK h μ w cx fr a Q r) : o.wp P a w next Q := by
  cases hop : o.op <;> rw [hop] at e ha <;> first | exact hf.no e | skip
  · next y =>
    change k v h = r at e
    cases ha
    exact Out.wp (s := pure (a.eval x)) (.same hr rfl hx e) hk (by unfold execOp; rw [hop]; rfl)
  · next y =>
    change k v h = r at e
    cases ha
    exact Out.wp (s := pure (a.eval x)) (.same hr rfl hx e) hk (by unfold execOp; rw [hop]; rfl)
  · next el y =>
    cases ha
    change aBox el x o P cx fr v h k = r at e
    unfold aBox at e
    split at e
    · next l hl => exact (box_sound (P := P) hr hx hl e).wp hk (by unfold execOp; rw [hop])
    · exact hf.no e
  · next t y =>
    cases ha
    change onPtr (ldT P t h k) v = r at e
    obtain ⟨b, of, rfl, e⟩ := onPtr_eq hf e
    obtain ⟨L, hL, hc⟩ := hx.ptr_inv
    obtain ⟨v, c, h1, h2, h3⟩ := ldT_sound (P := P) hr hf e hL
    refine val_wp (s := Instr.loadAt t (a.eval x)) hr ⟨v, c, ?_, h2, h3⟩ hk (by unfold execOp; rw [hop])
    rw [hc]; simpa [Instr.loadAt, Instr.sureAddr] using h1
  · next y =>
    cases ha
    change aNil x o P cx fr v h k = r at e
    unfold aNil at e
    split at e
    · next b of =>
      obtain ⟨L, hL, hc⟩ := hx.ptr_inv
      rw [hc] at hx
      exact Out.wp (s := pure (.pointer (some ⟨L.B, L.δ + of, none⟩))) (.same hr rfl hx e) hk (by unfold execOp; rw [hop]; simp only [hc]; rfl)
    · next f first cap =>
      generalize hc : a.eval x = c at hx
      have hx0 := hx
      cases hx with | func _ _ _ first' cap' h1 h2 =>
      exact Out.wp (s := pure (.func (.func f) first' cap')) (.same hr rfl hx0 e) hk (by unfold execOp; rw [hop]; simp only [hc]; rfl)
    · next t y =>
      generalize hc : a.eval x = c at hx
      have hx0 := hx
      cases hx with | iface _ _ c' h1 =>
      exact Out.wp (s := pure (.iface t c')) (.same hr rfl hx0 e) hk (by unfold execOp; rw [hop]; simp only [hc]; rfl)
    · exact hf.no e
  · next op t y =>
    cases ha
    exact val_wp (s := Op.unary op (a.eval x)) hr (unA_sound (P := P) hx hf e) hk (by unfold execOp; rw [hop])
  · next s d y =>
    cases ha
    change aConv s d x o P cx fr v h k = r at e
    unfold aConv at e
    split at e
    · next du hs => exact (convA_sound (P := P) hr hx (by rw [hs]; simp) hf e).wp hk (by unfold execOp; rw [hop])
    · exact hf.no e
  · next t y =>
    cases ha
    change aMkI t x o P cx fr v h k = r at e
    exact (mkI_sound (P := P) hr hx hf e).wp hk (by unfold execOp; rw [hop])
  · next s y i =>
    cases ha
    change aFA s x i o P cx fr v h k = r at e
    unfold aFA at e
    obtain ⟨d, hd, e⟩ := opt hf e
    exact (fieldAddr_sound (P := P) hr hx hd hf e).wp hk (by unfold execOp; rw [hop])
  · next s y i =>
    cases ha
    exact (fieldA_sound (P := P) hr hx hf e).wp hk (by unfold execOp; rw [hop])
  · next t y =>
    cases ha
    exact (rangeA_sound (P := P) hr hx hf e).wp hk (by unfold execOp; rw [hop])
  · next y b =>
    cases ha
    change aNext x b o P cx fr v h k = r at e
    unfold aNext at e
    obtain ⟨hb, e1⟩ := cond_fail' hf e
    subst hb
    exact (nextA_sound (P := P) (ty := o.type) hr hx hf e1).wp hk (by unfold execOp; rw [hop])
  · next y =>
    cases ha
    exact (entA_sound (P := P) hr hx hf e).wp hk (by unfold execOp; rw [hop])
  · next y xt t ok =>
    cases ha
    change aTA x xt t ok o P cx fr v h k = r at e
    exact (tA_sound (P := P) hr hx hf e).wp hk (by unfold execOp; rw [hop])
  · next y i =>
    cases ha
    change aEx x i o P cx fr v h k = r at e
    exact (ex_sound (P := P) hr hx hf e).wp hk (by unfold execOp; rw [hop])
  · next y =>
    cases ha
    change aPanic x o P cx fr v h k = r at e
    unfold aPanic at e
    split at e
    · next t y => exact panic_wp hr hx rfl e hp (by unfold execOp; rw [hop])
    · exact hf.no e

theorem op2_sound {cx : Cx} {fr : Fr} {h : H} {μ : Mu} (hr : HR h μ w) {x y : Operand} (ha : arity o.op = .a2 x y) {u v : AV} (hx : VR μ u (a.eval x)) (hy : VR μ v (a.eval y)) {k : KV} {r : R} (hf : Fin r) (e : op2 o.op o P cx fr u v h k = r)
    (hk : KOK h μ w o a next k r) : o.wp P a w next Q := by
  cases hop : o.op <;> rw [hop] at e ha <;> first | exact hf.no e | skip
  · next t p q =>
    cases ha
    change onPtr (stT P t h v k) u = r at e
    obtain ⟨b, of, rfl, e⟩ := onPtr_eq hf e
    obtain ⟨L, hL, hc⟩ := hx.ptr_inv
    obtain ⟨w', h', h1, h2, h3⟩ := stT_sound (P := P) hr hy hf e hL
    refine unit_wp (s := Instr.storeAt t (a.eval x) (a.eval y)) ⟨w', h', μ, ?_, h2, h3⟩ hk (by unfold execOp; rw [hop])
    rw [hc]; simpa [Instr.storeAt, Instr.sureAddr] using h1
  · next op t p q z =>
    cases ha
    exact val_wp (s := (do eqGuard op t x y (a.eval x) (a.eval y); binOp op t (a.eval x) (a.eval y))) hr (binA_sound (P := P) hr hx hy hf e) hk (by unfold execOp; rw [hop])
  · next t p q =>
    cases ha
    change aMkS t x y o P cx fr u v h k = r at e
    exact (makeSlice_sound (P := P) hr hx hy hf e).wp hk (by unfold execOp; rw [hop])
  · next t p q =>
    cases ha
    change onNat (ixN P t u h k) v = r at e
    obtain ⟨kd, n, rfl, e⟩ := onNat_eq hf e
    generalize hc : a.eval y = c at hy
    cases hy
    exact (ixN_sound (P := P) (kd := kd) hr hx hf e).wp hk (by unfold execOp; rw [hop]; simp only [hc]; rfl)
  · next t p q =>
    cases ha
    change onNat (ixV P t u h k) v = r at e
    obtain ⟨kd, n, rfl, e⟩ := onNat_eq hf e
    generalize hc : a.eval y = c at hy
    cases hy
    exact (ixV_sound (P := P) (kd := kd) hr hx hf e).wp hk (by unfold execOp; rw [hop]; simp only [hc]; rfl)
  · next t p q ok =>
    cases ha
    exact (lookA_sound (P := P) hr hx hy hf e).wp hk (by unfold execOp; rw [hop])
  · next t p q =>
    cases ha
    exact (mentA_sound (P := P) hr hx hy hf e).wp hk (by unfold execOp; rw [hop])

theorem op3_sound {cx : Cx} {fr : Fr} {h : H} {μ : Mu} (hr : HR h μ w) {x y z : Operand} (ha : arity o.op = .a3 x y z) {s u v : AV} (hx : VR μ s (a.eval x)) (hy : VR μ u (a.eval y)) (hz : VR μ v (a.eval z)) {k : KV} {r : R} (hf : Fin r) (e : op3 o.op o P cx fr s u v h k = r)
    (hk : KOK h μ w o a next k r) : o.wp P a w next Q := by
  cases hop : o.op <;> rw [hop] at e ha <;> first | exact hf.no e | skip
  · next p q q' =>
    cases ha
    change aPick x y z o P cx fr s u v h k = r at e
    unfold aPick at e
    split at e
    · next t =>
      generalize hc : a.eval x = c at hx
      cases hx
      cases t with
      | true =>
        refine Out.wp (s := pure (a.eval y)) (.same hr rfl hy e) hk ?_
        unfold execOp; rw [hop]; simp only [hc]; rfl
      | false =>
        refine Out.wp (s := pure (a.eval z)) (.same hr rfl hz e) hk ?_
        unfold execOp; rw [hop]; simp only [hc]; rfl
    · exact hf.no e
  · next t p q q' =>
    cases ha
    obtain ⟨w', h', h1, h2, h3⟩ := updA_sound (P := P) hr hx hy hz hf e
    exact unit_wp (s := Instr.mapUpdate t (a.eval x) (a.eval y) (a.eval z)) ⟨w', h', μ, h1, h2, h3⟩ hk (by unfold execOp; rw [hop])
  · next t p q q' =>
    cases ha
    obtain ⟨w', h', h1, h2, h3⟩ := updA_sound (P := P) hr hx hy hz hf e
    exact unit_wp (s := Instr.mapUpdate t (a.eval x) (a.eval y) (a.eval z)) ⟨w', h', μ, h1, h2, h3⟩ hk (by unfold execOp; rw [hop])
  · next t p q q' =>
    cases ha
    obtain ⟨w', h', h1, h2, h3⟩ := mstoA_sound (P := P) (t := t) hr hx hy hz hf e
    exact unit_wp (s := Instr.entryStore t (a.eval x) (a.eval y) (a.eval z)) ⟨w', h', μ, h1, h2, h3⟩ hk (by unfold execOp; rw [hop])

end Go.Ev
