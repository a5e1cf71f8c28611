/- The abstract evaluator: draw regions, one operation's soundness; values alike. -/
import Derived.Test.YtollekmedaalcaaGreatDoorEvW
namespace Go.Ev
variable {P : Program} {cx : Cx} {K nt : Nat} {ops : Array Oper} {o : Oper} {h : H}

theorem eqLs_eq {f : AV → AV → Bool} (hf : ∀ x y, f x y = true → x = y) : ∀ (l m : List AV), eqLs f l m = true → l = m
  | [], [], _ => rfl
  | a :: l, b :: m, h => by
    unfold eqLs at h
    cases hb : f a b with
    | false => rw [hb] at h; cases h
    | true => rw [hb] at h; rw [hf a b hb, eqLs_eq hf l m h]
  | [], _ :: _, h => by cases h
  | _ :: _, [], h => by cases h
theorem eqI_eq' {a b : Int} (h : eqI a b = true) : a = b := by
  cases a <;> cases b
  · exact congrArg _ (Nat.eq_of_beq_eq_true h)
  · cases h
  · cases h
  · exact congrArg _ (Nat.eq_of_beq_eq_true h)
theorem eqN_eq : ∀ (n : Nat) (x y : AV), eqN n x y = true → x = y
  | 0, _, _, h => by cases h
  | n + 1, x, y, h => by
    unfold eqN at h
    split at h
    · rfl
    · next a b => have : a = b := by simpa using h
                  rw [this]
    · next k a k' b =>
      obtain ⟨h1, h2⟩ := an_true h
      have h1 : k = k' := by simpa using h1
      rw [h1, eqI_eq' h2]
    · rw [Nat.eq_of_beq_eq_true h]
    · obtain ⟨h1, h2⟩ := an_true h
      rw [Nat.eq_of_beq_eq_true h1, Nat.eq_of_beq_eq_true h2]
    · rfl
    · obtain ⟨h1, h2⟩ := an_true h
      rw [Nat.eq_of_beq_eq_true h1, Nat.eq_of_beq_eq_true h2]
    · obtain ⟨h1, h2⟩ := an_true h
      obtain ⟨h2, h3⟩ := an_true h2
      obtain ⟨h3, h4⟩ := an_true h3
      rw [Nat.eq_of_beq_eq_true h1, Nat.eq_of_beq_eq_true h2, Nat.eq_of_beq_eq_true h3, Nat.eq_of_beq_eq_true h4]
    · obtain ⟨h1, h2⟩ := an_true h
      obtain ⟨h2, h3⟩ := an_true h2
      obtain ⟨h3, h4⟩ := an_true h3
      rw [Nat.eq_of_beq_eq_true h1, Nat.eq_of_beq_eq_true h2, Nat.eq_of_beq_eq_true h3, Nat.eq_of_beq_eq_true h4]
    · rfl
    · rw [Nat.eq_of_beq_eq_true h]
    · rfl
    · obtain ⟨h1, h2⟩ := an_true h
      obtain ⟨h2, h3⟩ := an_true h2
      rw [Nat.eq_of_beq_eq_true h1, eqLs_eq (eqN_eq n) _ _ h2, eqLs_eq (eqN_eq n) _ _ h3]
    · rfl
    · obtain ⟨h1, h2⟩ := an_true h
      rw [Nat.eq_of_beq_eq_true h1, eqN_eq n _ _ h2]
    · rfl
    · rw [eqLs_eq (eqN_eq n) _ _ h]
    · rw [eqLs_eq (eqN_eq n) _ _ h]
    · cases h
theorem sameR_spec {v : AV} {r : R} (e : sameR v h r = true) : ∃ h', r = .ok v h' ∧ h'.next = h.next := by
  unfold sameR at e
  split at e
  · obtain ⟨h1, h2⟩ := an_true e
    rw [← eqN_eq 20 _ _ h2]
    exact ⟨_, rfl, Nat.eq_of_beq_eq_true h1⟩
  · cases e
theorem reOk_spec {b : Nat} : ∀ {act : Act'}, reOk P cx b h act = true → ∀ p ∈ act, bit b p.1.i = false → sameR p.2.2 h (runOp P cx p.1.o p.2.1 h) = true
  | [], _, p, hp, _ => by cases hp
  | (x, args, v) :: l, e, p, hp, hb => by
    unfold reOk at e
    cases hx : bit b x.i with
    | true =>
      rw [hx] at e
      rcases List.mem_cons.1 hp with h1 | h1
      · subst h1; rw [hx] at hb; cases hb
      · exact reOk_spec e p h1 hb
    | false =>
      rw [hx] at e
      simp only [cond_false] at e
      cases hs : sameR v h (runOp P cx x.o args h) with
      | false => rw [hs] at e; cases e
      | true =>
        rw [hs] at e
        rcases List.mem_cons.1 hp with h1 | h1
        · subst h1; exact hs
        · exact reOk_spec e p h1 hb

section
variable {a : Act} {μ : Mu} {w : World} {args : List AV} {v : AV} {h' : H} {next : Act → World → Prop} {Q : Exit → Act → World → Prop}
theorem runOp_sound (hc : CallOK P cx.call) (hov : OvOK P cx.ov) (hhp : ∀ v f h, ∃ s, cx.hp v f h = .fail s) (hr : HR h μ w) (hv : VRs μ args ((opnds o).map a.eval)) (e : runOp P cx o args h = .ok v h')
    (hk : ∀ cv w' μ', Ext h μ w h' μ' w' → VR μ' v cv → next (a.put o.dst cv) w') : o.wp P a w next Q := by
  have hf : Fin (.ok v h') := fun s hs => by cases hs
  have kok : KOK h μ w o a next okK (.ok v h') := fun v1 cv w' μ' h1 e1 e2 e3 => by
    cases e3
    exact hk cv w' μ' e1 e2
  have pok : POK h μ w cx fr0 a Q (.ok v h') := fun v1 cv w' μ' h1 _ _ e3 => by
    obtain ⟨s, hs⟩ := hhp v1 fr0 h1
    rw [hs] at e3; cases e3
  unfold runOp at e
  unfold opnds at hv
  cases har : arity o.op with
  | a0 =>
    rw [har] at e hv
    cases hv
    exact op0_sound hr hf e kok
  | a1 x =>
    rw [har] at e hv
    cases hv with | cons v1 _ _ _ h1 hs =>
    cases hs
    exact op1_sound hr har h1 hf e kok pok
  | a2 x y =>
    rw [har] at e hv
    cases hv with | cons v1 _ _ _ h1 hs =>
    cases hs with | cons v2 _ _ _ h2 hs =>
    cases hs
    exact op2_sound hr har h1 h2 hf e kok
  | a3 x y z =>
    rw [har] at e hv
    cases hv with | cons v1 _ _ _ h1 hs =>
    cases hs with | cons v2 _ _ _ h2 hs =>
    cases hs with | cons v3 _ _ _ h3 hs =>
    cases hs
    exact op3_sound hr har h1 h2 h3 hf e kok
  | al l =>
    rw [har] at e hv
    rw [arity_al har] at hv
    refine opL_sound hc hov hr hv hf ?_ kok pok
    · rw [← e]
      cases args with
      | nil => rfl
      | cons => rfl
end

end Go.Ev
