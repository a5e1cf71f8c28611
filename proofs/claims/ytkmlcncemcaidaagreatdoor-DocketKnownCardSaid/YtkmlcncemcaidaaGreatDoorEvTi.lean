/- The abstract evaluator: code. -/
import Derived.Test.YtkmlcncemcaidaaGreatDoorEvWe
import Derived.LoopN
import Derived.Scope
namespace Go.Ev
variable {P : Program} {cx : Cx} {K nt : Nat} {r : R}

theorem ndk_spec (K nt : Nat) : ∀ (l : List Oper) (m : Nat), ndk K nt l m = true → (kf K l).Nodup ∧ (∀ d ∈ kf K l, bit m d = false) ∧ ∀ d ∈ dsts l, d < nt
  | [], m, _ => ⟨by simp [kf, dsts], by simp [kf, dsts], by simp [dsts]⟩
  | o :: l, m, h => by
    simp only [ndk] at h
    have hc : o :: l = [o] ++ l := rfl
    rw [hc, kf_append, dsts_append]
    cases hd : o.dst with
    | none =>
      rw [hd] at h
      have h1 : dsts [o] = [] := by simp [dsts, hd]
      have h2 : kf K [o] = [] := by simp [kf, h1]
      rw [h1, h2]
      exact ndk_spec K nt l m h
    | some d =>
      rw [hd] at h
      have h1 : dsts [o] = [d] := by simp [dsts, hd]
      rw [h1]
      simp only at h
      cases hlt : Nat.blt d nt with
      | false => rw [hlt] at h; cases h
      | true =>
        rw [hlt] at h
        have hlt : d < nt := Nat.le_of_ble_eq_true hlt
        simp only [cond_true] at h
        cases hb : bit K d with
        | true =>
          rw [hb] at h
          have h2 : kf K [o] = [] := by simp [kf, h1, hb]
          rw [h2]
          obtain ⟨q1, q2, q3⟩ := ndk_spec K nt l m h
          exact ⟨q1, q2, fun t ht => by
            rcases List.mem_append.1 ht with ht | ht
            · rw [List.mem_singleton.1 ht]; exact hlt
            · exact q3 t ht⟩
        | false =>
          rw [hb] at h
          simp only [cond_false] at h
          cases hm : bit m d with
          | true => rw [hm] at h; cases h
          | false =>
            rw [hm] at h
            have h2 : kf K [o] = [d] := by simp [kf, h1, hb]
            rw [h2]
            obtain ⟨q1, q2, q3⟩ := ndk_spec K nt l _ h
            refine ⟨?_, fun t ht => ?_, fun t ht => ?_⟩
            · rw [List.singleton_append, List.nodup_cons]
              refine ⟨fun hmem => ?_, q1⟩
              have := q2 d hmem
              rw [bit_set] at this
              simp at this
            · rcases List.mem_append.1 ht with ht | ht
              · rw [List.mem_singleton.1 ht]; exact hm
              · have := q2 t ht
                rw [bit_set] at this
                simp only [Bool.or_eq_false_iff] at this
                exact this.1
            · rcases List.mem_append.1 ht with ht | ht
              · rw [List.mem_singleton.1 ht]; exact hlt
              · exact q3 t ht

inductive ExR : Ex → Exit → Prop
  | normal : ExR .normal .normal
  | exit (i : Nat) : ExR (.exit i) (.exit i)
  | ret : ExR .ret .ret
def KEK (Q : Exit → Act → World → Prop) (K nt : Nat) (r : R) (k : KE) (h : H) (μ : Mu) (w : World) : Prop :=
  ∀ e e' f' a' h' μ' w', ExR e e' → Ext h μ w h' μ' w' → FR K nt μ' f' a' → k e f' h' = r → Q e' a' w'
theorem KEK.ext {Q : Exit → Act → World → Prop} {k : KE} {h h' : H} {μ μ' : Mu} {w w' : World} (hk : KEK Q K nt r k h μ w) (hx : Ext h μ w h' μ' w') : KEK Q K nt r k h' μ' w' :=
  fun e e' f' a' h'' μ'' w'' e1 e2 e3 e4 => hk e e' f' a' h'' μ'' w'' e1 (hx.trans e2) e3 e4

variable (P cx K nt r) in
def CodeS (c : Code) : Prop := ∀ (Q : Exit → Act → World → Prop) f a h μ w (k : KE), FR K nt μ f a → HR h μ w → PanicR Q cx K nt r h μ w → KEK Q K nt r k h μ w → evC c P cx f h k = r → c.wp P Q a w

section
variable (hm : P.follows .mixedOrders = true) (hf : Fin r) (hc : CallOK P cx.call) (hov : OvOK P cx.ov) (hK : cx.K = K)
include hm hf hc hov hK
theorem code_sound : ∀ (c : Code), codeOk K nt c = true → CodeS P cx K nt r c
  | .skip, _ => fun Q f a h μ w k hfr hr hp hk e => wp_skip (hk .normal .normal f a h μ w .normal (.refl hr) hfr e)
  | .exit id, _ => fun Q f a h μ w k hfr hr hp hk e => wp_exit (hk (.exit id) _ f a h μ w (.exit id) (.refl hr) hfr e)
  | .ret, _ => fun Q f a h μ w k hfr hr hp hk e => wp_ret (hk .ret _ f a h μ w .ret (.refl hr) hfr e)
  | .label l, _ => fun Q f a h μ w k hfr hr hp hk e => wp_label (hk .normal .normal f a h μ w .normal (.refl hr) hfr e)
  | .region id ops d, hok => fun Q f a h μ w k hfr hr hp hk e => by
    simp only [codeOk] at hok
    obtain ⟨q1, _, q3⟩ := ndk_spec K nt ops.toList 0 hok
    cases d with
    | true =>
      change kDraw ops P cx f h k = r at e
      exact draw_sound (nt := nt) hm hf hc hov hK q3 hfr hr e fun f' a' h' μ' w' e1 e2 e3 => hk .normal .normal f' a' h' μ' w' .normal e1 e2 e3
    | false =>
      change evF (forest cx.K ops) P cx ⟨[], f.t, f.d⟩ h (normK k) = r at e
      rw [hK] at e
      exact region_sound (nt := nt) hf hc hov hK q1 q3 hfr hr hp e fun f' a' h' μ' w' e1 e2 e3 => hk .normal .normal f' a' h' μ' w' .normal e1 e2 e3
  | .seq x y, hok => fun Q f a h μ w k hfr hr hp hk e => by
    simp only [codeOk] at hok
    cases hx : codeOk K nt x with
    | false => rw [hx] at hok; cases hok
    | true =>
      rw [hx] at hok
      change evC x P cx f h (seqK (evC y) P cx k) = r at e
      refine wp_seq (code_sound x hx _ f a h μ w _ hfr hr (fun f v cv a' h' μ' w' e1 e2 e3 e4 => hp f v cv a' h' μ' w' e1 e2 e3 e4) (fun e e' f' a' h' μ' w' e1 e2 e3 e4 => ?_) e)
      cases e1 with
      | normal => exact code_sound y hok Q f' a' h' μ' w' k e3 e2.hr (hp.ext e2) (hk.ext e2) e4
      | exit i => exact hk (.exit i) _ f' a' h' μ' w' (.exit i) e2 e3 e4
      | ret => exact hk .ret _ f' a' h' μ' w' .ret e2 e3 e4
  | .cond x y z, hok => fun Q f a h μ w k hfr hr hp hk e => by
    simp only [codeOk] at hok
    cases hx : codeOk K nt y with
    | false => rw [hx] at hok; cases hok
    | true =>
      rw [hx] at hok
      change condV (evC y) (evC z) P cx f h k (evX x cx.K f) = r at e
      have hv := hfr.v.evX hr.gm x
      rw [← hK] at hv
      unfold condV at e
      split at e
      · next t ht =>
        rw [ht] at hv
        have hcv : a.eval x = .bool t := by
          generalize hh : a.eval x = c at hv
          cases hv; rfl
        refine wp_cond hcv ?_
        cases t with
        | true => exact code_sound y hx Q f a h μ w k hfr hr hp hk e
        | false => exact code_sound z hok Q f a h μ w k hfr hr hp hk e
      · exact hf.no e
  | .block id b, hok => fun Q f a h μ w k hfr hr hp hk e => by
    simp only [codeOk] at hok
    change evC b P cx f h (blkE id k) = r at e
    refine wp_block (code_sound b hok _ f a h μ w _ hfr hr (fun f v cv a' h' μ' w' e1 e2 e3 e4 => hp f v cv a' h' μ' w' e1 e2 e3 e4) (fun e e' f' a' h' μ' w' e1 e2 e3 e4 => ?_) e)
    cases e1 with
    | normal => exact hk .normal _ f' a' h' μ' w' .normal e2 e3 e4
    | ret => exact hk .ret _ f' a' h' μ' w' .ret e2 e3 e4
    | exit i =>
      change (Bool.rec (k (.exit i) f' h') (k .normal f' h') (Nat.beq i id) : R) = r at e4
      show if i = id then Q .normal a' w' else Q (.exit i) a' w'
      cases hb : Nat.beq i id with
      | true => rw [hb] at e4; rw [if_pos (Nat.eq_of_beq_eq_true hb)]; exact hk .normal _ f' a' h' μ' w' .normal e2 e3 e4
      | false =>
        rw [hb] at e4
        rw [if_neg (fun e => by subst e; simp at hb)]
        exact hk (.exit i) _ f' a' h' μ' w' (.exit i) e2 e3 e4
  | .loop b, hok => fun Q f a h μ w k hfr hr hp hk e => by
    simp only [codeOk] at hok
    change loopN (evC b) P cx k cx.lf f h = r at e
    have key : ∀ n f a h μ w, FR K nt μ f a → HR h μ w → PanicR Q cx K nt r h μ w → KEK Q K nt r k h μ w → loopN (evC b) P cx k n f h = r → Code.rounds P b Q n a w := by
      intro n
      induction n with
      | zero => intro f a h μ w _ _ _ _ e; exact hf.no e
      | succ n ih =>
        intro f a h μ w hfr hr hp hk e
        change evC b P cx f h (lpK (loopN (evC b) P cx k n) k) = r at e
        refine code_sound b hok _ f a h μ w _ hfr hr (fun f v cv a' h' μ' w' e1 e2 e3 e4 => hp f v cv a' h' μ' w' e1 e2 e3 e4) (fun e e' f' a' h' μ' w' e1 e2 e3 e4 => ?_) e
        cases e1 with
        | normal => exact ih f' a' h' μ' w' e3 e2.hr (hp.ext e2) (hk.ext e2) e4
        | exit i => exact hk (.exit i) _ f' a' h' μ' w' (.exit i) e2 e3 e4
        | ret => exact hk .ret _ f' a' h' μ' w' .ret e2 e3 e4
    exact wp_loop_rounds cx.lf (key _ f a h μ w hfr hr hp hk e)
  | .rangeFunc .., _ => fun Q f a h μ w k hfr hr hp hk e => hf.no e
  | .scope b, hok => fun Q f a h μ w k hfr hr hp hk e => by
    simp only [codeOk] at hok
    change evC b P cx f h k = r at e
    refine wp_scope_straight (code_sound b hok _ f a h μ w _ hfr hr (fun f v cv a' h' μ' w' e1 e2 e3 e4 => hp f v cv a' h' μ' w' e1 e2 e3 e4) (fun e e' f' a' h' μ' w' e1 e2 e3 e4 => ?_) e)
    cases e1 with
    | normal => exact hk .normal _ f' a' h' μ' w' .normal e2 e3 e4
    | exit i => exact hk (.exit i) _ f' a' h' μ' w' (.exit i) e2 e3 e4
    | ret => exact hk .ret _ f' a' h' μ' w' .ret e2 e3 e4
  | .goto _, _ => fun Q f a h μ w k hfr hr hp hk e => hf.no e
  | .refuse _, _ => fun Q f a h μ w k hfr hr hp hk e => hf.no e
end

end Go.Ev
