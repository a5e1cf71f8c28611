/- The abstract evaluator: laws that take nothing. -/
import Derived.Test.YtkmlcncemcaidaaGreatDoorEvF
import Derived.ProofKit
namespace Go.Ev
open Go.ChangeShapes Go.WideShapes Go.ChangeAt Go.RowKit

noncomputable def okTrue (r : R) : Bool := match r with | .ok (.bool b) _ => b | _ => false
def h4096 : H := ⟨4096, .nil⟩
def mu4096 : Mu := fun g => if g < 4096 then some ⟨g, 0, 0, 0⟩ else none
theorem hr4096 (W : World) : HR h4096 mu4096 W := by
  refine ⟨fun b blk h => ?_, fun b b' blk blk' l l' h => ?_, fun b hb => ?_, fun g hg => ⟨⟨g, 0, 0, 0⟩, by simp [mu4096, hg], rfl, rfl⟩⟩
  · change (Tr.nil : Tr Blk).get b = some blk at h
    rw [Tr.get_nil] at h; cases h
  · change (Tr.nil : Tr Blk).get b = some blk at h
    rw [Tr.get_nil] at h; cases h
  · have : ¬ b < 4096 := Nat.not_lt.2 hb
    simp [mu4096, this]
theorem kept_of_ext {h' : H} {μ' : Mu} {W W' : World} (hx : Ext h4096 mu4096 W h' μ' W') (may : MemPlace → Prop) : W.keptBut W' may := by
  refine ⟨hx.io.1, hx.io.2, fun i hi => ?_⟩
  have hk : W'.heap[i]? = W.heap[i]? := hx.keep i hi fun ⟨b, blk, l, h1, _⟩ => by
    change (Tr.nil : Tr Blk).get b = some blk at h1
    rw [Tr.get_nil] at h1; cases h1
  rw [hk]
  cases hh : W.heap[i]? with
  | none => rfl
  | some o => cases o <;> simp
theorem closed_calls {P : Program} {hint : Nat → Nat} {ov : Nat → Option (List AV → H → R)} {lf n : Nat} {f : FuncId} (hm : P.follows .mixedOrders = true) (hov : OvOK P ov)
    (he : okTrue (evCall P hint ov lf n f [] h4096) = true) (W : World) : Calls P f #[] W fun e W' => e = .returned (.bool true) ∧ ∀ may, W.keptBut W' may := by
  generalize hr : evCall P hint ov lf n f [] h4096 = r at he
  have hf : Fin r := fun s hs => by subst hs; cases he
  refine (eval_sound hm hov n f [] h4096 mu4096 W #[] r (hr4096 W) .nil hr hf).mono fun e W' h => ?_
  cases e with
  | returned cv =>
    obtain ⟨v, h', μ', h1, h2, h3⟩ := h
    subst h1
    unfold okTrue at he
    split at he
    · next b g hb =>
      cases hb
      subst he
      cases h3
      exact ⟨rfl, kept_of_ext h2⟩
    · cases he
  | panicked chain =>
    obtain ⟨v, cv, h', μ', h1, _⟩ := h
    subst h1
    cases he
  | outgrown => exact h.elim
theorem closed_post {H : Type} {enc : TypeId × Value → H} {P : Program} {f : Func} {s : ChangeSpec} {apart fresh handsOn : Bool} {W W' : World} {t : TypeId} {ds gs : List (DataW H)} {before : List MemPlace} (hp : f.params = #[]) (hr : f.resultTypes = #[t]) (ht : P.underlying t = some .bool)
    (hsv : s.vars = []) (hfn : s.fn H [] = { results := [.lit (.bool true)], args := [] }) (hW : DataW.Whole enc P f.params.toList s.vars apart W (#[] : Array Value).toList ds gs before) (hk : ∀ may, W.keptBut W' may) :
    s.post enc P f apart fresh handsOn false W #[] (.bool true) W' := by
  have hW' := hW
  obtain ⟨p, q, hA, hV, rfl, hfz, hnd⟩ := hW
  rw [hp] at hA
  rw [hsv] at hV
  obtain ⟨_, rfl, rfl⟩ := trodAll_none hA
  obtain ⟨rfl, rfl⟩ := trodVars_none hV
  refine ⟨[], [], [], [], [], [], by simpa using hW', ?_, ?_, ?_, hk _, fun h => by cases h⟩
  · rw [List.append_nil, hfn, hr]
    exact trodAll_mk1 (shut_bool ht true)
  · rw [List.append_nil, hfn, hp]
    rfl
  · rw [List.append_nil, hfn, hsv]
    rfl

end Go.Ev
