/- The abstract evaluator: laws that begin with tables in the package variables, and with arguments of which nothing is known. -/
import Derived.Test.YtkmlcncemcaidaaGreatDoorEvG
import Derived.LaidMore
import Derived.OpenShut
import Derived.MakeChecks
namespace Go.Ev
open Go.ChangeShapes Go.WideShapes Go.ChangeAt Go.RowKit

def tabV (k : IntKind) (l : List Nat) : List AV := l.map fun n => .int k (.ofNat n)
noncomputable def blkT (ty : Nat) (l : List AV) : Blk := .cells ty l.length [] (listTr l) (l.length + 2) true
theorem tabV_VRs (μ : Mu) (k : IntKind) : ∀ l : List Nat, VRs μ (tabV k l) (l.map fun n => Value.int k (.ofNat n))
  | [] => .nil
  | n :: l => .cons _ _ _ _ (.int k (.ofNat n)) (tabV_VRs μ k l)
/- what a listed table of numbers says of the heap -/
theorem tab_cells {P : Program} {W : World} {enc : TypeId × Value → Unit} {base : Nat} {sp : Nat → Bool} {held : Bool} {t e : TypeId} {k : IntKind} {f N : Nat} {cs : List Value} {ns : List Nat} {p : List MemPlace} (ht : P.underlying t = some (.array N e)) (he : P.underlying e = some (.int k)) (hc : P.cellsOf e = 1) (hct : P.cellsOf t = ns.length) (hN : N = ns.length)
    (hd : DataW.trod enc P W base sp held f t cs = some (.agg (ns.map fun n => .lit (.int k (.ofNat n))), p)) : cs = ns.map fun n => Value.int k (.ofNat n) := by
  obtain ⟨xs, m, _, hx, hlen, hn, hel⟩ := DataW.trod_array ht hd
  simp only [Prod.mk.injEq, DataW.agg.injEq] at hx
  rw [hct] at hlen
  apply List.ext_getElem
  · simp [hlen]
  · intro i h1 h2
    have hi : i < ns.length := by rw [← hlen]; exact h1
    have h3 := hel i (by omega)
    rw [hc, Nat.mul_one] at h3
    have hxi : i < xs.length := by omega
    rw [List.getElem?_eq_getElem hxi] at h3
    obtain ⟨n, q1, q2, _⟩ := DataW.trod_int he h3
    have h4 : (cs.drop i).take 1 = [cs[i]] := by
      rw [List.drop_eq_getElem_cons h1, List.take_succ_cons, List.take_zero]
    rw [h4] at q1
    have q1 : cs[i] = .int k n := by simpa using q1
    have h5 := congrArg (fun l => l[i]?) hx.1
    simp only [List.getElem?_map, List.getElem?_eq_getElem hxi, List.getElem?_eq_getElem hi, Option.map_some, q2, Option.some.injEq, DataW.lit.injEq, Lit.int.injEq, true_and] at h5
    rw [q1, ← h5]
    simp
theorem var_heap {P : Program} {W : World} {n : String} {g : Nat} {cs : Array Value} (hg : P.globalNamed n = some g) (h : W.var? P n = some cs) : ∃ ty fr, W.heap[g]? = some (.cells cs ty fr) := by
  simp only [World.var?, hg, Option.bind_some] at h
  split at h
  · next c ty fr hh => cases h; exact ⟨ty, fr, hh⟩
  · cases h
/- a start whose blocks are tables -/
def TabAt (W : World) (b : Nat) (blk : Blk) : Prop := b < 4096 ∧ ∃ ty l cs fr, blk = blkT ty l ∧ VRs mu4096 l cs.toList ∧ (∀ x ∈ cs.toList, one x = true) ∧ W.heap[b]? = some (.cells cs ty fr)
theorem hr_tabs {m : Tr Blk} {W : World} (hm : ∀ b blk, m.get b = some blk → TabAt W b blk) : HR ⟨4096, m⟩ mu4096 W ∧ ∀ b blk, m.get b = some blk → RO blk = true := by
  have hmu : ∀ b, b < 4096 → mu4096 b = some ⟨b, 0, 0, 0⟩ := fun b hb => by simp [mu4096, hb]
  refine ⟨⟨fun b blk h => ?_, fun b b' blk blk' l l' h h' e1 e2 e3 => ?_, fun b hb => ?_, fun g hg => ⟨_, hmu g hg, rfl, rfl⟩⟩, fun b blk h => ?_⟩
  · obtain ⟨hb, ty, l, cs, fr, rfl, hv, h1, hh⟩ := hm b blk h
    have hlen := hv.length
    have hlen : l.length = cs.size := by simpa using hlen
    refine ⟨_, hmu b hb, (Array.getElem?_eq_some_iff.1 hh).1, cs, fr, hh, by simp [hlen], by simp, fun _ => ⟨rfl, hlen.symm⟩, fun i hi => ?_, one_ix h1 _, (fun h0 => by cases h0), fun j hj hj' => by have hj : 0 + (l.length + 2) ≤ j + 1 := hj; omega⟩
    obtain ⟨x, q1, q2⟩ := list_cells (d := []) hv i hi
    exact ⟨x, by simpa using q1, q2⟩
  · obtain ⟨hb, _⟩ := hm b blk h
    obtain ⟨hb', _⟩ := hm b' blk' h'
    rw [hmu b hb] at e1
    rw [hmu b' hb'] at e2
    cases e1; cases e2
    exact e3
  · have : ¬ b < 4096 := Nat.not_lt.2 hb
    simp [mu4096, this]
  · obtain ⟨hb, ty, l, cs, fr, rfl, _⟩ := hm b blk h
    exact Nat.ble_eq_true_of_le (Nat.le_refl _)
theorem kept_of_tabs {h0 h' : H} {μ' : Mu} {W W' : World} (hro : ∀ b blk, h0.m.get b = some blk → RO blk = true) (hx : Ext h0 mu4096 W h' μ' W') (may : MemPlace → Prop) : W.keptBut W' may := by
  refine ⟨hx.io.1, hx.io.2, fun i hi => ?_⟩
  have hk : W'.heap[i]? = W.heap[i]? := hx.keep i hi fun ⟨b, blk, l, h1, h2, _⟩ => by
    rw [hro b blk h1] at h2; cases h2
  rw [hk]
  cases hh : W.heap[i]? with
  | none => rfl
  | some o => cases o <;> simp
theorem tabs_calls {P : Program} {hint : Nat → Nat} {ov : Nat → Option (List AV → H → R)} {lf n : Nat} {f : FuncId} (hm : P.follows .mixedOrders = true) (hov : OvOK P ov) {h0 : H} {W : World} (hr : HR h0 mu4096 W) (hro : ∀ b blk, h0.m.get b = some blk → RO blk = true)
    {args : List AV} {cargs : Array Value} (hv : VRs mu4096 args cargs.toList) (he : okTrue (evCall P hint ov lf n f args h0) = true) : Calls P f cargs W fun e W' => e = .returned (.bool true) ∧ ∀ may, W.keptBut W' may := by
  generalize hr : evCall P hint ov lf n f args h0 = r at he
  have hf : Fin r := fun s hs => by subst hs; cases he
  refine (eval_sound hm hov n f args h0 mu4096 W cargs r ‹_› hv hr hf).mono fun e W' h => ?_
  cases e with
  | returned cv =>
    obtain ⟨v, h', μ', h1, h2, h3⟩ := h
    subst h1
    unfold okTrue at he
    split at he
    · next b g hb =>
      cases hb
      subst he
      cases h3
      exact ⟨rfl, kept_of_tabs hro h2⟩
    · cases he
  | panicked chain =>
    obtain ⟨v, cv, h', μ', h1, _⟩ := h
    subst h1
    cases he
  | outgrown => exact h.elim

end Go.Ev
