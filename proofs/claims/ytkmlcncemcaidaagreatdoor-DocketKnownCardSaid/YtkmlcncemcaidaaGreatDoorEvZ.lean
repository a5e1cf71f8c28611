/- The abstract evaluator: the start of a law: the tables in the package variables, with the types of their blocks (out of the world's shape). -/
import Derived.Test.YtkmlcncemcaidaaGreatDoorEvI
import Derived.Test.YtkmlcncemcaidaaGreatDoorEvJ
import Derived.HandedShaped
namespace Go.Ev
open Go.ChangeShapes Go.WideShapes Go.ChangeAt Go.RowKit

theorem handed_and_shaped {H : Type} {enc : TypeId × Value → H} {a : Assume} {C : Checked} {os : Os} {f : FuncId} {fn : Func} {s : ChangeSpec} {conds : List PathCond} {apart fresh handsOn again : Bool} {X : World → Array Value → Prop}
    (hX : ∀ (w w' : World) (args : Array Value), w.heap = w'.heap → X w args → X w' args)
    (own : ownKnob C.prog.godebug = none) (started : os.Started) (noInit : C.prog.inits.idxOf? f = none) (hfn : C.prog.funcs[f]? = some fn)
    (witness : ∃ (w : World) (tape : Tape) (i : Input), w.os = os ∧ (w.forCall tape i).Shaped C.prog ∧ i.vars = [] ∧ Input.okWide C.prog (w.forCall tape i) .any w.heap.size f i ∧
      ((s.pre enc C.prog fn conds apart (w.forCall tape i).memory i.args ∧ X (w.forCall tape i).memory i.args) ∧ sizedMet enc C.prog fn (OpenSpec.ofChange s) apart (w.forCall tape i).memory i.args) ∧ a.holds C.prog (lone (Frame.enter C.prog f i.args .normal) [] (w.forCall tape i)))
    (contract : ∀ (W : World) (base : Nat) (args : Array Value) (ds gs : List (DataW H)) (before : List MemPlace),
      (∀ (j : Nat) t v, fn.params[j]? = some t → args[j]? = some v → Value.okWide C.prog W .any base t v) →
      DataW.Whole enc C.prog fn.params.toList s.vars apart W args.toList ds gs before → X W args → W.ShapedOpen C.prog →
      Calls C.prog f args W fun e W' => ∃ v, e = .returned v ∧ s.post enc C.prog fn apart fresh handsOn again W args v W') :
    ReturnsInHanded a C os f .any (fun w args => (s.pre enc C.prog fn conds apart w args ∧ X w args) ∧ sizedMet enc C.prog fn (OpenSpec.ofChange s) apart w args) (s.post enc C.prog fn apart fresh handsOn again) := by
  refine returnsInHanded_of_calls own started noInit witness ?_
  intro w tape i _ hsh _ hok hpre _
  obtain ⟨_, _, _, fn', hfn', _, _, _, _, hval⟩ := hok
  have e : fn' = fn := Option.some.inj (hfn'.symm.trans hfn)
  subst e
  obtain ⟨⟨⟨ds, gs, before, hw, _⟩, hx⟩, _⟩ := hpre
  have hw' := DataW.Whole.of_heap (w' := w.forCall tape i) (by rfl) hw
  refine (contract (w.forCall tape i) w.heap.size i.args ds gs before hval hw' (hX _ _ _ (by rfl) hx) hsh).mono fun e W' ⟨v, he, hp⟩ => ?_
  subst he
  exact ChangeSpec.post_blind hp
theorem shaped_cells {P : Program} {w : World} (h : w.ShapedOpen P) {g t : Nat} (hg : Nat.blt g P.globals.size = true) (hz : ((((begin P (fun _ _ => 0) default).world.heap[g]?).bind Obj.row?).map (·.2)) = some t) : ∃ cs, w.heap[g]? = some (.cells cs t) := by
  obtain ⟨⟨zero, t'⟩, h1, h2⟩ := Option.map_eq_some_iff.1 hz
  have h2 : t' = t := h2
  subst h2
  obtain ⟨cs, h3, _⟩ := h.1 g zero t' (Nat.le_of_ble_eq_true hg) h1
  exact ⟨cs, h3⟩
theorem tab_at {P : Program} {W : World} {k : IntKind} {g t : Nat} {cs : Array Value} {ns : List Nat} {nm : String} (hlt : g < 4096) (hg : P.globalNamed nm = some g) (hv : W.var? P nm = some cs) (hc : cs.toList = ns.map fun n => Value.int k (.ofNat n))
    (hs : ∃ cs, W.heap[g]? = some (.cells cs t)) : TabAt W g (blkT t (tabV k ns)) := by
  obtain ⟨ty, fr, hh⟩ := var_heap hg hv
  obtain ⟨cs', h2⟩ := hs
  rw [h2] at hh
  cases hh
  refine ⟨hlt, t, _, cs, (0, 0), rfl, by rw [hc]; exact tabV_VRs _ k ns, fun x hx => ?_, h2⟩
  rw [hc] at hx
  obtain ⟨n, _, rfl⟩ := List.mem_map.1 hx
  rfl

end Go.Ev
