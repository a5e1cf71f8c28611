/-
  THE START: what the listed package variables hold, as the evaluator has it; the law DocketKnown lifted to what its row asks.
-/
import Derived.Test.YtkmlcncemcaidaaGreatDoorDkB
import Derived.Test.YtkmlcncemcaidaaGreatDoorRows
namespace Go.Proofs.YtkmlcncemcaidaaGreatDoor
open Go Go.Ev Go.ChangeShapes Go.WideShapes Go.ChangeAt Go.RowKit
set_option maxRecDepth 100000
theorem gv0 : Tryz.prog.globalNamed "math/bits.deBruijn32tab" = some 0 := by kernel_rfl
theorem tv0 : (Tryz.prog.globals[0]?).map (·.type) = some 430 := by kernel_rfl
theorem bv0 : ((((begin Tryz.prog (fun _ _ => 0) default).world.heap[0]?).bind Obj.row?).map (·.2)) = some 430 := by kernel_rfl
theorem gv1 : Tryz.prog.globalNamed "math/bits.deBruijn64tab" = some 1 := by kernel_rfl
theorem tv1 : (Tryz.prog.globals[1]?).map (·.type) = some 431 := by kernel_rfl
theorem bv1 : ((((begin Tryz.prog (fun _ _ => 0) default).world.heap[1]?).bind Obj.row?).map (·.2)) = some 431 := by kernel_rfl
theorem gv2 : Tryz.prog.globalNamed "internal/strconv.uint64pow10" = some 2 := by kernel_rfl
theorem tv2 : (Tryz.prog.globals[2]?).map (·.type) = some 537 := by kernel_rfl
theorem bv2 : ((((begin Tryz.prog (fun _ _ => 0) default).world.heap[2]?).bind Obj.row?).map (·.2)) = some 537 := by kernel_rfl
theorem tab_get (k : Nat) (blk : Blk) (h : hT.m.get k = some blk) : (k = 0 ∧ blk = blkT 430 (tabV .u8 tab0)) ∨ (k = 1 ∧ blk = blkT 431 (tabV .u8 tab1)) ∨ (k = 2 ∧ blk = blkT 537 (tabV .u64 tab2)) := by
  unfold hT at h
  simp only [Tr.get_set] at h
  split at h
  · exact .inr (.inr (⟨by assumption, (Option.some.inj h).symm⟩))
  split at h
  · exact .inr (.inl ⟨by assumption, (Option.some.inj h).symm⟩)
  split at h
  · exact .inl ⟨by assumption, (Option.some.inj h).symm⟩
  exfalso
  rw [Tr.get_nil] at h; cases h
theorem start {W : World} (h : laidMetH Tryz.prog Rows.docketKnownRow.laid W) (hs : W.ShapedOpen Tryz.prog) : HR hT mu4096 W ∧ ∀ k blk, hT.m.get k = some blk → RO blk = true := by
  rw [MakeChecks.laidMetH_plain _ _ _ (by kernel_rfl)] at h
  obtain ⟨ps, ⟨g0, t0, cs0, f0, p0, q0, hg0, ht0, hv0, hd0, ⟨g1, t1, cs1, f1, p1, q1, hg1, ht1, hv1, hd1, ⟨g2, t2, cs2, f2, p2, q2, hg2, ht2, hv2, hd2, _, _⟩, _⟩, _⟩, _, _⟩ := h
  obtain rfl := Option.some.inj (gv0.symm.trans hg0)
  obtain rfl := Option.some.inj (gv1.symm.trans hg1)
  obtain rfl := Option.some.inj (gv2.symm.trans hg2)
  obtain rfl := Option.some.inj (tv0.symm.trans ht0)
  obtain rfl := Option.some.inj (tv1.symm.trans ht1)
  obtain rfl := Option.some.inj (tv2.symm.trans ht2)
  have k0 := tab_cells (k := .u8) (ns := tab0) Tryz.underlying430 Tryz.underlying5 (by kernel_rfl) (by kernel_rfl) rfl hd0
  have k1 := tab_cells (k := .u8) (ns := tab1) Tryz.underlying431 Tryz.underlying5 (by kernel_rfl) (by kernel_rfl) rfl hd1
  have k2 := tab_cells (k := .u64) (ns := tab2) Tryz.underlying537 Tryz.underlying125 (by kernel_rfl) (by kernel_rfl) rfl hd2
  have b0 := tab_at (t := 430) (by omega) gv0 hv0 k0 (shaped_cells hs (by kernel_rfl) bv0)
  have b1 := tab_at (t := 431) (by omega) gv1 hv1 k1 (shaped_cells hs (by kernel_rfl) bv1)
  have b2 := tab_at (t := 537) (by omega) gv2 hv2 k2 (shaped_cells hs (by kernel_rfl) bv2)
  refine hr_tabs fun k blk hk => ?_
  rcases tab_get k blk hk with ⟨rfl, rfl⟩ | ⟨rfl, rfl⟩ | ⟨rfl, rfl⟩
  · exact b0
  · exact b1
  · exact b2
theorem law_calls {W : World} (h : laidMetH Tryz.prog Rows.docketKnownRow.laid W) (hs : W.ShapedOpen Tryz.prog) : Calls Tryz.prog 3 #[] W fun e W' => e = .returned (.bool true) ∧ ∀ may, W.keptBut W' may := by
  obtain ⟨hr, hro⟩ := start h hs
  exact tabs_calls (hint := hint) (ov := ovL) (lf := 100000) (n := 200) Tryz.checked.mixed ovL_ok hr hro .nil law_ev
theorem own : ownKnob Tryz.prog.godebug = none := by kernel_rfl
/- the door's own heap meets the condition on the listed variables -/
theorem door_met (os : Os) (args : Array Value) : laidMetH Tryz.prog Rows.docketKnownRow.laid ((World.doorLaid Tryz.prog 400 os).forCall (fun _ _ => 0) ⟨#[], args, []⟩).memory :=
  laidMetH_of_parts3 (fuel := 8) (laidMet_of_run' 8 (by kernel_rfl) (by kernel_rfl)) (by kernel_rfl) (by kernel_rfl)
theorem law_lifted (os : Os) (started : os.Started) (H : Type) (enc : TypeId × Value → H) :
    ReturnsInHanded {} Tryz.checked os 3 .any (fun w args => (Rows.docketKnownSpec.pre enc Tryz.prog Tryz.f3 [] false w args ∧ laidMetH Tryz.prog Rows.docketKnownRow.laid w) ∧ sizedMet enc Tryz.prog Tryz.f3 (OpenSpec.ofChange Rows.docketKnownSpec) false w args)
      (Rows.docketKnownSpec.post enc Tryz.prog Tryz.f3 false true false false) := by
  refine handed_and_shaped (C := Tryz.checked) (X := fun w _ => laidMetH Tryz.prog Rows.docketKnownRow.laid w) (fun _ _ _ hh h => h.of_heap hh) own started (by kernel_rfl) Tryz.func3
    (ChangeSpec.witness_shaped (enc := enc) (C := Tryz.checked) (os := os) (X := fun w _ => laidMetH Tryz.prog Rows.docketKnownRow.laid w) false (World.doorLaid Tryz.prog 400 os) #[] 8 rfl (World.shaped_of_RefB (by kernel_rfl) (by kernel_rfl)) (by kernel_rfl) (by kernel_rfl) (by kernel_rfl) (door_met os _)) ?_
  intro W base args ds gs before _ hW hL hS
  have hargs : args = #[] := by
    have hW' := hW
    obtain ⟨p, q, hA, _⟩ := hW'
    have hA : DataW.TrodAll enc Tryz.prog W 0 (fun _ => true) true Tryz.f3.params.toList args.toList ds p := hA
    rw [Tryz.params3] at hA
    exact (trodAll_none hA).1
  subst hargs
  refine (law_calls hL hS).mono fun e W' ⟨he, hk⟩ => ?_
  exact ⟨_, he, closed_post (t := 4) Tryz.params3 (by kernel_rfl) Tryz.underlying4 rfl rfl hW hk⟩
end Go.Proofs.YtkmlcncemcaidaaGreatDoor
