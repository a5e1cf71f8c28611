/-
  THE START: what the listed package variables hold, as the evaluator has it; the law DocketNone lifted to what its row asks.
-/
import Derived.Test.YtfgmbfdbmgimcaaGreatDoorDockB
import Derived.Test.YtfgmbfdbmgimcaaGreatDoorRows
namespace Go.Proofs.YtfgmbfdbmgimcaaGreatDoor
open Go Go.Ev Go.ChangeShapes Go.WideShapes Go.ChangeAt Go.RowKit Go.ChangeMaps
set_option maxRecDepth 100000
theorem gv0 : Tryz.prog.globalNamed "math/bits.deBruijn32tab" = some 0 := by kernel_rfl
theorem gv1 : Tryz.prog.globalNamed "math/bits.deBruijn64tab" = some 1 := by kernel_rfl
theorem gv2 : Tryz.prog.globalNamed "internal/strconv.uint64pow10" = some 2 := by kernel_rfl
theorem tv0 : (Tryz.prog.globals[0]?).map (·.type) = some 434 := by kernel_rfl
theorem tv1 : (Tryz.prog.globals[1]?).map (·.type) = some 435 := by kernel_rfl
theorem tv2 : (Tryz.prog.globals[2]?).map (·.type) = some 540 := by kernel_rfl
theorem tab_get (a b c : Nat) (k : Nat) (blk : Blk) (h : (hT a b c).m.get k = some blk) : (k = 0 ∧ blk = blkT a (tabV .u8 tab0)) ∨ (k = 1 ∧ blk = blkT b (tabV .u8 tab1)) ∨ (k = 2 ∧ blk = blkT c (tabV .u64 tab2)) := by
  have nil : ∀ (v : Option Blk) (j : Nat), ((Tr.node v .nil .nil).get (j + 1) : Option Blk) = none := fun v j => by
    rw [Tr.get_succ]
    cases Nat.beq (j % 2) 0 <;> simp only [cond_true, cond_false, Tr.get_nil]
  match k, h with
  | 0, h => exact .inl ⟨rfl, (Option.some.inj h).symm⟩
  | 1, h => exact .inr (.inl ⟨rfl, (Option.some.inj h).symm⟩)
  | 2, h => exact .inr (.inr ⟨rfl, (Option.some.inj h).symm⟩)
  | n + 3, h =>
    exfalso
    unfold hT at h
    simp only at h
    rw [show n + 3 = (n + 2) + 1 from rfl, Tr.get_succ] at h
    obtain ⟨j, hj⟩ : ∃ j, (n + 2) / 2 = j + 1 := ⟨(n + 2) / 2 - 1, by omega⟩
    cases hb : Nat.beq ((n + 2) % 2) 0 with
    | true =>
      rw [hb] at h
      simp only [cond_true] at h
      rw [hj, nil] at h; cases h
    | false =>
      rw [hb] at h
      simp only [cond_false] at h
      rw [hj, nil] at h; cases h
theorem tab_at {W : World} {k : IntKind} {g : Nat} {cs : Array Value} {ns : List Nat} {nm : String} (hlt : g < 4096) (hg : Tryz.prog.globalNamed nm = some g) (hv : W.var? Tryz.prog nm = some cs) (hc : cs.toList = ns.map fun n => Value.int k (.ofNat n)) : ∃ ty, TabAt W g (blkT ty (tabV k ns)) := by
  obtain ⟨ty, fr, hh⟩ := var_heap hg hv
  refine ⟨ty, hlt, ty, _, cs, fr, rfl, by rw [hc]; exact tabV_VRs _ k ns, fun x hx => ?_, hh⟩
  rw [hc] at hx
  obtain ⟨n, _, rfl⟩ := List.mem_map.1 hx
  rfl
theorem start {W : World} (h : laidMetH Tryz.prog Rows.docketNoneRow.laid W) : ∃ a b c, HR (hT a b c) mu4096 W ∧ ∀ k blk, (hT a b c).m.get k = some blk → RO blk = true := by
  rw [MakeChecks.laidMetH_plain _ _ _ (by kernel_rfl)] at h
  obtain ⟨ps, ⟨g0, t0, cs0, f0, p0, q0, hg0, ht0, hv0, hd0, ⟨g1, t1, cs1, f1, p1, q1, hg1, ht1, hv1, hd1, ⟨g2, t2, cs2, f2, p2, q2, hg2, ht2, hv2, hd2, _, _⟩, _⟩, _⟩, _, _⟩ := h
  obtain rfl := Option.some.inj (gv0.symm.trans hg0)
  obtain rfl := Option.some.inj (gv1.symm.trans hg1)
  obtain rfl := Option.some.inj (gv2.symm.trans hg2)
  obtain rfl := Option.some.inj (tv0.symm.trans ht0)
  obtain rfl := Option.some.inj (tv1.symm.trans ht1)
  obtain rfl := Option.some.inj (tv2.symm.trans ht2)
  have k0 := tab_cells (k := .u8) (ns := tab0) Tryz.underlying434 Tryz.underlying5 (by kernel_rfl) (by kernel_rfl) rfl hd0
  have k1 := tab_cells (k := .u8) (ns := tab1) Tryz.underlying435 Tryz.underlying5 (by kernel_rfl) (by kernel_rfl) rfl hd1
  have k2 := tab_cells (k := .u64) (ns := tab2) Tryz.underlying540 Tryz.underlying128 (by kernel_rfl) (by kernel_rfl) rfl hd2
  obtain ⟨a, ha⟩ := tab_at (by omega) gv0 hv0 k0
  obtain ⟨b, hb⟩ := tab_at (by omega) gv1 hv1 k1
  obtain ⟨c, hc⟩ := tab_at (by omega) gv2 hv2 k2
  refine ⟨a, b, c, ?_⟩
  refine hr_tabs fun k blk hk => ?_
  rcases tab_get a b c k blk hk with ⟨rfl, rfl⟩ | ⟨rfl, rfl⟩ | ⟨rfl, rfl⟩
  · exact ha
  · exact hb
  · exact hc
theorem none_calls {W : World} (h : laidMetH Tryz.prog Rows.docketNoneRow.laid W) (x y : Value) : Calls Tryz.prog 4 #[x, y] W fun e W' => e = .returned (.bool true) ∧ ∀ may, W.keptBut W' may := by
  obtain ⟨a, b, c, hr, hro⟩ := start h
  exact tabs_calls (hint := hint) (ov := ovT) (lf := 100000) (n := 200) Tryz.checked.mixed ov_ok hr hro (.cons _ _ _ _ (.bad x) (.cons _ _ _ _ (.bad y) .nil)) (none_ev a b c)
theorem own : ownKnob Tryz.prog.godebug = none := by kernel_rfl
/- the door's own heap meets the condition on the listed variables -/
theorem door_met (os : Os) (args : Array Value) : laidMetH Tryz.prog Rows.docketNoneRow.laid ((World.doorLaid Tryz.prog 400 os).forCall (fun _ _ => 0) ⟨#[], args, []⟩).memory :=
  laidMetH_of_parts3 (fuel := 8) (laidMet_of_run' 8 (by kernel_rfl) (by kernel_rfl)) (by kernel_rfl) (by kernel_rfl)
theorem none_lifted (os : Os) (started : os.Started) (H : Type) (enc : TypeId × Value → H) :
    ReturnsInHanded {} Tryz.checked os 4 .any (fun w args => (Rows.docketNoneSpec.pre enc Tryz.prog Tryz.f4 [] false w args ∧ laidMetH Tryz.prog Rows.docketNoneRow.laid w) ∧ sizedMet enc Tryz.prog Tryz.f4 (OpenSpec.ofChange Rows.docketNoneSpec) false w args)
      (Rows.docketNoneSpec.post enc Tryz.prog Tryz.f4 false true false false) := by
  refine returnsInHanded_of_change_and (C := Tryz.checked) (X := fun w _ => laidMetH Tryz.prog Rows.docketNoneRow.laid w) (fun _ _ _ hh h => h.of_heap hh) own started (by kernel_rfl) Tryz.func4
    (ChangeSpec.witness_shaped (enc := enc) (C := Tryz.checked) (os := os) (X := fun w _ => laidMetH Tryz.prog Rows.docketNoneRow.laid w) false (World.doorLaid Tryz.prog 400 os) #[.int .i64 0, .string ByteArray.empty] 8 rfl (World.shaped_of_RefB (by kernel_rfl) (by kernel_rfl)) (by kernel_rfl) (by kernel_rfl) (by kernel_rfl) (door_met os _)) ?_
  intro W base args ds gs before hval0 hW _ _ hL _
  have hval : ∀ (j : Nat) t v, Tryz.f4.params[j]? = some t → args[j]? = some v → Value.okWide Tryz.prog W .any base t v := hval0
  have hW' := hW
  obtain ⟨p, q, hA0, hV, rfl, hfz, hnd⟩ := hW
  have hA : DataW.TrodAll enc Tryz.prog W 0 (fun _ => true) true Tryz.f4.params.toList args.toList ds p := hA0
  rw [Tryz.params4] at hA hval
  obtain ⟨v0, v1, d0, d1, p0, p1, rfl, rfl, rfl, h0, h1⟩ := trodAll_two hA
  obtain ⟨rfl, rfl⟩ := trodVars_none hV
  obtain ⟨n, rfl, rfl, rfl, hn⟩ := open_int Tryz.underlying3 (hval 0 3 v0 rfl rfl) h0
  obtain ⟨s, rfl, rfl, rfl, hs⟩ := open_string Tryz.underlying9 (hval 1 9 v1 rfl rfl) h1
  clear hA0 hval0
  simp only [List.append_nil] at hW'
  refine (none_calls hL _ _).mono fun e W' ⟨he, hk⟩ => ?_
  refine ⟨_, he, [.lit (.int .i64 n), .lit (.string s.data.toList)], [], [], [], [], [], hW', ?_, ?_, rfl, hk _, fun h => by cases h⟩
  · exact trodAll_mk1 (shut_bool Tryz.underlying4 true)
  · show DataW.TrodAll enc Tryz.prog W' 0 _ true Tryz.f4.params.toList _ _ _
    rw [Tryz.params4]
    exact trodAll_mk2 (shut_int Tryz.underlying3 hn) (shut_string Tryz.underlying9 hs)
end Go.Proofs.YtfgmbfdbmgimcaaGreatDoor
