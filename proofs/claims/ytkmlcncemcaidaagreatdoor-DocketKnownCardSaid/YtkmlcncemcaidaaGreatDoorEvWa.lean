/- The abstract evaluator: draw regions, one operation's soundness; values alike. -/
import Derived.Test.YtkmlcncemcaidaaGreatDoorEvW
namespace Go.Ev
variable {P : Program} {cx : Cx} {K nt : Nat} {ops : Array Oper} {o : Oper} {h : H}

theorem sameR_spec {v : AV} {r : R} (e : sameR v h r = true) : ∃ h', r = .ok v h' ∧ h'.next = h.next := by
  unfold sameR at e
  split at e
  · obtain ⟨h1, h2⟩ := an_true e
    rw [← eqN_eq 20 _ _ h2]
    exact ⟨_, rfl, Nat.eq_of_beq_eq_true h1⟩
  · cases e
theorem reOk_spec {b : Nat} : ∀ {act : Act'}, reOk P cx b h act = true → ∀ p ∈ act, bit b p.1.i = false → sameR p.2.2 h (runOp P cx p.1.o p.2.1 h) = true
  | [], _, p, hp, _ => by cases hp
  | (x, args, v) :: l, e, p, hp, hb => by
    unfold reOk at e
    cases hx : bit b x.i with
    | true =>
      rw [hx] at e
      rcases List.mem_cons.1 hp with h1 | h1
      · subst h1; rw [hx] at hb; cases hb
      · exact reOk_spec e p h1 hb
    | false =>
      rw [hx] at e
      simp only [cond_false] at e
      cases hs : sameR v h (runOp P cx x.o args h) with
      | false => rw [hs] at e; cases e
      | true =>
        rw [hs] at e
        rcases List.mem_cons.1 hp with h1 | h1
        · subst h1; exact hs
        · exact reOk_spec e p h1 hb

section
variable {a : Act} {μ : Mu} {w : World} {args : List AV} {v : AV} {h' : H} {next : Act → World → Prop} {Q : Exit → Act → World → Prop}
theorem runOp_sound (hc : CallOK P cx.call) (hov : OvOK P cx.ov) (hhp : ∀ v f h, ∃ s, cx.hp v f h = .fail s) (hr : HR h μ w) (hv : VRs μ args ((opnds o).map a.eval)) (e : runOp P cx o args h = .ok v h')
    (hk : ∀ cv w' μ', Ext h μ w h' μ' w' → VR μ' v cv → next (a.put o.dst cv) w') : o.wp P a w next Q := by
  have hf : Fin (.ok v h') := fun s hs => by cases hs
  have kok : KOK h μ w o a next okK (.ok v h') := fun v1 cv w' μ' h1 e1 e2 e3 => by
    cases e3
    exact hk cv w' μ' e1 e2
  have pok : POK h μ w cx fr0 a Q (.ok v h') := fun v1 cv w' μ' h1 _ _ e3 => by
    obtain ⟨s, hs⟩ := hhp v1 fr0 h1
    rw [hs] at e3; cases e3
  unfold runOp at e
  unfold opnds at hv
  cases har : arity o.op with
  | a0 =>
    rw [har] at e hv
    cases hv
    exact op0_sound hr hf e kok
  | a1 x =>
    rw [har] at e hv
    cases hv with | cons v1 _ _ _ h1 hs =>
    cases hs
    exact op1_sound hr har h1 hf e kok pok
  | a2 x y =>
    rw [har] at e hv
    cases hv with | cons v1 _ _ _ h1 hs =>
    cases hs with | cons v2 _ _ _ h2 hs =>
    cases hs
    exact op2_sound hr har h1 h2 hf e kok
  | a3 x y z =>
    rw [har] at e hv
    cases hv with | cons v1 _ _ _ h1 hs =>
    cases hs with | cons v2 _ _ _ h2 hs =>
    cases hs with | cons v3 _ _ _ h3 hs =>
    cases hs
    exact op3_sound hr har h1 h2 h3 hf e kok
  | al l =>
    rw [har] at e hv
    rw [arity_al har] at hv
    refine opL_sound hc hov hr hv hf ?_ kok pok
    · rw [← e]
      cases args with
      | nil => rfl
      | cons => rfl

theorem alloc_run {o : Oper} {a : Act} {e : TypeId} {tr : Tr AV} (hop : o.op = .alloc e) (hz : zt P e = some tr) : ∃ ob, (execOp a.eval o).run P w = .ok (.value (.pointer (some ⟨w.heap.size, 0, none⟩))) (w.alloc ob) ∧
    ∀ μ, BR μ (w.alloc ob) ⟨w.heap.size, 0, 0, 0⟩ (.cells e (szOf P e) [] tr 0 true) := by
  unfold zt at hz
  split at hz
  · next l hzc =>
    cases hz
    obtain ⟨i, v, hi, hv, rfl, h1, hs⟩ := zcells_inv hzc
    have hsz : szOf P e = i.size := by simp [szOf, hi]
    refine ⟨.cells v.cells e, ?_, fun μ => ⟨v.cells, (0, 0), alloc_get w _, by simp; omega, by simp, fun _ => ⟨rfl, by omega⟩, fun i hi' => ?_, one_ix h1 _, fun _ => rfl, fun j _ _ => by simp⟩⟩
    · have hrun : (Instr.alloc e true (.tuple #[])).run P w = .ok (.pointer (some ⟨w.heap.size, 0, none⟩)) (w.alloc (.cells v.cells e)) := by
        simp [Instr.alloc, zeroValue, run_typeInfo hi, hv, newVar, newRow]
      have he : execOp a.eval o = (do pure (.value (← Instr.alloc e true (.tuple #[])))) := by unfold execOp; rw [hop]
      rw [he]
      simp only [Sem.run_bind, hrun, Result.andThen, Sem.run_pure]
    · obtain ⟨x, hx1, hx2⟩ := list_cells (d := []) (ofV0s_VR μ v.cells.toList) i (by simp; omega)
      exact ⟨x, by simpa using hx1, hx2⟩
  · cases hz
theorem newOp_sound (hv : VRs μ args ((opnds o).map a.eval)) {nv : NV} {blk : Blk} (e : newOp P o args = some (nv, blk)) :
    ∃ cv w' l ob, (execOp a.eval o).run P w = .ok (.value cv) w' ∧ w'.heap = w.heap.push ob ∧ w'.os = w.os ∧ w'.output = w.output ∧ l.B = w.heap.size ∧ ∀ μ', μ.Le μ' → BR μ' w' l blk ∧ ∀ na, μ' na = some l → VR μ' (nv.at na) cv := by
  unfold newOp at e
  split at e
  · next el hop =>
    split at e
    · next tr hz =>
      cases e
      obtain ⟨ob, hrun, hbr⟩ := alloc_run (P := P) (w := w) (a := a) hop hz
      exact ⟨_, _, ⟨w.heap.size, 0, 0, 0⟩, ob, hrun, rfl, rfl, rfl, rfl, fun μ' _ => ⟨hbr μ', fun na hna => .ptr na 0 _ hna⟩⟩
    · cases e
  · next s d x l n hop =>
    split at e
    · next el hs hd =>
      have hs := desc_eq hs (by simp)
      have hd := desc_eq hd (by simp)
      split at e
      · next he =>
        have he := desc_eq he (by simp)
        cases e
        unfold opnds at hv
        rw [hop] at hv
        have hv : VRs μ [.str l n] [a.eval x] := hv
        have he2 : execOp a.eval o = (do pure (.value (← convert s d (a.eval x)))) := by unfold execOp; rw [hop]
        generalize hc : a.eval x = cx0 at hv he2
        cases hv with | cons v1 c1 _ _ h1 hs1 =>
        cases h1 with | str st _ _ hl hn =>
        subst hl hn
        have hrun : (convert s d (.string st)).run P w = (Conv.stringToBytes el st).run P w := by
          simp [convert, run_underlying hs, run_underlying hd, run_underlying he]
        obtain ⟨cap, hcap, h2⟩ := run_s2b (P := P) (w := w) el st
        generalize hcs : (st.data.map fun (b : UInt8) => Value.int .u8 (b.toNat : Int)) ++ Array.replicate (cap - st.size) (Value.int .u8 0) = cs at h2
        have hcsz : cs.size = cap := by
          rw [← hcs, Array.size_append, Array.size_map, Array.size_replicate]
          have : st.data.size = st.size := rfl
          omega
        have hlen : st.data.toList.length = st.size := rfl
        refine ⟨.slice (some ⟨w.drew.heap.size, 0, none⟩) st.size cap, w.drew.alloc (.cells cs el (cs.size, cs.size + 1)), ⟨w.heap.size, 0, cap, 1⟩, .cells cs el (cs.size, cs.size + 1), ?_, rfl, rfl, rfl, rfl, fun μ' hle => ⟨?_, fun na hna => ?_⟩⟩
        · rw [he2]
          simp only [Sem.run_bind, hrun, h2, Result.andThen, Sem.run_pure]
        · refine ⟨cs, _, alloc_get w.drew _, by rw [hcsz, hlen]; simpa using hcap, by rw [hcsz]; simp, (fun h => by cases h), fun i hi => ?_, ?_, (fun h => by cases h), fun j _ hj => by simp; omega⟩
          · have hb := (strBytes_VRs μ st.data.toList |> fun h => (by rw [← byteV_map] at h; exact h : VRs μ _ (st.data.map fun (b : UInt8) => Value.int .u8 (b.toNat : Int)).toList))
            obtain ⟨x, hx1, hx2⟩ := list_cells (d := []) hb i (by rw [strBytes_length]; exact hi)
            refine ⟨x, ?_, hx2.mono hle⟩
            have h0 : (0 : Nat) + i = i := Nat.zero_add i
            show cs[0 + i]? = _
            rw [h0, ← hcs, Array.getElem?_append_left (by simpa using hi)]
            exact hx1
          · refine one_ix (fun x hx => ?_) _
            rw [← hcs] at hx
            simp only [Array.toList_append, List.mem_append, Array.toList_map, List.mem_map, Array.toList_replicate, List.mem_replicate] at hx
            rcases hx with ⟨b, _, rfl⟩ | ⟨_, rfl⟩ <;> rfl
        · have := VR.sliceU (μ := μ') na 0 st.data.toList.length ⟨w.heap.size, 0, cap, 1⟩ ⟨w.drew.heap.size, 0, none⟩ hna (by show 0 + st.data.toList.length ≤ cap; omega) (.inr (by simp))
          exact this
      · cases e
    · cases e
  · next t n ps hop =>
    split at e
    · next el hsl =>
      have ht := slOf_inv hsl
      split at e
      · next z hz =>
        obtain ⟨i, zv, hi, hzv, rfl, h1, hs⟩ := zcells_inv hz
        cases hcnd : an (Nat.blt 0 (zv.cells.toList.map ofV0).length) (Nat.blt (Nat.mul n (zv.cells.toList.map ofV0).length) 16777216) with
        | false => rw [hcnd] at e; cases e
        | true =>
          rw [hcnd] at e
          obtain ⟨hz0, hlim⟩ := an_true hcnd
          simp only [cond_true, List.length_map, Array.length_toList] at e hz0 hlim
          have hz0 : 0 < zv.cells.size := Nat.le_of_ble_eq_true hz0
          have hlim : n * zv.cells.size < 16777216 := Nat.le_of_ble_eq_true hlim
          split at e
          · next tr hfl =>
            cases e
            unfold opnds at hv
            rw [hop] at hv
            have hq : (Op.buildSlice t n ps).operands.toList.map a.eval = ps.toList.map fun p => a.eval p.2 := by
              simp [Op.operands, Function.comp_def]
            have hv2 : VRs μ _ (ps.toList.map fun p => a.eval p.2) := hq ▸ hv
            obtain ⟨r1, r2, r3⟩ := zero_row (μ := μ) hz0 h1 (n * zv.cells.size)
            obtain ⟨C, e1, e2, e3, e4⟩ := fill_sound (d := zv.cells.toList.map ofV0) _ _ _ _ _ ((Array.range (n * zv.cells.size)).map (zv.cells[· % zv.cells.size]!)) r3 hv2 hfl (fun i hi' => r1 i (by rw [r3] at hi'; exact hi')) r2
            rw [zip_parts] at e1
            have hrun : (Instr.buildSlice t n (ps.map fun (i, x) => (i, a.eval x))).run P w = .ok (.slice (some ⟨w.heap.size, 0, none⟩) n n) (w.alloc (.cells C el)) := by
              have e1' : Instr.fill (fun i => some (i * zv.cells.size, zv.cells.size)) ((Array.range (n * zv.cells.size)).map (zv.cells[· % zv.cells.size]!)) (ps.toList.map fun p => (p.1, a.eval p.2)) = some C := e1
              have hlim' : ¬ (16777216 < n * i.size) := by rw [← hs]; omega
              by_cases h0 : n * i.size = 0
              · rw [hs] at e1'
                have hn0 : n = 0 := by
                  rcases Nat.mul_eq_zero.1 h0 with h | h
                  · exact h
                  · rw [← hs] at h; omega
                subst hn0
                have e2' : Instr.fill (fun j => some (j * i.size, i.size)) #[] (ps.toList.map fun p => (p.1, a.eval p.2)) = some C := by
                  rw [Nat.zero_mul, range0] at e1'
                  exact e1'
                simp [Instr.buildSlice, run_underlying ht, sizeOf, typeInfo, hi, newRow, range0, e2']
              · rw [hs] at e1'
                simp [Instr.buildSlice, run_underlying ht, sizeOf, typeInfo, hi, hlim', h0, zeroValue, hzv, newRow, e1', hs]
            have he : execOp a.eval o = (do pure (.value (← Instr.buildSlice t n (ps.map fun (i, x) => (i, a.eval x))))) := by unfold execOp; rw [hop]
            refine ⟨.slice (some ⟨w.heap.size, 0, none⟩) n n, w.alloc (.cells C el), ⟨w.heap.size, 0, 0, 0⟩, .cells C el, ?_, rfl, rfl, rfl, rfl, fun μ' hle => ⟨⟨C, (0, 0), alloc_get w _, ?_, by simp, fun _ => ⟨rfl, e2⟩, fun i hi => ?_, one_ix e4 _, fun _ => rfl, fun j _ _ => by simp⟩, fun na hna => .slice na 0 n n _ hna⟩⟩
            · rw [he]
              simp only [Sem.run_bind, hrun, Result.andThen, Sem.run_pure]
            · show 0 + n * zv.cells.size ≤ C.size
              omega
            · have hi : i < n * zv.cells.size := hi
              obtain ⟨x, q1, q2⟩ := e3 i (by omega)
              exact ⟨x, by simpa using q1, q2.mono hle⟩
          · cases e
      · cases e
    · cases e
  · cases e
end

end Go.Ev
