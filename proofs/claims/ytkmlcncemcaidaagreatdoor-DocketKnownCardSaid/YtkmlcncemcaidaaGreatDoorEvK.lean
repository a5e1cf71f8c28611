/- The abstract evaluator: new blocks, append, copy. -/
import Derived.Test.YtkmlcncemcaidaaGreatDoorEvM
import Derived.Laws.Append
namespace Go.Ev
variable {P : Program} {w : World}

/-! new blocks of cells -/
theorem alloc_get (w : World) (o : Obj) : (w.alloc o).heap[w.heap.size]? = some o := by
  show (w.heap.push o)[w.heap.size]? = _
  rw [Array.getElem?_push, if_pos rfl]
theorem Ext.cells {h : H} {μ : Mu} (hr : HR h μ w) {ty n : Nat} {d : List AV} {t : Tr AV} {fz : Nat} {ex : Bool} {c : Array Value} {u sz : Nat} (hn : n ≤ c.size) (hu : u * sz ≤ c.size) (hex : ex = true → c.size = n)
    (hc : ∀ i, i < n → ∃ x, c[i]? = some x ∧ VR μ (cellAt d t i) x) (h1 : ∀ x ∈ c.toList, one x = true) :
    Ext h μ w (h.new (.cells ty n d t fz ex)) (Ev.upd μ h.next ⟨w.heap.size, 0, u, sz⟩) (w.alloc (.cells c ty)) := by
  have hle := upd_le (μ := μ) ⟨w.heap.size, 0, u, sz⟩ (hr.fresh h.next (Nat.le_refl _))
  refine Ext.new hr _ _ _ rfl ⟨c, (0, 0), alloc_get w _, by simpa using hn, by simpa using hu, fun he => ⟨rfl, hex he⟩, fun i hi => ?_, one_ix h1 _, fun _ => rfl, fun j _ _ => by simp⟩
  obtain ⟨x, hx, hv⟩ := hc i hi
  exact ⟨x, by simpa using hx, hv.mono hle⟩
theorem zcells_inv {e : TypeId} {l : List AV} (h : zcells P e = some l) : ∃ i v, P.info? e = some i ∧ i.zero = some v ∧ l = v.cells.toList.map ofV0 ∧ (∀ x ∈ v.cells.toList, one x = true) ∧ v.cells.size = i.size := by
  unfold zcells at h
  split at h
  · next i hi =>
    split at h
    · next v hv =>
      split at h
      · next hc =>
        cases h
        simp only [Bool.and_eq_true] at hc
        exact ⟨i, v, hi, hv, rfl, fun x hx => List.all_eq_true.1 hc.1 x hx, Nat.eq_of_beq_eq_true hc.2⟩
      · cases h
    · cases h
  · cases h
theorem cellAt_list {d : List AV} {l : List AV} {i : Nat} (h : i < l.length) : cellAt d (listTr l) i = l[i] := by
  unfold listTr
  rw [cellAt_stCells, dif_pos (by omega)]
  simp
theorem list_cells {μ : Mu} {l : List AV} {c : Array Value} (hv : VRs μ l c.toList) {d : List AV} : ∀ i, i < l.length → ∃ x, c[i]? = some x ∧ VR μ (cellAt d (listTr l) i) x := by
  intro i hi
  obtain ⟨x, hx, hvr⟩ := hv.get i l[i] (List.getElem?_eq_getElem hi)
  exact ⟨x, by simpa using hx, by rw [cellAt_list hi]; exact hvr⟩

theorem alloc_sound {h : H} {μ : Mu} (hr : HR h μ w) {e : TypeId} {c : KV} {r : R} (hf : Fin r)
    (he : (Option.rec (.fail "alloc") (fun t => c (.ptr h.next 0) (h.new (.cells e (szOf P e) [] t 0 true))) (zt P e) : R) = r) :
    Out P (Instr.alloc e true (.tuple #[])) h μ w c r := by
  obtain ⟨t, ht, he⟩ := opt hf he
  unfold zt at ht
  split at ht
  · next l hz =>
    cases ht
    obtain ⟨i, v, hi, hv, rfl, h1, hs⟩ := zcells_inv hz
    have hsz : szOf P e = i.size := by simp [szOf, hi]
    have hx := Ext.cells hr (ty := e) (n := szOf P e) (d := []) (t := listTr (v.cells.toList.map ofV0)) (fz := 0) (ex := true) (c := v.cells) (u := 0) (sz := 0) (by omega) (by omega) (fun _ => by omega)
      (fun i hi' => list_cells (ofV0s_VR μ _) i (by simp; omega)) h1
    refine ⟨_, _, _, _, _, ?_, hx, .ptr h.next 0 _ (upd_same _ _ _), he⟩
    simp [Instr.alloc, zeroValue, run_typeInfo hi, hv, newVar, newRow]
  · cases ht
theorem cellsV_inv {μ : Mu} {v : AV} {cv : Value} (hv : VR μ v cv) {l : List AV} (h : cellsV v = some l) : VRs μ l cv.cells.toList ∧ ∀ x ∈ cv.cells.toList, one x = true := by
  unfold cellsV at h
  split at h
  · cases h
    cases hv with | agg _ cs hvs h1 => exact ⟨hvs, h1⟩
  · next hna =>
    cases ho : isOne v with
    | false => rw [ho] at h; cases h
    | true =>
      rw [ho] at h; cases h
      have h1c := hv.one_of ho
      have hcells : cv.cells = #[cv] := by cases cv <;> first | rfl | (simp [one] at h1c; done)
      rw [hcells]
      exact ⟨.cons _ _ _ _ hv .nil, fun x hx => by simp at hx; subst hx; exact h1c⟩
theorem box_sound {h : H} {μ : Mu} (hr : HR h μ w) {e : TypeId} {v : AV} {cv : Value} (hv : VR μ v cv) {l : List AV} (hl : cellsV v = some l) {c : KV} {r : R}
    (he : c (.ptr h.next 0) (h.new (.cells e l.length [] (listTr l) 0 true)) = r) : Out P (Instr.box e cv) h μ w c r := by
  obtain ⟨hvs, h1⟩ := cellsV_inv hv hl
  have hlen : l.length = cv.cells.size := by have := hvs.length; simpa using this
  have hx := Ext.cells hr (ty := e) (n := l.length) (d := []) (t := listTr l) (fz := 0) (ex := true) (c := cv.cells) (u := 0) (sz := 0) (by omega) (by omega) (fun _ => by omega) (list_cells hvs) h1
  refine ⟨_, _, _, _, _, ?_, hx, .ptr h.next 0 _ (upd_same _ _ _), he⟩
  simp [Instr.box, newVar, newRow]

/-! what is appended -/
theorem byteV_map (s : ByteArray) : (s.data.map fun b => Value.int .u8 (b.toNat : Int)).toList = s.data.toList.map byteV := by simp [byteV]
/- the sources: how many elements, their cells, in any world with the same heap -/
theorem cutTo_le (most : Option Nat) (n : Nat) : cutTo most n ≤ n := by
  unfold cutTo
  split
  · exact Nat.le_refl _
  · exact Nat.min_le_left _ _
theorem srcA_sound {h : H} {μ : Mu} (hr : HR h μ w) {z : Nat} {x : AV} {cx : Value} (hx : VR μ x cx) {most : Option Nat} {k : Nat → List AV → R} {r : R} (hf : Fin r) (e : srcA z h x most k = r) :
    ∃ N new cs, (∀ w', (Builtin.lenOf cx).run P w' = .ok N w') ∧ k (cutTo most N) new = r ∧ VRs μ new cs ∧ cs.length = cutTo most N * z ∧ (∀ v ∈ cs, one v = true) ∧
      (∀ w', w'.heap = w.heap → (Builtin.firstCells z (cutTo most N) cx).run P w' = .ok cs.toArray w') := by
  unfold srcA at e
  split at e
  · cases hx
    have h0 : cutTo most 0 = 0 := Nat.le_zero.1 (cutTo_le most 0)
    exact ⟨0, [], [], fun _ => rfl, by rw [h0]; exact e, .nil, by simp [h0], by simp, fun w' _ => rfl⟩
  · next l n =>
    obtain ⟨hz, e'⟩ := bt hf e
    clear e
    have hz := Nat.eq_of_beq_eq_true hz
    subst hz
    cases hx with | str s _ _ e1 e2 =>
    subst e1 e2
    have hle := cutTo_le most s.data.toList.length
    refine ⟨s.data.toList.length, _, (s.data.toList.take (cutTo most s.data.toList.length)).map byteV, fun w' => ?_, e', ?_, ?_, ?_, fun w' _ => ?_⟩
    · simp [Builtin.lenOf]
    · rw [List.map_take]; exact (strBytes_VRs μ _).take _
    · simp only [List.length_map, List.length_take, Nat.mul_one]; omega
    · intro v hv
      obtain ⟨b, _, rfl⟩ := List.mem_map.1 hv
      rfl
    · simp only [Builtin.firstCells, Sem.run_pure]
      congr 1
      apply Array.ext'
      rw [byteV_map]
      congr 1
      rw [ByteArray.data_extract, Array.toList_extract]
      simp [List.extract]
  · next b o l cp =>
    obtain ⟨ty, m, d, t, fz, ex, hg, h2⟩ := onBlk_eq hf (show onBlk h b (rowK _ o (k _)) = r from e)
    obtain ⟨hle, h3⟩ := bt hf (show (Bool.rec (.fail "row") (k (cutTo most l) (ldCells d t (Nat.mul (cutTo most l) z) o)) (Nat.ble (Nat.add o (Nat.mul (cutTo most l) z)) m) : R) = r from h2)
    have hle : o + cutTo most l * z ≤ m := Nat.le_of_ble_eq_true hle
    cases hx with | slice _ _ _ _ lo hl =>
    obtain ⟨l', c, fr, R⟩ := hr.row hg
    have hll : l' = lo := Option.some.inj (R.mu.symm.trans hl)
    subst hll
    have hv := row_VRs R.cell hle R.hn
    refine ⟨l, _, _, fun w' => rfl, h3, hv, by simp; have := R.hn; omega, R.one_in hle, fun w' hw' => ?_⟩
    simp only [Builtin.firstCells]
    rw [run_loads (by rw [hw']; exact R.heap) (by have := R.hn; omega)]
  · next b q l z' =>
    obtain ⟨ty, m, d, t, fz, ex, hg, h2⟩ := onBlk_eq hf (show onBlk h b (rowK _ (Nat.mul q z') (k _)) = r from e)
    obtain ⟨hle, h3⟩ := bt hf (show (Bool.rec (.fail "row") (k (cutTo most l) (ldCells d t (Nat.mul (cutTo most l) z) (Nat.mul q z'))) (Nat.ble (Nat.add (Nat.mul q z') (Nat.mul (cutTo most l) z)) m) : R) = r from h2)
    have hle : q * z' + cutTo most l * z ≤ m := Nat.le_of_ble_eq_true hle
    cases hx with | sliceU _ _ _ lo a hl hk ha =>
    obtain ⟨l', c, fr, R⟩ := hr.row hg
    have hll : l' = lo := Option.some.inj (R.mu.symm.trans hl)
    subst hll
    have hv := row_VRs R.cell hle R.hn
    refine ⟨l, _, _, fun w' => rfl, h3, hv, by simp; have := R.hn; omega, R.one_in hle, fun w' hw' => ?_⟩
    simp only [Builtin.firstCells]
    rcases ha with ha | ha
    · have hl0 : l = 0 := by omega
      subst hl0
      have h0 : cutTo most 0 = 0 := Nat.le_zero.1 (cutTo_le most 0)
      simp only [h0, Nat.zero_mul, List.take_zero]
      rfl
    · subst ha
      rw [run_loads (by rw [hw']; exact R.heap) (by have := R.hn; omega)]
  · exact hf.no e

/-! append -/
theorem tr_sound {o n : Nat} {k : TypeId → List AV → Tr AV → Nat → R} {ty m : Nat} {d : List AV} {t : Tr AV} {fz : Nat} {ex : Bool} {r : R} (hf : Fin r) (e : trK o n k ty m d t fz ex = r) :
    ∃ d' t', k ty d' t' fz = r ∧ o + n ≤ m ∧ ∀ i, i < n → cellAt d' t' i = cellAt d t (o + i) := by
  unfold trK at e
  cases hb : an (Nat.beq o 0) (Nat.beq n m) with
  | true =>
    rw [hb] at e
    obtain ⟨h1, h2⟩ := an_true hb
    have h1 := Nat.eq_of_beq_eq_true h1
    have h2 := Nat.eq_of_beq_eq_true h2
    exact ⟨d, t, e, by omega, fun i _ => by rw [h1, Nat.zero_add]⟩
  | false =>
    rw [hb] at e
    obtain ⟨hle, e⟩ := bt hf (show (Bool.rec (.fail "row") (k ty [] (stCells (ldCells d t n o) .nil 0) fz) (Nat.ble (Nat.add o n) m) : R) = r from e)
    have hle : o + n ≤ m := Nat.le_of_ble_eq_true hle
    refine ⟨_, _, e, hle, fun i hi => ?_⟩
    have hg := ldCells_get d t n o i hi
    rw [cellAt_stCells, dif_pos (by rw [ldCells_length]; omega)]
    have := List.getElem?_eq_getElem (l := ldCells d t n o) (i := i) (by rw [ldCells_length]; exact hi)
    rw [hg] at this
    simp only [Nat.sub_zero]
    exact (Option.some.inj this).symm
theorem appOk_inv {e n : Nat} (h : appOk P e n = true) : ∃ i v, P.info? e = some i ∧ i.zero = some v ∧ (∀ x ∈ v.cells.toList, one x = true) ∧ v.cells.size = szOf P e ∧ i.size = szOf P e ∧ 0 < szOf P e ∧ n * (i.bytes + 1) < 1099511627776 := by
  unfold appOk at h
  split at h
  · next i hi =>
    obtain ⟨h1, h2⟩ := an_true h
    obtain ⟨h2, h3⟩ := an_true h2
    cases hz : zcells P e with
    | none => rw [hz] at h3; cases h3
    | some l =>
      obtain ⟨i', v, hi', hv, _, ho, hs⟩ := zcells_inv hz
      rw [hi] at hi'; cases hi'
      have hsz : szOf P e = i.size := by simp [szOf, hi]
      exact ⟨i, v, hi, hv, ho, by omega, hsz.symm, by rw [hsz]; simpa [Nat.blt_eq] using h2, by simpa [Nat.blt_eq] using h1⟩
  · cases h
theorem zeroCells_one {z : Array Value} (h : ∀ x ∈ z.toList, one x = true) (hz : 0 < z.size) (n : Nat) : (∀ x ∈ (Builtin.zeroCells z n).toList, one x = true) ∧ (Builtin.zeroCells z n).size = n * z.size := by
  constructor
  · intro x hx
    simp only [Builtin.zeroCells, Array.toList_map, List.mem_map] at hx
    obtain ⟨i, _, rfl⟩ := hx
    have hlt : i % z.size < z.size := Nat.mod_lt _ hz
    rw [getElem!_pos z (i % z.size) hlt]
    exact h _ (by simp)
  · simp [Builtin.zeroCells]
/- the run of an append that makes a new row -/
theorem run_grow {t u ty e : TypeId} {i : TypeInfo} {zv : Value} (ht : P.underlying t = some (.slice e)) (hu : (∃ e', P.underlying u = some (.slice e')) ∨ P.underlying u = some .string) (hi : P.info? e = some i) (hz : i.zero = some zv)
    {base : Option Addr} {sLen sCap n : Nat} {cx : Value} {olds news : List Value} (hl : ∀ w', (Builtin.lenOf cx).run P w' = .ok n w')
    (ho : ∀ w', w'.heap = w.heap → (Builtin.firstCells i.size sLen (.slice base sLen sCap)).run P w' = .ok olds.toArray w') (hn : ∀ w', w'.heap = w.heap → (Builtin.firstCells i.size n cx).run P w' = .ok news.toArray w')
    (hg : sCap < sLen + n) (hb : (sLen + n) * (i.bytes + 1) < 1099511627776) :
    ∃ cap, sLen + n ≤ cap ∧ (Builtin.append_ #[t, u] ty #[.slice base sLen sCap, cx]).run P w =
      .ok (.slice (some ⟨w.heap.size, 0, none⟩) (sLen + n) cap) (w.drew.alloc (.cells (olds.toArray ++ news.toArray ++ Builtin.zeroCells zv.cells (cap - (sLen + n))) e)) := by
  refine ⟨grownCap w (sLen + n) sCap e, by unfold grownCap Question.cut; exact Nat.le_add_right _ _, ?_⟩
  have h1 : ¬ (sLen + n ≤ sCap) := by omega
  have hmul : (sLen + n) * i.bytes + (sLen + n) < 1099511627776 := by rw [← Nat.mul_succ]; exact hb
  have h63 : ¬ (9223372036854775807 < ((sLen : Int) + (n : Int))) := by omega
  have h48 : ¬ (281474976710656 < Builtin.nextslicecap (sLen + n) sCap * i.bytes) := by
    have := growslice_fits (need := sLen + n) (old := sCap) (bytes := i.bytes) hg (by omega)
    omega
  have ho' := ho w.drew rfl
  have hn' := hn w.drew rfl
  rcases hu with ⟨e', hd⟩ | hd
  · simp [Builtin.append_, run_underlying ht, run_underlying hd, sizeOf, typeInfo, zeroValue, hi, hz, hl, h1, h63, h48, Question.forced, ho', hn', newRow, grownCap]
    congr 2
    apply Array.ext'
    simp [List.append_assoc]
  · simp [Builtin.append_, run_underlying ht, run_underlying hd, sizeOf, typeInfo, zeroValue, hi, hz, hl, h1, h63, h48, Question.forced, ho', hn', newRow, grownCap]
    congr 2
    apply Array.ext'
    simp [List.append_assoc]

/- a grown row -/
theorem grown_ext {h : H} {μ : Mu} {w : World} (hr : HR h μ w) {e z L n cap : Nat} {d : List AV} {t : Tr AV} {new : List AV} {olds news : List Value} {fz : Nat} {zv : Value}
    (hz : 0 < z) (hzv : ∀ x ∈ zv.cells.toList, one x = true) (hzs : zv.cells.size = z)
    (hold : ∀ i, i < L * z → ∃ x, olds[i]? = some x ∧ VR μ (cellAt d t i) x) (hlo : olds.length = L * z) (h1o : ∀ v ∈ olds, one v = true)
    (hnew : VRs μ new news) (hln : news.length = n * z) (h1n : ∀ v ∈ news, one v = true) (hcap : L + n ≤ cap) :
    Ext h μ w (h.new (.cells e ((L + n) * z) d (stCells new t (L * z)) fz false)) (Ev.upd μ h.next ⟨w.heap.size, 0, cap, z⟩) (w.alloc (.cells (olds.toArray ++ news.toArray ++ Builtin.zeroCells zv.cells (cap - (L + n))) e)) := by
  obtain ⟨hzo, hzz⟩ := zeroCells_one hzv (by omega) (cap - (L + n))
  have hsz : (olds.toArray ++ news.toArray ++ Builtin.zeroCells zv.cells (cap - (L + n))).size = cap * z := by
    simp only [Array.size_append, List.size_toArray, hzz, hlo, hln, hzs, ← Nat.add_mul]
    congr 1; omega
  have hle : (L + n) * z ≤ cap * z := Nat.mul_le_mul_right _ hcap
  have hmul : (L + n) * z = L * z + n * z := Nat.add_mul _ _ _
  have hnl := hnew.length
  refine Ext.cells hr (by omega) (by rw [hsz]; exact Nat.le_refl _) (fun h => by cases h) (fun i hi => ?_) ?_
  · have hget : (olds.toArray ++ news.toArray ++ Builtin.zeroCells zv.cells (cap - (L + n)))[i]? = (olds ++ news)[i]? := by
      rw [Array.getElem?_append_left (by simp; omega)]
      simp
    rw [cellAt_stCells, hget]
    by_cases hlt : i < L * z
    · rw [dif_neg (by omega), List.getElem?_append_left (by omega)]
      exact hold i hlt
    · rw [dif_pos (by omega), List.getElem?_append_right (by omega), hlo]
      exact hnew.get (i - L * z) _ (List.getElem?_eq_getElem (by omega))
  · intro x hx
    simp only [Array.toList_append, List.mem_append] at hx
    rcases hx with (hx | hx) | hx
    · exact h1o x hx
    · exact h1n x hx
    · exact hzo x hx
theorem HR.drew {h : H} {μ : Mu} {w : World} (hr : HR h μ w) : HR h μ w.drew := ⟨fun b blk hb => let ⟨l, h1, h2, h3⟩ := hr.blk b blk hb; ⟨l, h1, h2, h3.congr (.refl _) rfl⟩, hr.inj, hr.fresh, hr.gm⟩
theorem Ext.drew {h : H} {μ : Mu} {w : World} (hr : HR h μ w) : Ext h μ w h μ w.drew := ⟨.refl _, hr.drew, Nat.le_refl _, fun _ _ _ => rfl, fun _ h => .inl h, fun _ h => .inl h, Nat.le_refl _, fun _ _ => rfl, rfl, rfl⟩

theorem slOf_inv {t e : TypeId} (h : slOf P t = some e) : P.underlying t = some (.slice e) := by
  unfold slOf at h
  split at h
  · next e' hd => cases h; exact desc_eq hd (by simp)
  · cases h
theorem okArg_inv {u : TypeId} (h : okArg P u = true) : (∃ e', P.underlying u = some (.slice e')) ∨ P.underlying u = some .string := by
  unfold okArg at h
  split at h
  · next e' hd => exact .inl ⟨e', desc_eq hd (by simp)⟩
  · next hd => exact .inr (desc_eq hd (by simp))
  · cases h
/- the run of an append that finds room -/
theorem run_room {t u ty e : TypeId} (ht : P.underlying t = some (.slice e)) (hu : (∃ e', P.underlying u = some (.slice e')) ∨ P.underlying u = some .string) {i : TypeInfo} (hi : P.info? e = some i)
    {a : Addr} {sLen sCap n : Nat} {cx : Value} {news : List Value} {w' : World} (hl : ∀ w', (Builtin.lenOf cx).run P w' = .ok n w')
    (hn : (Builtin.firstCells i.size n cx).run P w = .ok news.toArray w) (hg : sLen + n ≤ sCap) (hs : (storeCells (a.add (sLen * i.size)) news).run P w = .ok () w') :
    (Builtin.append_ #[t, u] ty #[.slice (some a) sLen sCap, cx]).run P w = .ok (.slice (some a) (sLen + n) sCap) w' := by
  rcases hu with ⟨e', hd⟩ | hd
  · simp [Builtin.append_, run_underlying ht, run_underlying hd, sizeOf, typeInfo, hi, hl, hg, hn, hs]
  · simp [Builtin.append_, run_underlying ht, run_underlying hd, sizeOf, typeInfo, hi, hl, hg, hn, hs]

/- rows of zeros -/
theorem dflt_zero {μ : Mu} {vs : List Value} (h0 : 0 < vs.length) (i : Nat) : VR μ (dflt (vs.map ofV0) i) ((vs.toArray)[i % vs.toArray.size]!) := by
  have hlt : i % vs.toArray.size < vs.toArray.size := Nat.mod_lt _ (by simpa using h0)
  rw [getElem!_pos vs.toArray _ hlt]
  match vs, h0 with
  | [v], _ => simp only [List.map_cons, List.map_nil, dflt]; simpa [Nat.mod_one] using ofV0_VR μ v
  | a :: b :: vs, _ =>
    simp only [List.map_cons, dflt]
    have hl : (Nat.mod i (ofV0 a :: ofV0 b :: vs.map ofV0).length) = i % (a :: b :: vs).toArray.size := by
      show i % _ = _
      simp
    have hg : (ofV0 a :: ofV0 b :: vs.map ofV0)[i % (a :: b :: vs).toArray.size]? = some (ofV0 ((a :: b :: vs).toArray[i % (a :: b :: vs).toArray.size])) := by
      rw [show (ofV0 a :: ofV0 b :: vs.map ofV0) = (a :: b :: vs).map ofV0 from rfl, List.getElem?_map, List.getElem?_eq_getElem (by simpa using hlt)]
      simp
    rw [hl, hg]
    exact ofV0_VR μ _
theorem zero_row {μ : Mu} {vs : Array Value} (h0 : 0 < vs.size) (h1 : ∀ x ∈ vs.toList, one x = true) (n : Nat) :
    (∀ i, i < n → ∃ x, ((Array.range n).map (vs[· % vs.size]!))[i]? = some x ∧ VR μ (cellAt (vs.toList.map ofV0) .nil i) x) ∧ (∀ x ∈ ((Array.range n).map (vs[· % vs.size]!)).toList, one x = true) ∧ ((Array.range n).map (vs[· % vs.size]!)).size = n := by
  refine ⟨fun i hi => ⟨vs[i % vs.size]!, by simp [hi], ?_⟩, fun x hx => ?_, by simp⟩
  · have := dflt_zero (μ := μ) (vs := vs.toList) (by simpa using h0) i
    rw [cellAt_eq, Tr.get_nil]
    simpa using this
  · simp only [Array.toList_map, List.mem_map] at hx
    obtain ⟨i, _, rfl⟩ := hx
    have hlt : i % vs.size < vs.size := Nat.mod_lt _ h0
    rw [getElem!_pos vs _ hlt]
    exact h1 _ (by simp)

theorem zerosA_sound {h : H} {μ : Mu} (hr : HR h μ w) {t u ty el : TypeId} {z : Nat} {i : TypeInfo} {s x : AV} {cs cx : Value} (hs : VR μ s cs) (hx : VR μ x cx) (ht : P.underlying t = some (.slice el)) (hi : P.info? el = some i) (hz : i.size = z) {c : KV} {r : R} (hf : Fin r)
    (e : zerosA P u el z s x h c = r) : Out P (Builtin.append_ #[t, u] ty #[cs, cx]) h μ w c r := by
  unfold zerosA at e
  split at e
  · next k n zs hd hzc =>
    have hd := desc_eq hd (by simp)
    obtain ⟨hc, e⟩ := cond_fail hf e
    obtain ⟨hap, hc⟩ := an_true hc
    obtain ⟨hn0, hn1⟩ := an_true hc
    have hn0 : 0 < n := Nat.le_of_ble_eq_true hn0
    have hn1 : n < 1048576 := Nat.le_of_ble_eq_true hn1
    obtain ⟨i', zv, hi', hzv, ho, hzs, his, hz0, hb⟩ := appOk_inv hap
    rw [hi] at hi'; cases hi'
    obtain ⟨i2, zv2, hi2, hzv2, rfl, _, _⟩ := zcells_inv hzc
    rw [hi] at hi2; cases hi2
    rw [hzv] at hzv2; cases hzv2
    have hsz : zv.cells.size = z := by rw [hzs, ← his, hz]
    cases hs
    cases hx
    have hw : IntKind.i64.wrap (n : Int) = (n : Int) := inR_wrap .i64 (Int.ofNat n) (by
      show Nat.ble (n + 1) 9223372036854775808 = true
      exact Nat.ble_eq_true_of_le (by omega))
    have hmul : n * i.bytes + n < 1099511627776 := by rw [← Nat.mul_succ]; exact hb
    have h48 : ¬ (281474976710656 < Builtin.nextslicecap (0 + n) 0 * i.bytes) := by
      have := growslice_fits (need := 0 + n) (old := 0) (bytes := i.bytes) (by omega) (by rw [Nat.zero_add]; omega)
      omega
    have hneg : ¬ ((n : Int) < 0) := by omega
    have hlim : ¬ (281474976710656 < (n : Int) * (i.bytes : Int)) := by
      have : ((n : Int) * (i.bytes : Int)) = ((n * i.bytes : Nat) : Int) := by simp
      rw [this]; omega
    have hnz : ¬ (n * i.size = 0) := by
      intro h0
      rcases Nat.mul_eq_zero.1 h0 with h1 | h1 <;> omega
    have hn2 : ¬ n = 0 := by omega
    have h63 : ¬ (9223372036854775807 < (n : Int)) := by omega
    rw [Nat.zero_add] at h48
    have hrun : ∃ cap, n ≤ cap ∧ (Builtin.append_ #[t, u] ty #[.slice none 0 0, .int .i64 (Int.ofNat n)]).run P w = .ok (.slice (some ⟨w.heap.size, 0, none⟩) n cap) (w.drew.alloc (.cells (Builtin.zeroCells zv.cells n ++ Builtin.zeroCells zv.cells (cap - n)) el)) := by
      refine ⟨grownCap w n 0 el, by unfold grownCap Question.cut; exact Nat.le_add_right _ _, ?_⟩
      simp [Builtin.append_, run_underlying ht, run_underlying hd, sizeOf, typeInfo, zeroValue, hi, hzv, asInt, asIntOf, hw, hneg, hlim, hn2, h63, h48, Question.forced, newRow, grownCap, Builtin.firstCells]
      exact fun h0 => absurd h0 hnz
    obtain ⟨cap, hcap, hrun⟩ := hrun
    obtain ⟨z1, z2⟩ := zeroCells_one ho (by omega) n
    obtain ⟨z3, z4⟩ := zeroCells_one ho (by omega) (cap - n)
    obtain ⟨y1, _, _⟩ := zero_row (μ := μ) (vs := zv.cells) (by omega) ho (n * zv.cells.size)
    have hx2 := Ext.cells hr.drew (ty := el) (n := n * z) (d := zv.cells.toList.map ofV0) (t := .nil) (fz := 0) (ex := false) (c := Builtin.zeroCells zv.cells n ++ Builtin.zeroCells zv.cells (cap - n)) (u := cap) (sz := z)
      (by rw [Array.size_append, z2, hsz]; exact Nat.le_add_right _ _) (by rw [Array.size_append, z2, z4, hsz, ← Nat.add_mul]; exact Nat.mul_le_mul_right _ (by omega)) (fun h => by cases h)
      (fun j hj => by
        obtain ⟨x, q1, q2⟩ := y1 j (by rw [hsz]; exact hj)
        refine ⟨x, ?_, q2⟩
        rw [Array.getElem?_append_left (by rw [z2, hsz]; exact hj)]
        exact q1) (fun x hx => by
        rw [Array.toList_append] at hx
        rcases List.mem_append.1 hx with h1 | h1
        · exact z1 x h1
        · exact z3 x h1)
    have hv := VR.sliceU (μ := Ev.upd μ h.next ⟨w.drew.heap.size, 0, cap, z⟩) h.next 0 n ⟨w.drew.heap.size, 0, cap, z⟩ ⟨w.drew.heap.size, 0, none⟩ (upd_same _ _ _) (by simpa using hcap) (.inr (by simp))
    exact ⟨_, _, _, _, _, hrun, (Ext.drew hr).trans hx2, hv, e⟩
  · exact hf.no e
theorem appA_sound {h : H} {μ : Mu} (hr : HR h μ w) {ts : Array TypeId} {ty : TypeId} {s x : AV} {cs cx : Value} (hs : VR μ s cs) (hx : VR μ x cx) {c : KV} {r : R} (hf : Fin r) (e : appA P ts s x h c = r) :
    Out P (Builtin.append_ ts ty #[cs, cx]) h μ w c r := by
  unfold appA at e
  split at e
  · next t u hts =>
    have hts : ts = #[t, u] := by apply Array.ext'; exact hts
    subst hts
    split at e
    · next z el hsz hsl =>
      obtain ⟨el', inf, ht, hi, hz, hz0⟩ := slSz_inv hsz
      have hel : el' = el := by
        have := slOf_inv hsl
        rw [ht] at this; cases this; rfl
      subst hel
      have hinf : inf.size = z := by rw [← hz]; simp [szOf, hi]
      cases hok : okArg P u with
      | false =>
        rw [hok] at e
        exact zerosA_sound hr hs hx ht hi hinf hf e
      | true =>
      rw [hok] at e
      have e1 := e
      clear e
      have hu := okArg_inv hok
      obtain ⟨n, new, news, hlen, e, hnv, hnl, hn1, hfc⟩ := srcA_sound (P := P) hr hx hf e1
      clear e1
      have hcut : cutTo none n = n := rfl
      rw [hcut] at e hnl hfc
      have hnew := hnv.length
      unfold appK at e
      split at e
      · -- nil
        cases hs
        cases hn0 : Nat.beq n 0 with
        | true =>
          rw [hn0] at e
          have hn0 := Nat.eq_of_beq_eq_true hn0
          subst hn0
          have hnil : news = [] := List.length_eq_zero_iff.1 (by omega)
          subst hnil
          refine Out.same hr (v := .nilslice) (cv := .slice none 0 0) ?_ .nilslice e
          have hfc := hfc w rfl
          rw [← hinf] at hfc
          rcases hu with ⟨e', hd⟩ | hd
          · simp [Builtin.append_, run_underlying ht, run_underlying hd, sizeOf, typeInfo, hi, hlen, hfc]
          · simp [Builtin.append_, run_underlying ht, run_underlying hd, sizeOf, typeInfo, hi, hlen, hfc]
        | false =>
          rw [hn0] at e
          obtain ⟨hap, e⟩ := bt hf (show (Bool.rec (.fail "append size") (appGrow el' z h h.m 0 n new c [] .nil 0) (appOk P el' n) : R) = r from e)
          have hnz : n ≠ 0 := fun h0 => by subst h0; cases hn0
          obtain ⟨i, zv, hi', hzv, ho, hzs, his, _, hb⟩ := appOk_inv hap
          rw [hi] at hi'; cases hi'
          obtain ⟨cap, hcap, hrun⟩ := run_grow (P := P) (w := w) (ty := ty) ht hu hi hzv (base := none) (sLen := 0) (sCap := 0) (olds := []) hlen (fun w' _ => rfl) (fun w' hw' => by rw [hinf]; exact hfc w' hw') (by omega) (by simpa using hb)
          have hx2 := grown_ext (h := h) (μ := μ) hr.drew (e := el') (z := z) (L := 0) (n := n) (cap := cap) (d := []) (t := .nil) (new := new) (olds := []) (news := news) (fz := 0) (zv := zv) hz0 ho (by omega)
            (fun i hi => by omega) (by simp) (fun _ hv => by cases hv) hnv hnl hn1 hcap
          refine ⟨_, _, _, _, _, hrun, (Ext.drew hr).trans hx2, .sliceU h.next 0 (0 + n) ⟨w.drew.heap.size, 0, cap, z⟩ _ (upd_same _ _ _) (by simpa using hcap) (.inr (by simp)), ?_⟩
          rw [← e]; unfold appGrow H.new; simp
      · -- a slice whose capacity is known
        next b o l cp =>
        cases hs with | slice _ _ _ _ lo hl =>
        cases hfit : Nat.ble (Nat.add l n) cp with
        | true =>
          rw [hfit] at e
          have hfit : l + n ≤ cp := Nat.le_of_ble_eq_true hfit
          obtain ⟨w', h', hrun, hex, hk⟩ := stn_sound (P := P) hr hf (show stn (Nat.mul n z) h new _ b (Nat.add o (Nat.mul l z)) = r from e) (by show new.length = n * z; omega) hl hnv hn1
          refine ⟨_, _, _, _, _, run_room (P := P) ht hu hi hlen (by rw [hinf]; exact hfc w rfl) hfit (by rw [hinf, add_none]; simpa [Nat.add_assoc] using hrun), hex, .slice b o (l + n) cp lo hl, hk⟩
        | false =>
          rw [hfit] at e
          have hfit : ¬ l + n ≤ cp := fun hle => by rw [show Nat.ble (Nat.add l n) cp = true from Nat.ble_eq_true_of_le hle] at hfit; cases hfit
          obtain ⟨hap, e⟩ := bt hf (show (Bool.rec (.fail "append size") (onBlk h b (trK o (Nat.mul l z) (fun _ d t _ => appGrow el' z h h.m l n new c d t 0))) (appOk P el' (Nat.add l n)) : R) = r from e)
          obtain ⟨i, zv, hi', hzv, ho, hzs, his, _, hb⟩ := appOk_inv hap
          rw [hi] at hi'; cases hi'
          obtain ⟨ty', m, d, t', fz, ex, hg, e⟩ := onBlk_eq hf e
          obtain ⟨d2, t2, e, hle, hcell⟩ := tr_sound hf e
          obtain ⟨l', ca, fr, R⟩ := hr.row hg
          have hll : l' = lo := Option.some.inj (R.mu.symm.trans hl)
          subst hll
          have hle : o + l * z ≤ m := hle
          have hRn := R.hn
          have hol : ((ca.toList.drop (l'.δ + o)).take (l * z)).length = l * z := by simp; omega
          obtain ⟨cap, hcap, hrun⟩ := run_grow (P := P) (w := w) (ty := ty) ht hu hi hzv (base := some ⟨l'.B, l'.δ + o, none⟩) (sLen := l) (sCap := cp) (olds := (ca.toList.drop (l'.δ + o)).take (l * z)) hlen
            (fun w' hw' => by simp only [Builtin.firstCells]; rw [hinf]; exact run_loads (by rw [hw']; exact R.heap) (by omega)) (fun w' hw' => by rw [hinf]; exact hfc w' hw') (by omega) hb
          have hx2 := grown_ext (h := h) (μ := μ) hr.drew (e := el') (z := z) (L := l) (n := n) (cap := cap) (d := d2) (t := t2) (new := new) (olds := (ca.toList.drop (l'.δ + o)).take (l * z)) (news := news) (fz := 0) (zv := zv) hz0 ho (by omega)
            (fun i hi => by
              have hi : i < l * z := hi
              rw [hcell i hi, List.getElem?_take, if_pos hi, List.getElem?_drop]
              obtain ⟨x, hx, hv⟩ := R.cell (o + i) (by omega)
              exact ⟨x, by rw [← hx, Nat.add_assoc]; simp, hv⟩) hol (R.one_in (by omega)) hnv hnl hn1 hcap
          refine ⟨_, _, _, _, _, hrun, (Ext.drew hr).trans hx2, .sliceU h.next 0 (l + n) ⟨w.drew.heap.size, 0, cap, z⟩ _ (upd_same _ _ _) (by simpa using hcap) (.inr (by simp)), ?_⟩
          rw [← e]; rfl
      · -- a slice whose capacity is not known
        next b k l z' =>
        cases hs with | sliceU _ _ _ lo a hl hk ha =>
        cases hn0 : Nat.beq n 0 with
        | true =>
          rw [hn0] at e
          have hn0 := Nat.eq_of_beq_eq_true hn0
          subst hn0
          have hnil : news = [] := List.length_eq_zero_iff.1 (by omega)
          subst hnil
          refine Out.same hr (v := .sliceU b k l lo.sz) (cv := .slice (some a) (l + 0) (lo.u - k)) ?_ (.sliceU _ _ _ _ _ hl (by omega) ha) e
          exact run_room (P := P) ht hu hi hlen (by rw [hinf]; exact hfc w rfl) (by omega) rfl
        | false =>
          rw [hn0] at e
          have hnz : n ≠ 0 := fun h0 => by subst h0; cases hn0
          obtain ⟨hap, e1⟩ := bt hf e
          clear e
          obtain ⟨hap, hzz⟩ := an_true hap
          have hzz : z = lo.sz := Nat.eq_of_beq_eq_true hzz
          obtain ⟨ty', m, d, t', fz, ex, hg, e2⟩ := onBlk_eq hf e1
          clear e1
          obtain ⟨d2, t2, e3, hle, hcell⟩ := tr_sound hf e2
          clear e2
          obtain ⟨hfz, e4⟩ := bt hf e3
          clear e3
          obtain ⟨hty, hfz'⟩ := an_true hfz
          clear hfz
          have hty : el' = ty' := (Nat.eq_of_beq_eq_true hty).symm
          subst hty
          have hfz : fz ≤ k * z + l * z + 1 := Nat.le_of_ble_eq_true hfz'
          obtain ⟨i, zv, hi', hzv, ho, hzs, his, _, hb⟩ := appOk_inv hap
          rw [hi] at hi'; cases hi'
          obtain ⟨l', ca, fr, R⟩ := hr.row hg
          have hll : l' = lo := Option.some.inj (R.mu.symm.trans hl)
          subst hll
          subst hzz
          have hle : k * l'.sz + l * l'.sz ≤ m := hle
          have hRn := R.hn
          have hRu := R.hu
          by_cases hfit : l + n ≤ l'.u - k
          · -- room
            have ha : a = ⟨l'.B, l'.δ + k * l'.sz, none⟩ := by rcases ha with ha | ha; omega; exact ha
            subst ha
            have hmulu : (k + (l + n)) * l'.sz ≤ l'.u * l'.sz := Nat.mul_le_mul_right _ (by omega)
            have hmul2 : (k + (l + n)) * l'.sz = k * l'.sz + (l * l'.sz + n * l'.sz) := by rw [Nat.add_mul, Nat.add_mul]
            obtain ⟨w', c', hrun, hs, hkp, hbl, hsz', hget⟩ := run_stores (P := P) news 0 (o := l'.δ + k * l'.sz + l * l'.sz) R.heap (by omega) (fun j hj hj' => R.hfz j (by omega) hj') hn1
            have hx2 : Ext h μ w ⟨Nat.succ h.next, (h.m.del b).set h.next (.cells el' ((l + n) * l'.sz) d2 (stCells new t2 (l * l'.sz)) fz false)⟩ (Ev.upd μ h.next ⟨l'.B, l'.δ + k * l'.sz, l'.u - k, l'.sz⟩) w' := by
              have hle' := upd_le (μ := μ) ⟨l'.B, l'.δ + k * l'.sz, l'.u - k, l'.sz⟩ (hr.fresh h.next (Nat.le_refl _))
              refine Ext.move hr hg (RO_no (by omega)) hl rfl hs hkp ⟨c', fr, hbl, ?_, ?_, (fun h => by cases h), fun i hi => ?_, fun i hi x hx => ?_, R.hfz0, fun j hj hj' => R.hfz j (by have hj : l'.δ + k * l'.sz + fz ≤ j + 1 := hj; omega) (by omega)⟩
              · show l'.δ + k * l'.sz + (l + n) * l'.sz ≤ c'.size
                rw [Nat.add_mul]; omega
              · show l'.δ + k * l'.sz + (l'.u - k) * l'.sz ≤ c'.size
                have : (l'.u - k) * l'.sz = l'.u * l'.sz - k * l'.sz := Nat.sub_mul _ _ _
                have h2 : k * l'.sz ≤ l'.u * l'.sz := Nat.mul_le_mul_right _ (by omega)
                omega
              · have hi : i < (l + n) * l'.sz := hi
                rw [Nat.add_mul] at hi
                show ∃ x, c'[l'.δ + k * l'.sz + i]? = some x ∧ _
                rw [cellAt_stCells, hget]
                by_cases hlt : i < l * l'.sz
                · rw [dif_neg (by omega), if_neg (by omega), hcell i hlt]
                  obtain ⟨x, hx, hv⟩ := R.cell (k * l'.sz + i) (by omega)
                  exact ⟨x, by rw [← hx]; congr 1; omega, hv.mono hle'⟩
                · rw [dif_pos (by omega), if_pos (by omega)]
                  obtain ⟨x, hx, hv⟩ := hnv.get (i - l * l'.sz) _ (List.getElem?_eq_getElem (by omega))
                  exact ⟨x, by rw [← hx]; congr 1; omega, hv.mono hle'⟩
              · have hi : i < l'.δ + k * l'.sz + (l + n) * l'.sz := hi
                rw [Nat.add_mul] at hi
                rw [hget i] at hx
                split at hx
                · exact hn1 x (List.mem_of_getElem? hx)
                · exact R.one i (by omega) x hx
            refine ⟨_, _, _, _, _, run_room (P := P) ht hu hi hlen (by rw [hinf]; exact hfc w rfl) hfit (by rw [hinf, add_none]; exact hrun), hx2,
              .sliceU h.next 0 (l + n) ⟨l'.B, l'.δ + k * l'.sz, l'.u - k, l'.sz⟩ _ (upd_same _ _ _) (by simpa using hfit) (.inr (by simp)), ?_⟩
            rw [← e4]; rfl
          · -- a new row
            have hdel := Ext.del hr b
            obtain ⟨cap, hcap, hrun⟩ := run_grow (P := P) (w := w) (ty := ty) ht hu hi hzv (base := some a) (sLen := l) (sCap := l'.u - k) (olds := (ca.toList.drop (l'.δ + k * l'.sz)).take (l * l'.sz)) hlen
              (fun w' hw' => by
                simp only [Builtin.firstCells]
                rw [hinf]
                rcases ha with ha | ha
                · have hl0 : l = 0 := by omega
                  subst hl0
                  simp only [Nat.zero_mul, List.take_zero]
                  rfl
                · rw [ha]; exact run_loads (by rw [hw']; exact R.heap) (by omega)) (fun w' hw' => by rw [hinf]; exact hfc w' hw') (by omega) hb
            have hol : ((ca.toList.drop (l'.δ + k * l'.sz)).take (l * l'.sz)).length = l * l'.sz := by simp; omega
            have hx2 := grown_ext (h := ⟨h.next, h.m.del b⟩) (μ := μ) hdel.hr.drew (e := el') (z := l'.sz) (L := l) (n := n) (cap := cap) (d := d2) (t := t2) (new := new) (olds := (ca.toList.drop (l'.δ + k * l'.sz)).take (l * l'.sz)) (news := news) (fz := fz) (zv := zv) hz0 ho (by omega)
              (fun i hi => by
                have hi : i < l * l'.sz := hi
                rw [hcell i hi, List.getElem?_take, if_pos hi, List.getElem?_drop]
                obtain ⟨x, hx, hv⟩ := R.cell (k * l'.sz + i) (by omega)
                exact ⟨x, by rw [← hx, Nat.add_assoc]; simp, hv⟩) hol (R.one_in (by omega)) hnv hnl hn1 hcap
            refine ⟨_, _, _, _, _, hrun, (hdel.trans (Ext.drew hdel.hr)).trans hx2, .sliceU h.next 0 (l + n) ⟨w.drew.heap.size, 0, cap, l'.sz⟩ _ (upd_same _ _ _) (by simpa using hcap) (.inr (by simp)), ?_⟩
            rw [← e4]; rfl
      · exact hf.no e
    · exact hf.no e
  · exact hf.no e

end Go.Ev
