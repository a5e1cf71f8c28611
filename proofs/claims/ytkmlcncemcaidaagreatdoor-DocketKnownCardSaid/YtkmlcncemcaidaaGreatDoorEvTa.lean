/- The abstract evaluator: the operations that make values. -/
import Derived.Test.YtkmlcncemcaidaaGreatDoorEvY
namespace Go.Ev
variable {P : Program} {w : World}

theorem ldCells_cells {μ : Mu} {d : List AV} {c : Tr AV} {C : Array Value} (h : ∀ i, i < C.size → ∃ x, C[i]? = some x ∧ VR μ (cellAt d c i) x) : VRs μ (ldCells d c C.size 0) C.toList := by
  refine VRs.of_get (by rw [ldCells_length]; rfl) fun i v x h1 h2 => ?_
  have hi : i < C.size := by
    have := (List.getElem?_eq_some_iff.1 h2).1
    simpa using this
  rw [ldCells_get d c C.size 0 i hi] at h1
  cases h1
  obtain ⟨y, hy, hv⟩ := h i hi
  rw [Nat.zero_add]
  have h2' : C[i]? = some x := by simpa using h2
  rw [hy] at h2'; cases h2'
  exact hv

theorem set_fold (off : Nat) : ∀ (vs : List Value) (j : Nat) (C : Array Value), off + j + vs.length ≤ C.size →
    ((vs.zipIdx j).foldl (fun cs (c, j) => cs.setIfInBounds (off + j) c) C).size = C.size ∧
    ∀ i, ((vs.zipIdx j).foldl (fun cs (c, j) => cs.setIfInBounds (off + j) c) C)[i]? = if h : off + j ≤ i ∧ i < off + j + vs.length then some (vs[i - (off + j)]'(by omega)) else C[i]?
  | [], j, C, _ => ⟨rfl, fun i => by rw [dif_neg (by simp only [List.length_nil]; omega)]; rfl⟩
  | v :: vs, j, C, h => by
    simp only [List.length_cons] at h
    rw [List.zipIdx_cons, List.foldl_cons]
    obtain ⟨h1, h2⟩ := set_fold off vs (j + 1) (C.setIfInBounds (off + j) v) (by rw [Array.size_setIfInBounds]; omega)
    refine ⟨by rw [h1, Array.size_setIfInBounds], fun i => ?_⟩
    rw [h2]
    by_cases hi : off + (j + 1) ≤ i ∧ i < off + (j + 1) + vs.length
    · have hi' : off + j ≤ i ∧ i < off + j + (v :: vs).length := ⟨by omega, by simp only [List.length_cons]; omega⟩
      rw [dif_pos hi, dif_pos hi']
      congr 1
      have : i - (off + j) = (i - (off + (j + 1))) + 1 := by omega
      simp only [this, List.getElem_cons_succ]
    · rw [dif_neg hi]
      by_cases h3 : i = off + j
      · subst h3
        rw [dif_pos ⟨Nat.le_refl _, by simp only [List.length_cons]; omega⟩, Array.getElem?_setIfInBounds, if_pos rfl, if_pos (by omega)]
        simp
      · rw [dif_neg (by simp only [List.length_cons]; omega), Array.getElem?_setIfInBounds, if_neg (fun e => h3 e.symm)]

theorem fill_sound {μ : Mu} {pl : Nat → Option (Nat × Nat)} {tot : Nat} {d : List AV} : ∀ (ps : List (Nat × Operand)) (l : List AV) (cs : List Value) (c c' : Tr AV) (C : Array Value), C.size = tot → VRs μ l cs →
    fillL pl tot ps l c = some c' → (∀ i, i < C.size → ∃ x, C[i]? = some x ∧ VR μ (cellAt d c i) x) → (∀ x ∈ C.toList, one x = true) →
    ∃ C', Instr.fill pl C ((ps.zip cs).map fun p => (p.1.1, p.2)) = some C' ∧ C'.size = tot ∧ (∀ i, i < C'.size → ∃ x, C'[i]? = some x ∧ VR μ (cellAt d c' i) x) ∧ (∀ x ∈ C'.toList, one x = true) := by
  intro ps
  induction ps with
  | nil =>
    intro l cs c c' C hC hv e hcell h1
    cases hv with
    | nil => simp only [fillL, Option.some.injEq] at e; subst e; exact ⟨C, rfl, hC, hcell, h1⟩
    | cons => simp [fillL] at e
  | cons p ps ih =>
    intro l cs c c' C hC hv e hcell h1
    obtain ⟨i, x⟩ := p
    cases hv with
    | nil => simp [fillL] at e
    | cons v cv l cs hv hvs =>
      simp only [fillL] at e
      split at e
      · next o n vs hp hcv =>
        cases hb : an (Nat.beq vs.length n) (Nat.ble (Nat.add o n) tot) with
        | false => rw [hb] at e; cases e
        | true =>
          rw [hb] at e
          obtain ⟨hn, hle⟩ := an_true hb
          have hn := Nat.eq_of_beq_eq_true hn
          have hle : o + n ≤ tot := Nat.le_of_ble_eq_true hle
          subst hn
          obtain ⟨hvv, hv1⟩ := cellsV_inv hv hcv
          have hlen : vs.length = cv.cells.size := by have := hvv.length; simpa using this
          obtain ⟨s1, s2⟩ := set_fold o cv.cells.toList 0 C (by simp only [Array.length_toList]; omega)
          have hfold : cv.cells.zipIdx.foldl (fun cs (c, j) => cs.setIfInBounds (o + j) c) C = (cv.cells.toList.zipIdx 0).foldl (fun cs (c, j) => cs.setIfInBounds (o + j) c) C := by
            rw [← Array.foldl_toList, Array.toList_zipIdx]
          obtain ⟨C', e1, e2, e3, e4⟩ := ih l cs (stCells vs c o) c' ((cv.cells.toList.zipIdx 0).foldl (fun cs (c, j) => cs.setIfInBounds (o + j) c) C) (by rw [s1, hC]) hvs e (fun j hj => by
            rw [s1] at hj
            rw [s2, cellAt_stCells]
            by_cases hr : o ≤ j ∧ j < o + vs.length
            · have hr' : o + 0 ≤ j ∧ j < o + 0 + cv.cells.toList.length := ⟨by omega, by simp only [Array.length_toList]; omega⟩
              rw [dif_pos hr, dif_pos hr']
              obtain ⟨y, hy, hvy⟩ := hvv.get (j - o) _ (List.getElem?_eq_getElem (by omega))
              have : cv.cells.toList[j - (o + 0)]? = some y := by simpa using hy
              rw [List.getElem?_eq_some_iff] at this
              obtain ⟨hh, hy2⟩ := this
              exact ⟨y, by rw [hy2], hvy⟩
            · rw [dif_neg hr, dif_neg (by simp only [Array.length_toList]; omega)]
              exact hcell j hj) (fun y hy => by
            obtain ⟨j, hj, rfl⟩ := List.getElem_of_mem hy
            have : ((cv.cells.toList.zipIdx 0).foldl (fun cs (c, j) => cs.setIfInBounds (o + j) c) C)[j]? = some ((cv.cells.toList.zipIdx 0).foldl (fun cs (c, j) => cs.setIfInBounds (o + j) c) C).toList[j] := by simp
            rw [s2] at this
            split at this
            · have h3 := Option.some.inj this
              rw [← h3]; exact hv1 _ (List.getElem_mem _)
            · obtain ⟨hh, h3⟩ := Array.getElem?_eq_some_iff.1 this
              rw [← h3]; exact h1 _ (by simp))
          refine ⟨C', ?_, e2, e3, e4⟩
          simp only [List.zip_cons_cons, List.map_cons, Instr.fill, hp]
          rw [if_neg (by simp only [Bool.or_eq_true, ne_eq, decide_eq_true_eq]; omega), hfold]
          exact e1
      · cases e

theorem run_places : ∀ (fs : List Field), (fs.all fun f => (P.info? f.type).isSome) = true →
    (fs.mapM fun f => (do pure (f.offset, ← sizeOf f.type) : Sem (Nat × Nat))).run P w = .ok (fs.map fun f => (f.offset, szOf P f.type)) w
  | [], _ => by simp
  | f :: fs, h => by
    rw [List.all_cons, Bool.and_eq_true] at h
    obtain ⟨i, hi⟩ := Option.isSome_iff_exists.1 h.1
    have ih := run_places fs h.2
    rw [List.mapM_cons]
    simp only [Sem.run_bind, run_sizeOf hi, Result.andThen, Sem.run_pure, ih, List.map_cons]
theorem zip_parts (ρ : Operand → Value) : ∀ ps : List (Nat × Operand), ((ps.zip (ps.map fun p => ρ p.2)).map fun p => (p.1.1, p.2)) = ps.map fun p => (p.1, ρ p.2)
  | [] => rfl
  | p :: ps => by simp only [List.map_cons, List.zip_cons_cons, zip_parts ρ ps]

theorem build_sound {h : H} {μ : Mu} (hr : HR h μ w) {t : TypeId} {ps : Array (Nat × Operand)} {ρ : Operand → Value} {o : Oper} {cx : Cx} {f : Fr} {l : List AV} (hv : VRs μ l (ps.toList.map fun p => ρ p.2)) {c : KV} {r : R} (hf : Fin r)
    (e : aBuild t ps o P cx f l h c = r) : Out P (Instr.build t (ps.map fun (i, x) => (i, ρ x))) h μ w c r := by
  unfold aBuild at e
  split at e
  · next z fs hz hd =>
    have hd := desc_eq hd (by simp)
    obtain ⟨hk, e⟩ := cond_fail hf e
    split at e
    · next tr hfl =>
      obtain ⟨i, zv, hi, hzv, rfl, h1, hs⟩ := zcells_inv hz
      obtain ⟨C, e1, e2, e3, e4⟩ := fill_sound (d := []) _ _ _ _ _ zv.cells (by simp) hv hfl (fun i hi' => list_cells (ofV0s_VR μ _) i (by simpa using hi')) h1
      rw [zip_parts] at e1
      have hpl : (fun i => (fs.map fun f => (f.offset, szOf P f.type))[i]?) = plS P fs := by
        funext i
        unfold plS
        rw [Array.getElem?_map]
        cases fs[i]? <;> rfl
      refine Out.same hr ?_ (.agg _ C (by rw [← e2]; exact ldCells_cells e3) e4) e
      have hrun := run_places (P := P) (w := w) fs.toList hk
      have hmm : (fs.mapM fun f => (do pure (f.offset, ← sizeOf f.type) : Sem (Nat × Nat))).run P w = .ok (fs.map fun f => (f.offset, szOf P f.type)) w := by
        rw [Array.mapM_eq_mapM_toList]
        simp only [Sem.run_map, hrun, Result.andThen]
        simp
        apply Array.ext'
        simp
      have e1' : Instr.fill (fun i => (fs.map fun f => (f.offset, szOf P f.type))[i]?) zv.cells (ps.toList.map fun p => (p.1, ρ p.2)) = some C := by rw [hpl]; exact e1
      simp only [Instr.build, Sem.run_bind, zeroValue, run_typeInfo hi, hzv, Result.andThen, Sem.run_pure, run_underlying hd, hmm, Array.toList_map, e1']
    · exact hf.no e
  · next z n el hz hd =>
    have hd := desc_eq hd (by simp)
    split at e
    · next ei hei =>
      split at e
      · next tr hfl =>
        obtain ⟨i, zv, hi, hzv, rfl, h1, hs⟩ := zcells_inv hz
        obtain ⟨C, e1, e2, e3, e4⟩ := fill_sound (d := []) _ _ _ _ _ zv.cells (by simp) hv hfl (fun i hi' => list_cells (ofV0s_VR μ _) i (by simpa using hi')) h1
        rw [zip_parts] at e1
        refine Out.same hr ?_ (.agg _ C (by rw [← e2]; exact ldCells_cells e3) e4) e
        have e1' : Instr.fill (fun i => some (i * ei.size, ei.size)) zv.cells (ps.toList.map fun p => (p.1, ρ p.2)) = some C := e1
        simp only [Instr.build, Sem.run_bind, zeroValue, run_typeInfo hi, hzv, Result.andThen, Sem.run_pure, run_underlying hd, sizeOf, run_typeInfo hei, Array.toList_map, e1']
      · exact hf.no e
    · exact hf.no e
  · exact hf.no e

theorem range0 (g : Nat → Value) : (Array.range 0).map g = #[] := by
  apply Array.eq_empty_of_size_eq_zero
  simp
theorem buildSlice_sound {h : H} {μ : Mu} (hr : HR h μ w) {t : TypeId} {n : Nat} {ps : Array (Nat × Operand)} {ρ : Operand → Value} {o : Oper} {cx : Cx} {f : Fr} {l : List AV} (hv : VRs μ l (ps.toList.map fun p => ρ p.2)) {c : KV} {r : R} (hf : Fin r)
    (e : aBuildSlice t n ps o P cx f l h c = r) : Out P (Instr.buildSlice t n (ps.map fun (i, x) => (i, ρ x))) h μ w c r := by
  unfold aBuildSlice at e
  split at e
  · next el hsl =>
    have ht := slOf_inv hsl
    split at e
    · next z hz =>
      obtain ⟨hc, e⟩ := cond_fail hf e
      obtain ⟨hz0, hlim⟩ := an_true hc
      obtain ⟨i, zv, hi, hzv, rfl, h1, hs⟩ := zcells_inv hz
      have hz0 : 0 < zv.cells.size := by have h1 : 0 < _ := Nat.le_of_ble_eq_true hz0; simpa using h1
      have hlim : n * zv.cells.size < 16777216 := by have h1 : _ < 16777216 := Nat.le_of_ble_eq_true hlim; simpa using h1
      split at e
      · next tr hfl =>
        simp only [List.length_map, Array.length_toList] at hfl e
        obtain ⟨r1, r2, r3⟩ := zero_row (μ := μ) hz0 h1 (n * zv.cells.size)
        obtain ⟨C, e1, e2, e3, e4⟩ := fill_sound (d := zv.cells.toList.map ofV0) _ _ _ _ _ ((Array.range (n * zv.cells.size)).map (zv.cells[· % zv.cells.size]!)) r3 hv hfl (fun i hi' => r1 i (by rw [r3] at hi'; exact hi')) r2
        rw [zip_parts] at e1
        have hx := Ext.cells hr (ty := el) (n := n * zv.cells.size) (d := zv.cells.toList.map ofV0) (t := tr) (fz := 0) (ex := true) (c := C) (u := 0) (sz := 0) (by rw [e2]; exact Nat.le_refl _) (by omega) (fun _ => e2) (fun i hi' => e3 i (by rw [e2]; exact hi')) e4
        refine ⟨_, _, _, _, _, ?_, hx, .slice h.next 0 n n _ (upd_same _ _ _), e⟩
        have e1' : Instr.fill (fun i => some (i * zv.cells.size, zv.cells.size)) ((Array.range (n * zv.cells.size)).map (zv.cells[· % zv.cells.size]!)) (ps.toList.map fun p => (p.1, ρ p.2)) = some C := e1
        have hlim' : ¬ (16777216 < n * i.size) := by rw [← hs]; omega
        have hlim2 : ¬ (2 ^ 24 < n * i.size) := hlim'
        by_cases h0 : n * i.size = 0
        · rw [hs] at e1'
          have hn0 : n = 0 := by
            rcases Nat.mul_eq_zero.1 h0 with h | h
            · exact h
            · rw [← hs] at h; omega
          subst hn0
          have e2' : Instr.fill (fun j => some (j * i.size, i.size)) #[] (ps.toList.map fun p => (p.1, ρ p.2)) = some C := by
            rw [Nat.zero_mul, range0] at e1'
            exact e1'
          simp [Instr.buildSlice, run_underlying ht, sizeOf, typeInfo, hi, newRow, range0, e2']
        · rw [hs] at e1'
          simp [Instr.buildSlice, run_underlying ht, sizeOf, typeInfo, hi, hlim', h0, zeroValue, hzv, newRow, e1', hs]
      · exact hf.no e
    · exact hf.no e
  · exact hf.no e

theorem i64_wrap {n : Nat} (h : n < 9223372036854775808) : IntKind.i64.wrap (n : Int) = n := by
  rw [← wr_eq]
  have : inR .i64 (Int.ofNat n) = true := by
    show Nat.blt n (hf .i64) = true
    exact Nat.ble_eq_true_of_le (show n + 1 ≤ hf .i64 from h)
  show wr .i64 (Int.ofNat n) = _
  unfold wr
  rw [this]
  rfl
theorem makeSlice_sound {h : H} {μ : Mu} (hr : HR h μ w) {t : TypeId} {xo yo : Operand} {x y : AV} {cx cy : Value} (hx : VR μ x cx) (hy : VR μ y cy) {o : Oper} {cc : Cx} {f : Fr} {c : KV} {r : R} (hf : Fin r)
    (e : aMkS t xo yo o P cc f x y h c = r) : Out P (Instr.makeSlice t cx cy) h μ w c r := by
  unfold aMkS at e
  split at e
  · next el n m hsl hn hm =>
    have ht := slOf_inv hsl
    obtain ⟨k1, rfl⟩ := natOf_inv hx hn
    obtain ⟨k2, rfl⟩ := natOf_inv hy hm
    split at e
    · next z hz =>
      obtain ⟨hc, e⟩ := cond_fail hf e
      obtain ⟨hle, hc⟩ := an_true hc
      obtain ⟨hok, hz0⟩ := an_true hc
      have hle : n ≤ m := Nat.le_of_ble_eq_true hle
      obtain ⟨i', v', hi, hzv, h1, hs, his, hsz, hb⟩ := appOk_inv hok
      obtain ⟨i, zv, hi2, hzv2, hzl, _, _⟩ := zcells_inv hz
      rw [hi] at hi2; cases hi2
      rw [hzv] at hzv2; cases hzv2
      subst hzl
      obtain ⟨r1, r2, r3⟩ := zero_row (μ := μ) (vs := v'.cells) (by omega) h1 (m * szOf P el)
      have hx := Ext.cells hr (ty := el) (n := m * szOf P el) (d := v'.cells.toList.map ofV0) (t := .nil) (fz := 0) (ex := true) (c := (Array.range (m * szOf P el)).map (v'.cells[· % v'.cells.size]!)) (u := 0) (sz := 0) (by rw [r3]; exact Nat.le_refl _) (by omega) (fun _ => r3) r1 r2
      refine ⟨_, _, _, _, _, ?_, hx, .slice h.next 0 n m _ (upd_same _ _ _), e⟩
      have hmb : m * i'.bytes + m < 1099511627776 := by rw [← Nat.mul_succ]; exact hb
      have hnb : n * i'.bytes ≤ m * i'.bytes := Nat.mul_le_mul_right _ hle
      have w1 : IntKind.i64.wrap (n : Int) = n := i64_wrap (by omega)
      have w2 : IntKind.i64.wrap (m : Int) = m := i64_wrap (by omega)
      have g1 : ¬ ((m : Int) < 0) := by omega
      have g2 : ¬ ((n : Int) < 0) := by omega
      have g3 : ¬ ((m : Int) < (n : Int)) := by omega
      have g4 : ¬ (281474976710656 < (i'.bytes : Int) * (m : Int)) := by
        have : (i'.bytes : Int) * (m : Int) = ((m * i'.bytes : Nat) : Int) := by rw [Int.natCast_mul, Int.mul_comm]
        rw [this]; omega
      by_cases h0 : m * i'.size = 0
      · have hm0 : m = 0 := by
          rcases Nat.mul_eq_zero.1 h0 with h | h
          · exact h
          · omega
        subst hm0
        have hn0 : n = 0 := by omega
        subst hn0
        simp [Instr.makeSlice, run_underlying ht, asInt, asIntOf, typeInfo, hi, sizeOf, newRow, range0, (show IntKind.i64.wrap 0 = 0 from rfl)]
      · rw [his] at h0
        simp [Instr.makeSlice, run_underlying ht, asInt, asIntOf, typeInfo, hi, hzv, w1, w2, g1, g2, g3, g4, h0, sizeOf, zeroValue, newRow, his]
    · exact hf.no e
  · exact hf.no e

theorem mkI_sound {h : H} {μ : Mu} (hr : HR h μ w) {t : TypeId} {x : AV} {cx : Value} (hx : VR μ x cx) {o : Oper} {cc : Cx} {f : Fr} {xo : Operand} {c : KV} {r : R} (hf : Fin r)
    (e : aMkI t xo o P cc f x h c = r) : Out P (Instr.makeInterface t cx) h μ w c r := by
  unfold aMkI at e
  split at e
  · exact hf.no e
  · exact hf.no e
  · next h1 h2 =>
    have hd := desc_eq (P := P) (t := t) rfl h2
    refine Out.same hr ?_ (.iface t x cx hx) e
    simp only [Instr.makeInterface, Sem.run_bind, run_underlying hd, Result.andThen]
    cases hdd : desc P t <;> first | rfl | exact absurd hdd (h1 _)

theorem tA_sound {h : H} {μ : Mu} (hr : HR h μ w) {xo : Operand} {xt t : TypeId} {ok : Bool} {x : AV} {cx : Value} (hx : VR μ x cx) {o : Oper} {cc : Cx} {f : Fr} {c : KV} {r : R} (hf : Fin r)
    (e : aTA xo xt t ok o P cc f x h c = r) : Out P (Instr.typeAssert cx xt t ok) h μ w c r := by
  have fails : ∀ (s1 s2 : Option TypeId) (m : String) {cz : AV → R} , (bif ok then (match zv P t with | some z => c (.tup [z, .bool false]) h | none => R.fail "zero") else .fail "typeAssert") = r →
      ∃ v cv, (if ok then (do pure (.tuple #[← zeroValue t, .bool false]) : Sem Value) else runtimePanic (.typeAssertion s1 s2 t m)).run P w = .ok cv w ∧ VR μ v cv ∧ c v h = r := by
    intro s1 s2 m _ e
    cases ok with
    | false => exact hf.no e
    | true =>
      simp only [cond_true] at e
      split at e
      · next z hz =>
        obtain ⟨v, h1, h2⟩ := zv_inv (P := P) (w := w) hz μ
        exact ⟨_, _, by simp [h1], .tup [z, .bool false] #[v, .bool false] (.cons _ _ _ _ h2 (.cons _ _ _ _ (.bool false) .nil)), e⟩
      · exact hf.no e
  unfold aTA at e
  split at e
  · exact hf.no e
  · exact hf.no e
  · next u x' h1 h2 =>
    have hd := desc_eq (P := P) (t := t) rfl h2
    cases hx with | iface _ _ cv hv =>
    cases hb : Nat.beq u t with
    | true =>
      rw [hb] at e
      have := Nat.eq_of_beq_eq_true hb
      subst this
      simp only [cond_true] at e
      refine Out.same (v := bif ok then .tup [x', .bool true] else x') (cv := if ok then .tuple #[cv, .bool true] else cv) hr ?_ ?_ e
      · simp only [Instr.typeAssert, Sem.run_bind, run_underlying hd, Result.andThen]
        cases hdd : desc P u <;> first | exact absurd hdd (h1 _) | (cases ok <;> simp)
      · cases ok
        · exact hv
        · exact .tup _ _ (.cons _ _ _ _ hv (.cons _ _ _ _ (.bool true) .nil))
    | false =>
      rw [hb] at e
      simp only [cond_false] at e
      obtain ⟨v, cv', e1, e2, e3⟩ := fails (some xt) (some u) "" (cz := fun _ => r) e
      refine Out.same hr ?_ e2 e3
      have hne : ¬ (u = t) := fun e => by subst e; simp at hb
      rw [← e1]
      simp only [Instr.typeAssert, Sem.run_bind, run_underlying hd, Result.andThen]
      cases hdd : desc P t <;> first | exact absurd hdd (h1 _) | simp [hne]
  · next h1 h2 =>
    have hd := desc_eq (P := P) (t := t) rfl h2
    cases hx
    obtain ⟨v, cv', e1, e2, e3⟩ := fails (some xt) none "" (cz := fun _ => r) e
    refine Out.same hr ?_ e2 e3
    rw [← e1]
    simp only [Instr.typeAssert, Sem.run_bind, run_underlying hd, Result.andThen]
  · exact hf.no e

theorem ex_sound {h : H} {μ : Mu} (hr : HR h μ w) {xo : Operand} {i : Nat} {x : AV} {cx : Value} (hx : VR μ x cx) {o : Oper} {cc : Cx} {f : Fr} {c : KV} {r : R} (hf : Fin r)
    (e : aEx xo i o P cc f x h c = r) : Out P (Instr.extract cx i) h μ w c r := by
  unfold aEx at e
  split at e
  · next l =>
    cases hx with | tup _ cs hv =>
    split at e
    · next v hl =>
      obtain ⟨cv, h1, h2⟩ := hv.get i v hl
      refine Out.same hr ?_ h2 e
      have : cs[i]? = some cv := by simpa using h1
      simp [Instr.extract, this]
    · exact hf.no e
  · exact hf.no e

theorem mkM_sound {h : H} {μ : Mu} (hr : HR h μ w) {t : TypeId} {ρ : Operand → Value} {ro : Option Operand} {o : Oper} {cc : Cx} {f : Fr} {c : KV} {r : R} (hf : Fin r)
    (e : aMkM t ro o P cc f h c = r) : Out P (Instr.makeMap t (ro.map ρ)) h μ w c r := by
  unfold aMkM at e
  split at e
  · have hx := Ext.new hr (.map #[] 0) (.mp [] [] 0 false) ⟨w.heap.size, 0, 0, 0⟩ rfl ⟨#[], alloc_get w _, .nil, .nil, rfl⟩
    refine ⟨_, _, _, _, _, ?_, hx, .map h.next _ (upd_same _ _ _), e⟩
    simp [Instr.makeMap]
  · exact hf.no e

end Go.Ev
