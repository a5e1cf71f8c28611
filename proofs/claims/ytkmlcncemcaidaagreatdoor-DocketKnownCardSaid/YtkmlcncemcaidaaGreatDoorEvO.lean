/- The abstract evaluator: what it says of loads, stores, fields and new variables holds in the model. -/
import Derived.Test.YtkmlcncemcaidaaGreatDoorEvS
namespace Go.Ev

def Fin (r : R) : Prop := ∀ s, r ≠ .fail s
theorem Fin.no {s : String} {r : R} (hf : Fin r) (h : R.fail s = r) {p : Prop} : p := absurd h.symm (hf s)
theorem bt {s : String} {y r : R} {b : Bool} (hf : Fin r) (h : (Bool.rec (.fail s) y b : R) = r) : b = true ∧ y = r := by
  cases b
  · exact hf.no h
  · exact ⟨rfl, h⟩
theorem bf {s : String} {y r : R} {b : Bool} (hf : Fin r) (h : (Bool.rec y (.fail s) b : R) = r) : b = false ∧ y = r := by
  cases b
  · exact ⟨rfl, h⟩
  · exact hf.no h
theorem cond_fail {s : String} {y r : R} {b : Bool} (hf : Fin r) (h : (bif b then y else .fail s) = r) : b = true ∧ y = r := by
  cases b
  · exact hf.no h
  · exact ⟨rfl, h⟩
theorem opt {α : Type} {s : String} {g : α → R} {r : R} {o : Option α} (hf : Fin r) (h : (Option.rec (.fail s) g o : R) = r) : ∃ x, o = some x ∧ g x = r := by
  cases o
  · exact hf.no h
  · exact ⟨_, rfl, h⟩
theorem an_true {a b : Bool} (h : an a b = true) : a = true ∧ b = true := by
  cases a <;> cases b <;> first | exact ⟨rfl, rfl⟩ | (exact absurd h (by decide))
theorem nt_eq (b : Bool) : nt b = !b := by cases b <;> rfl
theorem onBlk_eq {h : H} {b : Nat} {k : KB} {r : R} (hf : Fin r) (e : onBlk h b k = r) :
    ∃ ty n d t fz ex, h.m.get b = some (.cells ty n d t fz ex) ∧ k ty n d t fz ex = r := by
  unfold onBlk at e
  obtain ⟨blk, h1, h2⟩ := opt hf e
  cases blk with
  | cells ty n d t fz ex => exact ⟨ty, n, d, t, fz, ex, h1, h2⟩
  | mp es bs cl ro => exact hf.no h2
  | it m since seen last => exact hf.no h2
theorem onPtr_eq {k : Nat → Nat → R} {a : AV} {r : R} (hf : Fin r) (e : onPtr k a = r) : ∃ b o, a = .ptr b o ∧ k b o = r := by
  unfold onPtr at e
  split at e
  · exact ⟨_, _, rfl, e⟩
  · exact hf.no e
theorem VR.ptr_inv {μ : Mu} {b o : Nat} {c : Value} (h : VR μ (.ptr b o) c) : ∃ l, μ b = some l ∧ c = .pointer (some ⟨l.B, l.δ + o, none⟩) := by
  cases h with | ptr _ _ l h => exact ⟨l, h, rfl⟩
theorem VR.one_of {μ : Mu} {v : AV} {c : Value} (h : VR μ v c) (h1 : isOne v = true) : one c = true := by
  cases h <;> first | rfl | (exact absurd h1 (by simp [isOne]))

/-! constants -/
theorem ofV0_VR (μ : Mu) (v : Value) : VR μ (ofV0 v) v := by
  unfold ofV0
  split
  · exact .bool _
  · exact .int _ _
  · exact .flt _
  · exact .str _ _ _ rfl rfl
  · exact .nilptr
  · exact .nilslice
  · exact .nilmap
  · exact .nilfunc
  · exact .niliface
  · split
    · next h =>
      simp only [Bool.and_eq_true, List.isEmpty_iff] at h
      exact .func _ _ _ _ _ (by rw [h.1]; exact .nil) (by rw [h.2]; exact .nil)
    · exact .bad _
  · exact .bad _
theorem ofV0s_VR (μ : Mu) : ∀ l : List Value, VRs μ (l.map ofV0) l
  | [] => .nil
  | v :: l => .cons _ _ _ _ (ofV0_VR μ v) (ofV0s_VR μ l)
theorem ofV_VR (μ : Mu) (v : Value) : VR μ (ofV v) v := by
  unfold ofV
  split
  · split
    · next h => exact .agg _ _ (ofV0s_VR μ _) (fun c hc => List.all_eq_true.1 h c hc)
    · exact .bad _
  · exact .tup _ _ (ofV0s_VR μ _)
  · exact ofV0_VR μ _

/-! types -/
variable {P : Program} {w : World}
theorem run_underlying {t : TypeId} {d : TypeDesc} (h : P.underlying t = some d) : (underlying t).run P w = .ok d w := by
  simp [underlying, h]
theorem run_typeInfo {t : TypeId} {i : TypeInfo} (h : P.info? t = some i) : (typeInfo t).run P w = .ok i w := by
  simp [typeInfo, h]
theorem info_of_underlying {t : TypeId} {d : TypeDesc} (h : P.underlying t = some d) : ∃ i, P.info? t = some i := by
  unfold Program.underlying at h
  cases hi : P.info? t with
  | none => rw [hi] at h; cases h
  | some i => exact ⟨i, rfl⟩
theorem run_sizeOf {t : TypeId} {i : TypeInfo} (h : P.info? t = some i) : (sizeOf t).run P w = .ok (szOf P t) w := by
  simp [sizeOf, run_typeInfo h, szOf, h]
theorem desc_eq {t : TypeId} {d : TypeDesc} (h : desc P t = d) (hd : d ≠ .invalid) : P.underlying t = some d := by
  unfold desc at h
  cases hu : P.underlying t with
  | none => rw [hu] at h; exact absurd h.symm hd
  | some x => rw [hu] at h; exact congrArg some h
theorem tk_one {t : TypeId} (h : tk P t = 1) : ∃ d, P.underlying t = some d ∧ szOf P t = 1 ∧ (isAgg t).run P w = .ok false w := by
  unfold tk at h
  split at h
  · cases h
  · cases h
  · next d hn1 hn2 hu =>
    have hs : szOf P t = 1 := by
      cases hb : Nat.beq (szOf P t) 1 with
      | true => exact Nat.eq_of_beq_eq_true hb
      | false => rw [hb] at h; cases h
    refine ⟨d, hu, hs, ?_⟩
    simp only [isAgg, Sem.run_bind, run_underlying hu, Result.andThen_ok]
    rfl
  · cases h
theorem tk_two {t : TypeId} {m : Nat} (h : tk P t = m + 2) : ∃ d, P.underlying t = some d ∧ (isAgg t).run P w = .ok true w := by
  unfold tk at h
  split at h
  · next hu => exact ⟨_, hu, by simp [isAgg, run_underlying hu]⟩
  · next hu => exact ⟨_, hu, by simp [isAgg, run_underlying hu]⟩
  · next hu => cases hb : Nat.beq (szOf P t) 1 <;> rw [hb] at h <;> simp at h
  · cases h

/-! loads -/
theorem ldCells_zero (d : List AV) (t : Tr AV) (o : Nat) : ldCells d t 0 o = [] := rfl
theorem ldCells_succ (d : List AV) (t : Tr AV) (n o : Nat) : ldCells d t (n + 1) o = cellAt d t o :: ldCells d t n (o + 1) := rfl
theorem ldCells_length (d : List AV) (t : Tr AV) : ∀ n o, (ldCells d t n o).length = n
  | 0, _ => rfl
  | n + 1, o => by rw [ldCells_succ]; simp [ldCells_length d t n (o + 1)]
theorem ldCells_get (d : List AV) (t : Tr AV) : ∀ n o i, i < n → (ldCells d t n o)[i]? = some (cellAt d t (o + i))
  | 0, _, _, h => by omega
  | n + 1, o, 0, _ => by rw [ldCells_succ]; simp
  | n + 1, o, i + 1, h => by rw [ldCells_succ]; simp; rw [ldCells_get d t n (o + 1) i (by omega)]; congr 2; omega
theorem VRs.of_get {μ : Mu} : ∀ {l : List AV} {cs : List Value}, l.length = cs.length → (∀ (i : Nat) (v : AV) (c : Value), l[i]? = some v → cs[i]? = some c → VR μ v c) → VRs μ l cs
  | [], [], _, _ => .nil
  | [], _ :: _, h, _ => by simp at h
  | _ :: _, [], h, _ => by simp at h
  | v :: l, c :: cs, h, hg => .cons v c l cs (hg 0 v c (by simp) (by simp)) (VRs.of_get (by simpa using h) fun i v c h1 h2 => hg (i + 1) v c (by simpa using h1) (by simpa using h2))

/- what a row of cells holds -/
theorem row_VRs {μ : Mu} {l : Loc} {n : Nat} {d : List AV} {t : Tr AV} {c : Array Value} (h : ∀ i, i < n → ∃ x, c[l.δ + i]? = some x ∧ VR μ (cellAt d t i) x)
    {o m : Nat} (hm : o + m ≤ n) (hc : l.δ + n ≤ c.size) : VRs μ (ldCells d t m o) ((c.toList.drop (l.δ + o)).take m) := by
  refine VRs.of_get (by rw [ldCells_length]; simp; omega) fun i v x h1 h2 => ?_
  have hi : i < m := by
    rcases Nat.lt_or_ge i m with hlt | hge
    · exact hlt
    · rw [List.getElem?_take, if_neg (by omega)] at h2; cases h2
  rw [ldCells_get d t m o i hi] at h1
  cases h1
  rw [List.getElem?_take, if_pos hi, List.getElem?_drop] at h2
  obtain ⟨y, hy, hv⟩ := h (o + i) (by omega)
  have : l.δ + o + i = l.δ + (o + i) := by omega
  rw [this] at h2
  have h3 : c[l.δ + (o + i)]? = some x := by simpa using h2
  rw [h3] at hy; cases hy
  exact hv

structure Row (h : H) (μ : Mu) (w : World) (b : Nat) (ty n : Nat) (d : List AV) (t : Tr AV) (fz : Nat) (ex : Bool) (l : Loc) (c : Array Value) (fr : Nat × Nat) : Prop where
  get : h.m.get b = some (.cells ty n d t fz ex)
  mu : μ b = some l
  lt : l.B < w.heap.size
  heap : w.heap[l.B]? = some (.cells c ty fr)
  hn : l.δ + n ≤ c.size
  hu : l.δ + l.u * l.sz ≤ c.size
  hex : ex = true → l.δ = 0 ∧ c.size = n
  cell : ∀ i, i < n → ∃ x, c[l.δ + i]? = some x ∧ VR μ (cellAt d t i) x
  one : ∀ i, i < l.δ + n → ∀ x, c[i]? = some x → one x = true
  hfz0 : fz = 0 → fr = (0, 0)
  hfz : ∀ j, l.δ + fz ≤ j + 1 → j < c.size → ¬ (fr.1 ≤ j ∧ j < fr.2)
theorem HR.row {h : H} {μ : Mu} {w : World} (hr : HR h μ w) {b ty n : Nat} {d : List AV} {t : Tr AV} {fz : Nat} {ex : Bool} (hg : h.m.get b = some (.cells ty n d t fz ex)) :
    ∃ l c fr, Row h μ w b ty n d t fz ex l c fr := by
  obtain ⟨l, h1, h2, c, fr, h3, h4, h5, h6, h7, h8, h9, h10⟩ := hr.blk _ _ hg
  exact ⟨l, c, fr, hg, h1, h2, h3, h4, h5, h6, h7, h8, h9, h10⟩
theorem one_ix {c : Array Value} (h : ∀ x ∈ c.toList, Ev.one x = true) (m : Nat) : ∀ i, i < m → ∀ x, c[i]? = some x → Ev.one x = true := fun i _ x hx => h x (List.mem_of_getElem? (i := i) (by simpa using hx))
theorem Row.one_in {h : H} {μ : Mu} {w : World} {b ty n : Nat} {d : List AV} {t : Tr AV} {fz : Nat} {ex : Bool} {l : Loc} {c : Array Value} {fr : Nat × Nat} (R : Row h μ w b ty n d t fz ex l c fr) {o k : Nat} (hok : o + k ≤ n) :
    ∀ v ∈ (c.toList.drop (l.δ + o)).take k, Ev.one v = true := fun v hv => by
  obtain ⟨i, hi, hx⟩ := List.getElem_of_mem hv
  have hik : i < k := by simp at hi; omega
  have h2 : ((c.toList.drop (l.δ + o)).take k)[i]? = some v := by rw [List.getElem?_eq_getElem hi, hx]
  rw [List.getElem?_take, if_pos hik, List.getElem?_drop] at h2
  exact R.one (l.δ + o + i) (by omega) v (by simpa using h2)

theorem ldT_sound {h : H} {μ : Mu} (hr : HR h μ w) {t : TypeId} {k : KV} {b o : Nat} {r : R} (hf : Fin r) (e : ldT P t h k b o = r) {l : Loc} (hl : μ b = some l) :
    ∃ v c, (loadVar t ⟨l.B, l.δ + o, none⟩).run P w = .ok c w ∧ VR μ v c ∧ k v h = r := by
  unfold ldT at e
  cases ht : tk P t with
  | zero => rw [ht] at e; exact hf.no e
  | succ m =>
    rw [ht] at e
    cases m with
    | zero =>
      obtain ⟨ty, n, d, tr, fz, ex, hg, h2⟩ := onBlk_eq hf (show onBlk h b (l1K h k o) = r from e)
      obtain ⟨hlt, h3⟩ := bt hf (show (Bool.rec (.fail "ld1") (k (cellAt d tr o) h) (Nat.blt o n) : R) = r from h2)
      have hlt : o < n := by simpa [Nat.blt_eq] using hlt
      obtain ⟨l', c, fr, R⟩ := hr.row hg
      have hll : l' = l := Option.some.inj (R.mu.symm.trans hl)
      subst hll
      obtain ⟨x, hx, hv⟩ := R.cell o hlt
      obtain ⟨_, _, _, hagg⟩ := tk_one (w := w) ht
      refine ⟨_, x, ?_, hv, h3⟩
      simp only [loadVar, Sem.run_bind, hagg, Result.andThen_ok, Sem.run_ite, Bool.false_eq_true, if_false]
      exact run_load_cell (by rw [cell_of R.heap]; exact hx)
    | succ m =>
      obtain ⟨ty, n, d, tr, fz, ex, hg, h2⟩ := onBlk_eq hf (show onBlk h b (lnK (szOf P t) h k o) = r from e)
      obtain ⟨hle, h3⟩ := bt hf (show (Bool.rec (.fail "ldn") (k (.agg (ldCells d tr (szOf P t) o)) h) (Nat.ble (Nat.add o (szOf P t)) n) : R) = r from h2)
      have hle : o + szOf P t ≤ n := by simpa using Nat.le_of_ble_eq_true hle
      obtain ⟨l', c, fr, R⟩ := hr.row hg
      have hll : l' = l := Option.some.inj (R.mu.symm.trans hl)
      subst hll
      obtain ⟨_, hu, hagg⟩ := tk_two (w := w) ht
      obtain ⟨i, hi⟩ := info_of_underlying hu
      refine ⟨_, .agg ((c.toList.drop (l'.δ + o)).take (szOf P t)).toArray, ?_, .agg _ _ ?_ ?_, h3⟩
      · simp only [loadVar, Sem.run_bind, hagg, Result.andThen_ok, Sem.run_ite, if_true, run_sizeOf hi]
        rw [run_loads R.heap (by have := R.hn; omega)]
        rfl
      · simpa using row_VRs R.cell hle R.hn
      · intro x hx
        exact R.one_in (o := o) (k := szOf P t) hle x (by simpa using hx)

/-! stores -/
theorem stCells_nil (c : Tr AV) (o : Nat) : stCells [] c o = c := rfl
theorem stCells_cons (v : AV) (l : List AV) (c : Tr AV) (o : Nat) : stCells (v :: l) c o = stCells l (c.set o v) (o + 1) := rfl
theorem cellAt_eq (d : List AV) (c : Tr AV) (i : Nat) : cellAt d c i = match c.get i with | some v => v | none => dflt d i := by
  unfold cellAt cellO
  cases c.get i <;> rfl
theorem cellAt_set (d : List AV) (c : Tr AV) (o : Nat) (v : AV) (i : Nat) : cellAt d (c.set o v) i = if i = o then v else cellAt d c i := by
  rw [cellAt_eq, cellAt_eq, Tr.get_set]
  by_cases h : i = o <;> simp [h]
theorem cellAt_stCells (d : List AV) : ∀ (l : List AV) (c : Tr AV) (o i : Nat), cellAt d (stCells l c o) i = if h : o ≤ i ∧ i < o + l.length then l[i - o]'(by omega) else cellAt d c i
  | [], c, o, i => by rw [stCells_nil, dif_neg (by simp)]
  | v :: l, c, o, i => by
    rw [stCells_cons, cellAt_stCells d l (c.set o v) (o + 1) i]
    simp only [List.length_cons]
    by_cases h1 : o + 1 ≤ i ∧ i < o + 1 + l.length
    · rw [dif_pos h1, dif_pos (by omega)]
      have : i - o = (i - (o + 1)) + 1 := by omega
      simp only [this, List.getElem_cons_succ]
    · rw [dif_neg h1, cellAt_set]
      by_cases h2 : i = o
      · subst h2
        rw [if_pos rfl, dif_pos (by omega)]
        simp
      · rw [if_neg h2, dif_neg (by omega)]

/- what is stored into a row of cells -/
theorem stn_sound {h : H} {μ : Mu} (hr : HR h μ w) {n : Nat} {l : List AV} {k : KV} {b o : Nat} {r : R} (hf : Fin r) (e : stn n h l k b o = r) (hn : l.length = n)
    {lo : Loc} (hl : μ b = some lo) {vs : List Value} (hv : VRs μ l vs) (h1 : ∀ v ∈ vs, one v = true) :
    ∃ w' h', (storeCells ⟨lo.B, lo.δ + o, none⟩ vs).run P w = .ok () w' ∧ Ext h μ w h' μ w' ∧ k (.tup []) h' = r := by
  obtain ⟨ty, m, d, t, fz, ex, hg, h2⟩ := onBlk_eq hf e
  obtain ⟨hc, h3⟩ := bt hf (show (Bool.rec (.fail "stn") (k (.tup []) ⟨h.next, h.m.set b (.cells ty m d (stCells l t o) fz ex)⟩) (an (Nat.ble (Nat.add o n) m) (Nat.ble fz (Nat.succ o))) : R) = r from h2)
  obtain ⟨hle, hfz⟩ := an_true hc
  have hle : o + n ≤ m := by simpa using Nat.le_of_ble_eq_true hle
  have hfz : fz ≤ o + 1 := by simpa using Nat.le_of_ble_eq_true hfz
  obtain ⟨l', c, fr, R⟩ := hr.row hg
  have hll : l' = lo := Option.some.inj (R.mu.symm.trans hl)
  subst hll
  have hlen := hv.length
  obtain ⟨w', c', hrun, hs, hk, hb, hz, he⟩ := run_stores (P := P) vs 0 (o := l'.δ + o) R.heap (by have := R.hn; omega) (fun j hj hj' => R.hfz j (by omega) hj') h1
  refine ⟨w', _, hrun, Ext.upd hr R.get (RO_no (by omega)) R.mu hs hk ?_, h3⟩
  refine ⟨c', fr, hb, by have := R.hn; omega, by have := R.hu; omega, fun hx => ⟨(R.hex hx).1, by have := (R.hex hx).2; omega⟩, ?_, ?_, R.hfz0, fun j hj hj' => R.hfz j hj (by omega)⟩
  · intro i hi
    rw [cellAt_stCells, he]
    by_cases hin : o ≤ i ∧ i < o + l.length
    · rw [dif_pos hin, if_pos (by omega)]
      obtain ⟨x, hx, hxv⟩ := hv.get (i - o) _ (List.getElem?_eq_getElem (by omega))
      exact ⟨x, by rw [← hx]; congr 1; omega, hxv⟩
    · rw [dif_neg hin, if_neg (by omega)]
      exact R.cell i hi
  · intro i hi x hget
    rw [he i] at hget
    split at hget
    · exact h1 x (List.mem_of_getElem? hget)
    · exact R.one i hi x hget

theorem stn_eq_st1 (h : H) (v : AV) (k : KV) (b o : Nat) : st1 h v k b o = stn 1 h [v] k b o := by
  unfold st1 stn s1K snK
  congr 1

theorem stT_sound {h : H} {μ : Mu} (hr : HR h μ w) {t : TypeId} {v : AV} {c : Value} (hv : VR μ v c) {k : KV} {b o : Nat} {r : R} (hf : Fin r) (e : stT P t h v k b o = r) {l : Loc} (hl : μ b = some l) :
    ∃ w' h', (storeVar t ⟨l.B, l.δ + o, none⟩ c).run P w = .ok () w' ∧ Ext h μ w h' μ w' ∧ k (.tup []) h' = r := by
  unfold stT at e
  cases ht : tk P t with
  | zero => rw [ht] at e; exact hf.no e
  | succ m =>
    rw [ht] at e
    cases m with
    | zero =>
      obtain ⟨h1, h2⟩ := bt hf (show (Bool.rec (.fail "st one") (st1 h v k b o) (isOne v) : R) = r from e)
      obtain ⟨d, hu, hs, _⟩ := tk_one (w := w) ht
      obtain ⟨i, hi⟩ := info_of_underlying hu
      have h1c := hv.one_of h1
      have hcells : c.cells = #[c] := by cases c <;> first | rfl | (exact absurd h1c (by simp [one]))
      rw [stn_eq_st1] at h2
      obtain ⟨w', h', hrun, hx, hk⟩ := stn_sound (P := P) hr hf h2 rfl hl (.cons v c [] [] hv .nil) (fun x hx => by simp at hx; subst hx; exact h1c)
      refine ⟨w', h', ?_, hx, hk⟩
      simp only [storeVar, hcells, Sem.run_bind, run_sizeOf hi, Result.andThen_ok, hs]
      simpa using hrun
    | succ m =>
      have e' : stA (szOf P t) h v k b o = r := e
      unfold stA at e'
      split at e'
      · next la =>
        obtain ⟨hlen, h2⟩ := bt hf e'
        have hlen := Nat.eq_of_beq_eq_true hlen
        obtain ⟨_, hu, _⟩ := tk_two (w := w) ht
        obtain ⟨i, hi⟩ := info_of_underlying hu
        cases hv with
        | agg _ cs hvs h1 =>
          obtain ⟨w', h', hrun, hx, hk⟩ := stn_sound (P := P) hr hf h2 hlen hl hvs h1
          refine ⟨w', h', ?_, hx, hk⟩
          have hsz : cs.size = szOf P t := by rw [← hlen, hvs.length]; simp
          simp only [storeVar, Value.cells, Sem.run_bind, run_sizeOf hi, Result.andThen_ok, hsz]
          simpa using hrun
      · exact hf.no e'

end Go.Ev
