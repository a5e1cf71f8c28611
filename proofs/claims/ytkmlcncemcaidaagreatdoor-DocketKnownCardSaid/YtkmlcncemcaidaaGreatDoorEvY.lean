/- The abstract evaluator: the builtins. -/
import Derived.Test.YtkmlcncemcaidaaGreatDoorEvX
import Derived.Lib.UnsafeStr
namespace Go.Ev
variable {P : Program} {w : World}

theorem liesAt_row {e : TypeId} (hc : P.cellsOf e = 1) (count o n : Nat) (hn : o + n ≤ count) : liesAt P P.depth e count o e n = true := by
  have hd : P.depth = (2 * (P.types.size + Made.depth) + 1) + 1 := rfl
  rw [hd]
  simp only [liesAt, Bool.or_eq_true]
  left
  rw [hd]
  simp [rowAt, hc, hn, sameLayout, Nat.mod_one]
theorem frozen_at {B : Nat} {c : Array Value} {ty : TypeId} (h : w.heap[B]? = some (.cells c ty (0, 0))) (o n : Nat) (hn : n ≠ 0) :
    (w.freeze ⟨B, o, none⟩ n).heap[B]? = some (.cells c ty (o, o + n)) ∧ (w.freeze ⟨B, o, none⟩ n).heap.size = w.heap.size ∧ ∀ x, x ≠ B → (w.freeze ⟨B, o, none⟩ n).heap[x]? = w.heap[x]? := by
  unfold World.freeze
  rw [if_neg hn]
  refine ⟨?_, by simp, fun x hx => ?_⟩
  · show (w.heap.modify B _)[B]? = _
    rw [Array.getElem?_modify, if_pos rfl, h]
    simp
  · show (w.heap.modify B _)[x]? = _
    rw [Array.getElem?_modify, if_neg (fun e => hx e.symm)]
theorem ptrTo_inv {t e : TypeId} (h : ptrTo P t e = true) : P.underlying t = some (.pointer e) ∧ P.cellsOf e = 1 := by
  unfold ptrTo at h
  split at h
  · next e' hd =>
    simp only [Bool.and_eq_true] at h
    have := Nat.eq_of_beq_eq_true h.1
    subst this
    exact ⟨desc_eq hd (by simp), Nat.eq_of_beq_eq_true h.2⟩
  · cases h

theorem us_def (ts : Array TypeId) (ty : TypeId) (a : Addr) (k : IntKind) (m : Int) : Builtin.unsafeString_ ts ty #[.pointer (some a), .int k m] =
    (do
      let n ← asInt (.int k m)
      let some pt := ts[0]? | stuck "unsafe.String: no argument types"
      if n < 0 then runtimePanic (.error "unsafe.String: len out of range")
      if n > IntKind.i64.max then unsupported (.unsafePointer "String: a length above the largest int")
      if n = 0 then pure (.string .empty)
      else if ← variablesAt a (← elemOf pt) n.toNat then do
        let s ← loadBytes a .empty n.toNat
        freeze a n.toNat
        pure (.string s)
      else unsupported (.unsafePointer "String: not so many bytes at ptr")) := rfl
theorem us_def0 (ts : Array TypeId) (ty : TypeId) (k : IntKind) (m : Int) : Builtin.unsafeString_ ts ty #[.pointer none, .int k m] =
    (do
      let n ← asInt (.int k m)
      let some _ := ts[0]? | stuck "unsafe.String: no argument types"
      if n < 0 then runtimePanic (.error "unsafe.String: len out of range")
      if n > IntKind.i64.max then unsupported (.unsafePointer "String: a length above the largest int")
      if n = 0 then pure (.string .empty)
      else runtimePanic (.error "unsafe.String: ptr is nil and len is not zero")) := rfl
theorem us_sound {h : H} {μ : Mu} (hr : HR h μ w) {t : TypeId} {ts : Array TypeId} {ty : TypeId} (hts : ts[0]? = some t) {b o n : Nat} {k : IntKind} {c : KV} {r : R} (hf : Fin r) {l : Loc} (hl : μ b = some l) (hn0 : n ≠ 0)
    (e : onBlk h b (usK h b o n c P t) = r) : Out P (Builtin.unsafeString_ ts ty #[.pointer (some ⟨l.B, l.δ + o, none⟩), .int k (n : Int)]) h μ w c r := by
  obtain ⟨bt, m, d, tr, fz, ex, hg, e⟩ := onBlk_eq hf e
  unfold usK at e
  obtain ⟨hc, e⟩ := cond_fail hf e
  obtain ⟨hm, hc⟩ := an_true hc
  obtain ⟨hp, hc⟩ := an_true hc
  obtain ⟨hz, hb⟩ := an_true hc
  have hm : o + n ≤ m := Nat.le_of_ble_eq_true hm
  have hz : fz = 0 := Nat.eq_of_beq_eq_true hz
  have hb : n < 1099511627776 := Nat.le_of_ble_eq_true hb
  obtain ⟨hp, hcell⟩ := ptrTo_inv hp
  split at e
  · next L s hbs =>
    obtain ⟨l', cs, fr, R⟩ := hr.row hg
    have hll : l' = l := Option.some.inj (R.mu.symm.trans hl)
    subst hll
    have hfr := R.hfz0 hz
    have hh := R.heap
    rw [hfr] at hh
    have hsz := R.hn
    obtain ⟨bs, h1, h2, h3⟩ := bytesStr_spec (row_VRs R.cell hm R.hn) hbs
    have hlen : bs.length = n := by
      have := congrArg List.length h1
      simp at this; omega
    have hcells : ∀ j x, bs[j]? = some x → w.cell? ((⟨l'.B, l'.δ + o, none⟩ : Addr).add j) = some (.int .u8 x.toNat) := by
      intro j x hj
      have hjl : j < n := by rw [← hlen]; exact (List.getElem?_eq_some_iff.1 hj).1
      rw [add_none, cell_of hh]
      have : ((cs.toList.drop (l'.δ + o)).take n)[j]? = some (byteV x) := by rw [h1, List.getElem?_map, hj]; rfl
      rw [List.getElem?_take, if_pos hjl, List.getElem?_drop] at this
      simpa [byteV] using this
    have hlb := Lib.run_loadBytes (P := P) w bs ⟨l'.B, l'.δ + o, none⟩ .empty hcells
    rw [hlen] at hlb
    obtain ⟨f1, f2, f3⟩ := frozen_at hh (l'.δ + o) n hn0
    refine ⟨.str L s, .string ⟨bs.toArray⟩, w.freeze ⟨l'.B, l'.δ + o, none⟩ n, μ, _, ?_, ?_, .str _ _ _ (by simp [h2]) (by simp [h3]), e⟩
    · have hlies := liesAt_row (P := P) hcell (cs.size / P.cellsOf bt) (l'.δ + o) n (by rw [hcell, Nat.div_one]; omega)
      have hmax : IntKind.i64.max = 9223372036854775807 := rfl
      have hneg : ¬ (n : Int) < 0 := by omega
      have h63 : ¬ (9223372036854775807 : Int) < (n : Int) := by omega
      rw [us_def]
      simp [asInt, asIntOf, hts, hmax, hneg, h63, hn0, variablesAt, shape_of hh, elemOf, run_underlying hp, hlies, hlb]
    · refine Ext.upd hr hg (RO_no (by omega)) hl ⟨f2, by unfold World.freeze; split <;> rfl, by unfold World.freeze; split <;> rfl⟩ f3 ⟨cs, (l'.δ + o, l'.δ + o + n), f1, R.hn, R.hu, R.hex, R.cell, R.one, fun h0 => (by cases h0), fun j hj hjs => ?_⟩
      simp only [Nat.succ_eq_add_one, Nat.add_eq] at hj
      simp only [not_and]
      omega
  · exact hf.no e

theorem head_of {ts : Array TypeId} {t : TypeId} {r : List TypeId} (h : ts.toList = t :: r) : ts[0]? = some t := by
  have : ts = (t :: r).toArray := by apply Array.ext'; simpa using h
  subst this; simp
theorem VRs.inv1 {μ : Mu} {a : AV} {cs : Array Value} (h : VRs μ [a] cs.toList) : ∃ c, cs = #[c] ∧ VR μ a c := by
  generalize hc : cs.toList = l at h
  cases h with | cons _ c _ l' h1 h2 =>
  cases h2
  exact ⟨c, by apply Array.ext'; simpa using hc, h1⟩
theorem VRs.inv2 {μ : Mu} {a b : AV} {cs : Array Value} (h : VRs μ [a, b] cs.toList) : ∃ c d, cs = #[c, d] ∧ VR μ a c ∧ VR μ b d := by
  generalize hc : cs.toList = l at h
  cases h with | cons _ c _ l' h1 h2 =>
  cases h2 with | cons _ d _ l'' h3 h4 =>
  cases h4
  exact ⟨c, d, by apply Array.ext'; simpa using hc, h1, h3⟩

def OutN (P : Program) (s : Sem Next) (h : H) (μ : Mu) (w : World) (c : KV) (r : R) : Prop :=
  ∃ v cv w' μ' h', s.run P w = .ok (.value cv) w' ∧ Ext h μ w h' μ' w' ∧ VR μ' v cv ∧ c v h' = r
theorem Out.n {s : Sem Value} {h : H} {μ : Mu} {c : KV} {r : R} (o : Out P s h μ w c r) : OutN P (do pure (.value (← s))) h μ w c r := by
  obtain ⟨v, cv, w', μ', h', h1, h2, h3, h4⟩ := o
  exact ⟨v, cv, w', μ', h', by simp [h1], h2, h3, h4⟩

theorem maxA_sound {h : H} {μ : Mu} (hr : HR h μ w) {mx : Bool} {l : List AV} {cs : Array Value} (hv : VRs μ l cs.toList) {ts : Array TypeId} {ty : TypeId} {c : KV} {r : R} (hf : Fin r) (e : maxA mx l h c = r) :
    Out P (if mx then Builtin.max_ ts ty cs else Builtin.min_ ts ty cs) h μ w c r := by
  unfold maxA at e
  split at e
  · next k a rest =>
    split at e
    · next n hn =>
      generalize hc : cs.toList = l at hv
      cases hv with | cons _ _ _ l' h1 h2 =>
      cases h1
      have : cs = (Value.int k a :: l').toArray := by apply Array.ext'; simpa using hc
      subst this
      cases mx with
      | true =>
        refine Out.same hr ?_ (.int k n) e
        have := foldMax_sound (P := P) (w := w) k a n h2 hn
        simp only [if_true, Builtin.max_]
        exact this
      | false =>
        refine Out.same hr ?_ (.int k n) e
        have := foldMin_sound (P := P) (w := w) k a n h2 hn
        simp only [Bool.false_eq_true, if_false, Builtin.min_]
        exact this
    · exact hf.no e
  · exact hf.no e

theorem builtA_sound {h : H} {μ : Mu} (hr : HR h μ w) {b : Builtin} {ts : Array TypeId} {ty : TypeId} {co : Array Bool} {args : List AV} {cs : Array Value} (hv : VRs μ args cs.toList) {c : KV} {r : R} (hf : Fin r) (e : builtA P b ts args h c = r) :
    OutN P (builtin b ts ty co cs) h μ w c r := by
  unfold builtA at e
  split at e
  · next t rest hts =>
    have hts := head_of hts
    unfold builtB at e
    split at e
    · obtain ⟨x, rfl, hx⟩ := hv.inv1
      exact (lenA_sound hr hts hx hf e).n
    · obtain ⟨x, rfl, hx⟩ := hv.inv1
      exact (capA_sound hr hts hx hf e).n
    · obtain ⟨s, x, rfl, hs, hx⟩ := hv.inv2
      exact (appA_sound hr hs hx hf e).n
    · obtain ⟨s, x, rfl, hs, hx⟩ := hv.inv2
      exact (copyA_sound hr hs hx hf e).n
    · exact (maxA_sound (mx := true) (ts := ts) (ty := ty) hr hv hf e).n
    · exact (maxA_sound (mx := false) (ts := ts) (ty := ty) hr hv hf e).n
    · obtain ⟨s, x, rfl, hs, hx⟩ := hv.inv2
      exact (delA_sound hr hs hx hf e).n
    · next b' k l z =>
      obtain ⟨x, rfl, hx⟩ := hv.inv1
      obtain ⟨h0, e⟩ := cond_fail hf e
      have h0 : 0 < l := Nat.le_of_ble_eq_true h0
      cases hx with | sliceU _ _ _ L a hL hk ha =>
      rcases ha with ha | rfl
      · omega
      · refine (Out.same hr ?_ (.ptr b' (k * L.sz) L hL) e).n
        exact Lib.run_unsafeSliceData_row w ts ty _ _ _ (by omega)
    · next b' o l cp =>
      obtain ⟨x, rfl, hx⟩ := hv.inv1
      obtain ⟨h0, e⟩ := cond_fail hf e
      have h0 : 0 < cp := Nat.le_of_ble_eq_true h0
      cases hx with | slice _ _ _ _ L hL =>
      refine (Out.same hr ?_ (.ptr b' o L hL) e).n
      exact Lib.run_unsafeSliceData_row w ts ty _ _ _ (by omega)
    · obtain ⟨x, rfl, hx⟩ := hv.inv1
      cases hx
      exact (Out.same hr (Lib.run_unsafeSliceData_nil w ts ty _ _) .nilptr e).n
    · next k n =>
      obtain ⟨x, y, rfl, hx, hy⟩ := hv.inv2
      obtain ⟨h0, e⟩ := cond_fail hf e
      rw [eqI_eq] at h0
      have h0 : n = 0 := by simpa using h0
      subst h0
      cases hx; cases hy
      refine (Out.same hr ?_ (.str ByteArray.empty 0 0 rfl rfl) e).n
      have hmax : IntKind.i64.max = 9223372036854775807 := rfl
      rw [us_def0]
      simp [asInt, asIntOf, hts, hmax]
    · next b' o k n =>
      obtain ⟨x, y, rfl, hx, hy⟩ := hv.inv2
      cases hx with | ptr _ _ L hL =>
      cases hy
      split at e
      · refine (Out.same hr ?_ (.str ByteArray.empty 0 0 rfl rfl) e).n
        have hmax : IntKind.i64.max = 9223372036854775807 := rfl
        rw [us_def]
        simp [asInt, asIntOf, hts, hmax]
      · next hn0 =>
        exact (us_sound hr hts hf hL (fun h0 => hn0 h0) e).n
    · exact hf.no e
  · exact hf.no e

end Go.Ev
