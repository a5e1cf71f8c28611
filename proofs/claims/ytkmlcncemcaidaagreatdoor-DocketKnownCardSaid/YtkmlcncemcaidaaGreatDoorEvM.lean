/- The abstract evaluator: slices, indexes, fields, conversions. -/
import Derived.Test.YtkmlcncemcaidaaGreatDoorEvE
namespace Go.Ev
variable {P : Program} {w : World}

def Out (P : Program) (s : Sem Value) (h : H) (μ : Mu) (w : World) (c : KV) (r : R) : Prop :=
  ∃ v cv w' μ' h', s.run P w = .ok cv w' ∧ Ext h μ w h' μ' w' ∧ VR μ' v cv ∧ c v h' = r
theorem Out.same {s : Sem Value} {h : H} {μ : Mu} {c : KV} {r : R} (hr : HR h μ w) {v : AV} {cv : Value} (h1 : s.run P w = .ok cv w) (h2 : VR μ v cv) (h3 : c v h = r) : Out P s h μ w c r :=
  ⟨v, cv, w, μ, h, h1, .refl hr, h2, h3⟩

inductive OVR (μ : Mu) : Option AV → Option Value → Prop
  | none : OVR μ none none
  | some {v c} (h : VR μ v c) : OVR μ (some v) (some c)

theorem natOf_inv {μ : Mu} {v : AV} {c : Value} {n : Nat} (hv : VR μ v c) (e : natOf v = some n) : ∃ k, c = .int k (n : Int) := by
  unfold natOf at e
  split at e
  · cases e; cases hv; exact ⟨_, rfl⟩
  · cases e
theorem run_bound {k : IntKind} {n y : Nat} (h : n ≤ y) (code : BoundsCode) : (Instr.sliceBound (.int k (n : Int)) y code).run P w = .ok n w := by
  have : (0 : Int) ≤ (n : Int) ∧ (n : Int) ≤ (y : Int) := ⟨by omega, by omega⟩
  simp [Instr.sliceBound, asIntOf, this]
theorem run_bounds {μ : Mu} {isSlice : Bool} {len cap i j m : Nat} {lo hi mx : Option AV} {clo chi cmx : Option Value} (h1 : OVR μ lo clo) (h2 : OVR μ hi chi) (h3 : OVR μ mx cmx)
    (e1 : bndO lo 0 = some i) (e2 : bndO hi len = some j) (e3 : bndO mx cap = some m) (hm : hi = none → mx = none) (hij : i ≤ j) (hjm : j ≤ m) (hmc : m ≤ cap) :
    (Instr.sliceBounds isSlice len cap clo chi cmx).run P w = .ok (i, j, m) w := by
  cases h3 with
  | none =>
    cases e3
    cases h2 with
    | none =>
      cases e2
      cases h1 with
      | none => cases e1; simp [Instr.sliceBounds]
      | some h1 => obtain ⟨k, rfl⟩ := natOf_inv h1 e1; simp [Instr.sliceBounds, run_bound hij]
    | some h2 =>
      obtain ⟨k2, rfl⟩ := natOf_inv h2 e2
      cases h1 with
      | none => cases e1; simp [Instr.sliceBounds, run_bound hjm]
      | some h1 => obtain ⟨k, rfl⟩ := natOf_inv h1 e1; simp [Instr.sliceBounds, run_bound hjm, run_bound hij]
  | some h3 =>
    obtain ⟨k3, rfl⟩ := natOf_inv h3 e3
    cases h2 with
    | none => cases hm rfl
    | some h2 =>
      obtain ⟨k2, rfl⟩ := natOf_inv h2 e2
      cases h1 with
      | none => cases e1; simp [Instr.sliceBounds, run_bound hjm, run_bound hmc]
      | some h1 => obtain ⟨k, rfl⟩ := natOf_inv h1 e1; simp [Instr.sliceBounds, run_bound hjm, run_bound hij, run_bound hmc]

theorem slSz_inv {t : TypeId} {z : Nat} (h : slSz P t = some z) : ∃ e i, P.underlying t = some (.slice e) ∧ P.info? e = some i ∧ szOf P e = z ∧ 0 < z := by
  unfold slSz at h
  split at h
  · next e he =>
    unfold slOf at he
    split at he
    · next e' hd =>
      cases he
      cases hz : Nat.beq (szOf P e) 0 with
      | true => rw [hz] at h; cases h
      | false =>
        rw [hz] at h; cases h
        have hnz : szOf P e ≠ 0 := fun h0 => by rw [h0] at hz; cases hz
        cases hi : P.info? e with
        | none => exact absurd (by simp [szOf, hi]) hnz
        | some i => exact ⟨e, i, desc_eq hd (by simp), hi, rfl, by omega⟩
    · cases he
  · cases h
theorem arSz_inv {t : TypeId} {n z : Nat} (h : arSz P t = some (n, z)) : ∃ e i, P.underlying t = some (.array n e) ∧ P.info? e = some i ∧ szOf P e = z ∧ 0 < z := by
  unfold arSz at h
  split at h
  · next n' e he =>
    unfold arrOf at he
    split at he
    · next e' hd =>
      cases he
      cases hz : Nat.beq (szOf P e) 0 with
      | true => rw [hz] at h; cases h
      | false =>
        rw [hz] at h; cases h
        have hnz : szOf P e ≠ 0 := fun h0 => by rw [h0] at hz; cases hz
        cases hi : P.info? e with
        | none => exact absurd (by simp [szOf, hi]) hnz
        | some i => exact ⟨e, i, desc_eq hd (by simp), hi, rfl, by omega⟩
    · cases he
  · cases h
theorem slBase_eq (B δ o i z m : Nat) : (if m = i then (⟨B, δ + o, none⟩ : Addr) else Addr.add ⟨B, δ + o, none⟩ (i * z)) = ⟨B, δ + slBase o i z m, none⟩ := by
  unfold slBase
  cases hb : Nat.beq m i with
  | true => rw [if_pos (Nat.eq_of_beq_eq_true hb)]
  | false =>
    rw [if_neg (fun h => by subst h; rw [Nat.beq_refl] at hb; cases hb), add_none]
    show _ = (⟨B, δ + (o + i * z), none⟩ : Addr)
    rw [Nat.add_assoc]

theorem sliceA_sound {h : H} {μ : Mu} (hr : HR h μ w) {t : TypeId} {x : AV} {cx : Value} {lo hi mx : Option AV} {clo chi cmx : Option Value} (hx : VR μ x cx) (h1 : OVR μ lo clo) (h2 : OVR μ hi chi) (h3 : OVR μ mx cmx)
    (hm : hi = none → mx = none) {c : KV} {r : R} (hf : Fin r) (e : sliceA P t x lo hi mx h c = r) : Out P (Instr.sliceAt t cx clo chi cmx) h μ w c r := by
  unfold sliceA at e
  split at e
  · next l n =>
    split at e
    · next a b hd ea eb =>
      obtain ⟨hb, e'⟩ := bt hf e
      clear e
      obtain ⟨hb1, hb2⟩ := an_true hb
      have hb1 := Nat.le_of_ble_eq_true hb1
      have hb2 := Nat.le_of_ble_eq_true hb2
      cases hx with | str s _ _ e1 e2 =>
      subst e1 e2
      cases h3
      have hsz : s.size = s.data.toList.length := by simp
      have hu := desc_eq hd (by simp)
      have hrun := run_bounds (P := P) (w := w) (isSlice := false) (len := s.size) (cap := s.size) (i := a) (j := b) (m := s.size) h1 h2 .none ea (by rw [hsz]; exact eb) rfl (fun _ => rfl) hb1 (by omega) (Nat.le_refl _)
      refine Out.same hr (v := .str (b - a) (stSub (pk s.data.toList) a b)) (cv := .string (s.extract a b)) ?_ ?_ e'
      · simp [Instr.sliceAt, Instr.slice, run_underlying hu, hrun]
      · have hex : (s.extract a b).data.toList = (s.data.toList.take b).drop a := by
          rw [ByteArray.data_extract, Array.toList_extract]
          simp only [List.extract]
          rw [List.take_drop]
          congr 2; omega
        exact .str _ _ _ (by rw [hex]; simp only [List.length_drop, List.length_take]; omega) (by rw [hex]; exact stSub_pk _ _ _ hb1 hb2)
    · exact hf.no e
  · next b o l cp =>
    split at e
    · next z i j m ez ei ej em =>
      obtain ⟨hb, e⟩ := bt hf e
      obtain ⟨hb1, hb2⟩ := an_true hb
      obtain ⟨hb2, hb3⟩ := an_true hb2
      have hb1 := Nat.le_of_ble_eq_true hb1
      have hb2 := Nat.le_of_ble_eq_true hb2
      have hb3 := Nat.le_of_ble_eq_true hb3
      obtain ⟨el, inf, hu, hi, hz, _⟩ := slSz_inv ez
      cases hx with | slice _ _ _ _ lo' hl =>
      have hrun := run_bounds (P := P) (w := w) (isSlice := true) h1 h2 h3 ei ej em hm hb1 hb2 hb3
      refine Out.same hr (v := .slice b (slBase o i z m) (j - i) (m - i)) (cv := .slice (some ⟨lo'.B, lo'.δ + slBase o i z m, none⟩) (j - i) (m - i)) ?_ (.slice _ _ _ _ _ hl) e
      rw [← slBase_eq]
      simp only [Instr.sliceAt, Instr.slice, Sem.run_bind, run_underlying hu, Result.andThen_ok, hrun, run_sizeOf hi, hz]
      split <;> rfl
    · exact hf.no e
  · next b k l z' =>
    split at e
    · next z i j ez ei ej =>
      obtain ⟨hb, e⟩ := bt hf e
      obtain ⟨hb1, hb2⟩ := an_true hb
      obtain ⟨hb2, hb3⟩ := an_true hb2
      have hb1 := Nat.le_of_ble_eq_true hb1
      have hb2 := Nat.le_of_ble_eq_true hb2
      have hb3 := Nat.eq_of_beq_eq_true hb3
      obtain ⟨el, inf, hu, hi, hz, hz0⟩ := slSz_inv ez
      cases hx with | sliceU _ _ _ lo' a hl hk ha =>
      cases h3
      have hrun := run_bounds (P := P) (w := w) (isSlice := true) (len := l) (cap := lo'.u - k) (i := i) (j := j) (m := lo'.u - k) h1 h2 .none ei ej rfl (fun _ => rfl) hb1 (by omega) (Nat.le_refl _)
      refine Out.same hr (v := .sliceU b (k + i) (j - i) lo'.sz) (cv := .slice (some (if lo'.u - k = i then a else a.add (i * lo'.sz))) (j - i) (lo'.u - (k + i))) ?_ (.sliceU _ _ _ _ _ hl (by omega) ?_) e
      · simp only [Instr.sliceAt, Instr.slice, Sem.run_bind, run_underlying hu, Result.andThen_ok, hrun, run_sizeOf hi, hz, ← hb3]
        rw [show lo'.u - k - i = lo'.u - (k + i) from by omega]
        split <;> rfl
      · by_cases hui : lo'.u - k = i
        · left; omega
        · right
          rw [if_neg hui]
          rcases ha with ha | ha
          · omega
          · rw [ha, add_none]; congr 1; rw [Nat.add_mul]; omega
    · next z i j vm ez ei ej =>
      split at e
      · next m em =>
        obtain ⟨hb, e2⟩ := bt hf e
        clear e
        obtain ⟨q0, q1⟩ := an_true hb
        obtain ⟨q2, q3⟩ := an_true q1
        obtain ⟨q4, q5⟩ := an_true q3
        obtain ⟨q6, q7⟩ := an_true q5
        have hb0 : 0 < l := Nat.le_of_ble_eq_true q0
        have hb1 := Nat.le_of_ble_eq_true q2
        have hb2 := Nat.le_of_ble_eq_true q4
        have hb3 := Nat.le_of_ble_eq_true q6
        have hb4 := Nat.eq_of_beq_eq_true q7
        clear hb q0 q1 q2 q3 q4 q5 q6 q7
        obtain ⟨el, inf, hu, hi, hz, _⟩ := slSz_inv ez
        cases hx with | sliceU _ _ _ lo' a hl hk ha =>
        have ha : a = ⟨lo'.B, lo'.δ + k * lo'.sz, none⟩ := by
          rcases ha with ha | ha
          · omega
          · exact ha
        subst ha
        have hrun := run_bounds (P := P) (w := w) (isSlice := true) (len := l) (cap := lo'.u - k) (i := i) (j := j) (m := m) h1 h2 h3 ei ej em hm hb1 hb2 (by omega)
        refine Out.same hr (v := .slice b (slBase (Nat.mul k z) i z m) (j - i) (m - i)) (cv := .slice (some ⟨lo'.B, lo'.δ + slBase (Nat.mul k z) i z m, none⟩) (j - i) (m - i)) ?_ (.slice _ _ _ _ _ hl) e2
        rw [← slBase_eq]
        simp only [Instr.sliceAt, Instr.slice, Sem.run_bind, run_underlying hu, Result.andThen_ok, hrun, run_sizeOf hi, hz, ← hb4, Nat.mul_eq]
        split <;> rfl
      · exact hf.no e
    · exact hf.no e
  · split at e
    · next z _ ez ei ej em =>
      obtain ⟨el, inf, hu, hi, hz, hz0⟩ := slSz_inv ez
      cases hx
      have hrun := run_bounds (P := P) (w := w) (isSlice := true) (len := 0) (cap := 0) (i := 0) (j := 0) (m := 0) h1 h2 h3 ei ej em hm (Nat.le_refl _) (Nat.le_refl _) (Nat.le_refl _)
      refine Out.same hr (v := .nilslice) (cv := .slice none 0 0) ?_ .nilslice e
      simp only [Instr.sliceAt, Instr.slice, Sem.run_bind, run_underlying hu, Result.andThen_ok, hrun, run_sizeOf hi]
      rfl
    · exact hf.no e
  · next b o =>
    split at e
    · next mx' n z i ez ei =>
      split at e
      · next j m ej em =>
        obtain ⟨hb, e⟩ := bt hf e
        obtain ⟨hb1, hb2⟩ := an_true hb
        obtain ⟨hb2, hb3⟩ := an_true hb2
        have hb1 := Nat.le_of_ble_eq_true hb1
        have hb2 := Nat.le_of_ble_eq_true hb2
        have hb3 := Nat.le_of_ble_eq_true hb3
        obtain ⟨el, inf, hu, hi, hz, _⟩ := arSz_inv ez
        obtain ⟨lo', hl, rfl⟩ := hx.ptr_inv
        have hrun := run_bounds (P := P) (w := w) (isSlice := false) h1 h2 h3 ei ej em hm hb1 hb2 hb3
        refine Out.same hr (v := .slice b (slBase o i z m) (j - i) (m - i)) (cv := .slice (some ⟨lo'.B, lo'.δ + slBase o i z m, none⟩) (j - i) (m - i)) ?_ (.slice _ _ _ _ _ hl) e
        rw [← slBase_eq]
        simp only [Instr.sliceAt, Instr.sureAddr, Sem.run_bind, Sem.run_pure, run_underlying hu, Result.andThen_ok, hrun, run_sizeOf hi, hz]
      · exact hf.no e
    · exact hf.no e
  · exact hf.no e

/-! indexes -/
theorem onNat_eq {k : Nat → R} {i : AV} {r : R} (hf : Fin r) (e : onNat k i = r) : ∃ kd n, i = .int kd (Int.ofNat n) ∧ k n = r := by
  unfold onNat at e
  split at e
  · next kd n =>
    cases n with
    | ofNat n => exact ⟨kd, n, rfl, e⟩
    | negSucc n => exact hf.no e
  · exact hf.no e
theorem ixN_sound {h : H} {μ : Mu} (hr : HR h μ w) {t : TypeId} {x : AV} {cx : Value} (hx : VR μ x cx) {kd : IntKind} {i : Nat} {c : KV} {r : R} (hf : Fin r) (e : ixN P t x h c i = r) :
    Out P (Instr.indexAt t cx (.int kd (i : Int))) h μ w c r := by
  unfold ixN at e
  split at e
  · next b o l cp =>
    split at e
    · next z ez =>
      obtain ⟨el, inf, hu, hi, hz, _⟩ := slSz_inv ez
      obtain ⟨hlt, e⟩ := bt hf (show (Bool.rec (.fail "index") (c (.ptr b (Nat.add o (Nat.mul i z))) h) (Nat.blt i l) : R) = r from e)
      have hlt : i < l := by simpa [Nat.blt_eq] using hlt
      cases hx with | slice _ _ _ _ lo hl =>
      refine Out.same hr (v := .ptr b (o + i * z)) (cv := .pointer (some ⟨lo.B, lo.δ + (o + i * z), none⟩)) ?_ (.ptr _ _ _ hl) e
      have hin : (0 : Int) ≤ (i : Int) ∧ (i : Int) < (l : Int) := ⟨by omega, by omega⟩
      simp only [Instr.indexAt, asIntOf, Sem.run_bind, Sem.run_pure, run_underlying hu, Result.andThen_ok]
      simp only [hin, and_self, if_true, Sem.run_bind, run_sizeOf hi, Result.andThen_ok, Sem.run_pure, hz, add_none, Int.toNat_natCast, Nat.add_assoc]
    · exact hf.no e
  · next b k l z =>
    split at e
    · next z' ez =>
      obtain ⟨el, inf, hu, hi, hz, _⟩ := slSz_inv ez
      obtain ⟨hlt, e⟩ := bt hf (show (Bool.rec (.fail "index") (c (.ptr b (Nat.add (Nat.mul k z) (Nat.mul i z'))) h) (Nat.blt i l) : R) = r from e)
      have hlt : i < l := by simpa [Nat.blt_eq] using hlt
      cases hx with | sliceU _ _ _ lo a hl hk ha =>
      have ha : a = ⟨lo.B, lo.δ + k * lo.sz, none⟩ := by rcases ha with ha | ha; omega; exact ha
      subst ha
      refine Out.same hr (v := .ptr b (k * lo.sz + i * z')) (cv := .pointer (some ⟨lo.B, lo.δ + (k * lo.sz + i * z'), none⟩)) ?_ (.ptr _ _ _ hl) e
      have hin : (0 : Int) ≤ (i : Int) ∧ (i : Int) < (l : Int) := ⟨by omega, by omega⟩
      simp only [Instr.indexAt, asIntOf, Sem.run_bind, Sem.run_pure, run_underlying hu, Result.andThen_ok]
      simp only [hin, and_self, if_true, Sem.run_bind, run_sizeOf hi, Result.andThen_ok, Sem.run_pure, hz, add_none, Int.toNat_natCast, Nat.add_assoc]
    · exact hf.no e
  · next b o =>
    split at e
    · next n z ez =>
      obtain ⟨el, inf, hu, hi, hz, _⟩ := arSz_inv ez
      obtain ⟨hlt, e⟩ := bt hf (show (Bool.rec (.fail "index") (c (.ptr b (Nat.add o (Nat.mul i z))) h) (Nat.blt i n) : R) = r from e)
      have hlt : i < n := by simpa [Nat.blt_eq] using hlt
      obtain ⟨lo, hl, rfl⟩ := hx.ptr_inv
      refine Out.same hr (v := .ptr b (o + i * z)) (cv := .pointer (some ⟨lo.B, lo.δ + (o + i * z), none⟩)) ?_ (.ptr _ _ _ hl) e
      have hin : (0 : Int) ≤ (i : Int) ∧ (i : Int) < (n : Int) := ⟨by omega, by omega⟩
      simp only [Instr.indexAt, asIntOf, Instr.sureAddr, Sem.run_bind, Sem.run_pure, run_underlying hu, Result.andThen_ok]
      simp only [hin, and_self, if_true, Sem.run_bind, run_sizeOf hi, Result.andThen_ok, Sem.run_pure, hz, add_none, Int.toNat_natCast, Nat.add_assoc]
    · exact hf.no e
  · exact hf.no e
theorem ixV_sound {h : H} {μ : Mu} (hr : HR h μ w) {t : TypeId} {x : AV} {cx : Value} (hx : VR μ x cx) {kd : IntKind} {i : Nat} {c : KV} {r : R} (hf : Fin r) (e : ixV P t x h c i = r) :
    Out P (Instr.index t cx (.int kd (i : Int))) h μ w c r := by
  unfold ixV at e
  split at e
  · next l n =>
    split at e
    · next hd =>
      obtain ⟨hlt, e'⟩ := bt hf e
      clear e
      have hlt : i < l := by simpa [Nat.blt_eq] using hlt
      have hu := desc_eq hd (by simp)
      cases hx with | str s _ _ e1 e2 =>
      subst e1 e2
      have hsz : i < s.size := by simpa using hlt
      refine Out.same hr (v := .int .u8 (Int.ofNat (stGet (pk s.data.toList) i))) (cv := .int .u8 s[i].toNat) ?_ ?_ e'
      · have hget : s[i]? = some s[i] := ByteArray.getElem?_lt' s i hsz
        have h0 : (0 : Int) ≤ (i : Int) := by omega
        simp only [Instr.index, asIntOf, Sem.run_bind, Sem.run_pure, run_underlying hu, Result.andThen_ok]
        simp only [h0, if_true, Int.toNat_natCast, hget, Sem.run_pure]
      · rw [stGet_pk _ _ hlt]; exact .int _ _
    · exact hf.no e
  · next cs =>
    split at e
    · next n el ha =>
      obtain ⟨hlt, e⟩ := bt hf e
      have hlt : i < n := by simpa [Nat.blt_eq] using hlt
      split at e
      · next v hp =>
        unfold arrOf at ha
        split at ha
        · next n' e' hd =>
          cases ha
          have hu := desc_eq hd (by simp)
          cases hx with | agg _ ca hv h1 =>
          obtain ⟨c', hrun, hvr⟩ := part_sound (P := P) (w := w) hv h1 hp
          have hin : (0 : Int) ≤ (i : Int) ∧ (i : Int) < (n : Int) := ⟨by omega, by omega⟩
          have hi : ∃ inf, P.info? el = some inf := by
            unfold Ev.part at hp
            cases ht : tk P el with
            | zero => rw [ht] at hp; cases hp
            | succ m =>
              cases m with
              | zero => obtain ⟨_, hu', _⟩ := tk_one (w := w) ht; exact info_of_underlying hu'
              | succ m => obtain ⟨_, hu', _⟩ := tk_two (w := w) ht; exact info_of_underlying hu'
          obtain ⟨inf, hi⟩ := hi
          refine Out.same hr ?_ hvr e
          have hrun : (Go.part el ca (i * szOf P el)).run P w = .ok c' w := hrun
          simp only [Instr.index, asIntOf, Sem.run_bind, Sem.run_pure, run_underlying hu, Result.andThen_ok]
          simp only [hin, and_self, if_true, Sem.run_bind, run_sizeOf hi, Result.andThen_ok, Int.toNat_natCast, hrun]
        · cases ha
      · exact hf.no e
    · exact hf.no e
  · exact hf.no e

/-! fields -/
theorem fld_inv {t : TypeId} {i o ft : Nat} (h : fld P t i = some (o, ft)) : ∃ fs f, P.underlying t = some (.struct fs) ∧ fs[i]? = some f ∧ f.offset = o ∧ f.type = ft := by
  unfold fld at h
  split at h
  · next fs hd =>
    split at h
    · next f hf => cases h; exact ⟨fs, f, desc_eq hd (by simp), hf, rfl, rfl⟩
    · cases h
  · cases h
theorem foff_inv {t : TypeId} {i o : Nat} (h : foff P t i = some o) : ∃ fs f inf, P.underlying t = some (.struct fs) ∧ fs[i]? = some f ∧ f.offset = o ∧ P.info? f.type = some inf ∧ szOf P f.type ≠ 0 := by
  unfold foff at h
  split at h
  · next o' ft hf =>
    obtain ⟨fs, f, hu, hg, rfl, rfl⟩ := fld_inv hf
    cases hz : Nat.beq (szOf P f.type) 0 with
    | true => rw [hz] at h; cases h
    | false =>
      rw [hz] at h; cases h
      have hnz : szOf P f.type ≠ 0 := fun h0 => by rw [h0] at hz; cases hz
      cases hi : P.info? f.type with
      | none => exact absurd (by simp [szOf, hi]) hnz
      | some inf => exact ⟨fs, f, inf, hu, hg, rfl, hi, hnz⟩
  · cases h
theorem fieldAddr_sound {h : H} {μ : Mu} (hr : HR h μ w) {t : TypeId} {x : AV} {cx : Value} (hx : VR μ x cx) {i d : Nat} (hd : foff P t i = some d) {c : KV} {r : R} (hf : Fin r) (e : onPtr (faK d h c) x = r) :
    Out P (Instr.fieldAt t cx i) h μ w c r := by
  obtain ⟨b, o, rfl, e⟩ := onPtr_eq hf e
  obtain ⟨l, hl, rfl⟩ := hx.ptr_inv
  obtain ⟨fs, f, inf, hu, hg, rfl, hi, hnz⟩ := foff_inv hd
  refine Out.same hr (v := .ptr b (o + f.offset)) (cv := .pointer (some ⟨l.B, l.δ + (o + f.offset), none⟩)) ?_ (.ptr _ _ _ hl) e
  simp only [Instr.fieldAt, Instr.sureAddr, fieldPlace, Sem.run_bind, Sem.run_pure, run_underlying hu, Result.andThen_ok, hg, run_sizeOf hi, hnz, if_false, add_none, Nat.add_assoc]
theorem fieldA_sound {h : H} {μ : Mu} (hr : HR h μ w) {t : TypeId} {x : AV} {cx : Value} (hx : VR μ x cx) {i : Nat} {c : KV} {r : R} (hf : Fin r) (e : fieldA P t i x h c = r) :
    Out P (Instr.field t cx i) h μ w c r := by
  unfold fieldA at e
  split at e
  · next cs =>
    split at e
    · next o ft hfl =>
      split at e
      · next v hp =>
        obtain ⟨fs, f, hu, hg, rfl, rfl⟩ := fld_inv hfl
        cases hx with | agg _ ca hv h1 =>
        obtain ⟨c', hrun, hvr⟩ := part_sound (P := P) (w := w) hv h1 hp
        refine Out.same hr ?_ hvr e
        simp only [Instr.field, Sem.run_bind, run_underlying hu, Result.andThen_ok, hg, asAgg, Sem.run_pure, hrun]
      · exact hf.no e
    · exact hf.no e
  · exact hf.no e

end Go.Ev
