/- The abstract evaluator: conversions, builtins. -/
import Derived.Test.YtkmlcncemcaidaaGreatDoorEvLa
import Derived.Laws.BytesString
namespace Go.Ev
variable {P : Program} {w : World}

theorem shape_of {B : Nat} {c : Array Value} {ty : TypeId} {fr : Nat × Nat} (h : w.heap[B]? = some (.cells c ty fr)) : w.shape? B = some (ty, c.size) := by simp [World.shape?, h]
theorem szOf_info {t : TypeId} (h : Nat.beq (szOf P t) 0 = false) : ∃ i, P.info? t = some i ∧ i.size ≠ 0 := by
  unfold szOf at h
  split at h
  · next i hi => exact ⟨i, hi, fun e => by rw [e] at h; cases h⟩
  · cases h

theorem Ext.frozen {h : H} {μ : Mu} (hr : HR h μ w) {ty n : Nat} {d : List AV} {t : Tr AV} {fz : Nat} {c : Array Value} {u sz : Nat} (hn : n ≤ c.size) (hu : u * sz ≤ c.size) (hfz : 0 < fz)
    (hc : ∀ i, i < n → ∃ x, c[i]? = some x ∧ VR μ (cellAt d t i) x) (h1 : ∀ x ∈ c.toList, one x = true) :
    Ext h μ w (h.new (.cells ty n d t fz false)) (Ev.upd μ h.next ⟨w.heap.size, 0, u, sz⟩) (w.alloc (.cells c ty (c.size, c.size + 1))) := by
  have hle := upd_le (μ := μ) ⟨w.heap.size, 0, u, sz⟩ (hr.fresh h.next (Nat.le_refl _))
  refine Ext.new hr _ _ _ rfl ⟨c, _, alloc_get w _, by simpa using hn, by simpa using hu, fun he => (by cases he), fun i hi => ?_, one_ix h1 _, fun h0 => (by omega), fun j _ hj => (by simp; omega)⟩
  obtain ⟨x, hx, hv⟩ := hc i hi
  exact ⟨x, by simpa using hx, hv.mono hle⟩
theorem run_s2b (el : TypeId) (s : ByteArray) : ∃ cap, s.size ≤ cap ∧ (Conv.stringToBytes el s).run P w =
    .ok (.slice (some ⟨w.drew.heap.size, 0, none⟩) s.size cap) (w.drew.alloc (.cells ((s.data.map fun (b : UInt8) => Value.int .u8 (b.toNat : Int)) ++ Array.replicate (cap - s.size) (Value.int .u8 0)) el
      (((s.data.map fun (b : UInt8) => Value.int .u8 (b.toNat : Int)) ++ Array.replicate (cap - s.size) (Value.int .u8 0)).size, ((s.data.map fun (b : UInt8) => Value.int .u8 (b.toNat : Int)) ++ Array.replicate (cap - s.size) (Value.int .u8 0)).size + 1))) := by
  refine ⟨grownCap w s.size 0 el, by unfold grownCap Question.cut; exact Nat.le_add_right _ _, ?_⟩
  have hsh : ∀ (c : Array Value), (w.drew.alloc (.cells c el)).shape? w.heap.size = some (el, c.size) := fun c => shape_of (alloc_get _ _)
  have hfr : ∀ (c : Array Value), (w.drew.alloc (.cells c el)).freeze ⟨w.heap.size, c.size, none⟩ 1 = w.drew.alloc (.cells c el (c.size, c.size + 1)) := by
    intro c
    simp only [World.freeze, Nat.one_ne_zero, if_false]
    unfold World.alloc
    congr 1
    apply Array.ext_getElem?
    intro i
    rw [Array.getElem?_modify]
    simp only [Array.getElem?_push]
    by_cases hi : i = w.heap.size
    · subst hi; simp
    · have : ¬ w.heap.size = i := fun h => hi h.symm
      have hi' : ¬ i = w.drew.heap.size := hi
      rw [if_neg this, if_neg hi', if_neg hi']
  simp only [Conv.stringToBytes, newRow, markStringish, Sem.run_bind]
  simp [Question.forced, grownCap, hsh, -Array.size_append, -Array.size_map]
  exact hfr _

theorem cond_fail' {s : String} {y r : R} {b : Bool} (hf : Fin r) (h : (bif b then .fail s else y) = r) : b = false ∧ y = r := by
  cases b with
  | true => exact hf.no h
  | false => exact ⟨rfl, h⟩
theorem onRow_eq {h : H} {μ : Mu} (hr : HR h μ w) {b o n : Nat} {k : List AV → R} {r : R} (hf : Fin r) (e : onRow h b o n k = r) {l : Loc} (hl : μ b = some l) :
    ∃ row cs, k row = r ∧ VRs μ row cs ∧ cs.length = n ∧ (loadCells ⟨l.B, l.δ + o, none⟩ n).run P w = .ok cs.toArray w := by
  unfold onRow at e
  obtain ⟨ty, m, d, t, fz, ex, hg, e⟩ := onBlk_eq hf e
  unfold rowK at e
  obtain ⟨hm, e⟩ := bt hf e
  have hm := Nat.le_of_ble_eq_true hm
  obtain ⟨l', c, fr, R⟩ := hr.row hg
  have hl' := R.mu; rw [hl] at hl'; cases hl'
  have hsz := R.hn
  have hm' : o + n ≤ m := hm
  refine ⟨_, _, e, row_VRs R.cell hm R.hn, ?_, ?_⟩
  · simp; omega
  · exact run_loads R.heap (by omega)

theorem strBytes_conv {μ : Mu} {row : List AV} {cs : List Value} {c : KV} {h : H} {r : R} (hf : Fin r) (e : b2s row h c = r) (hv : VRs μ row cs) (a : Addr) (len cap : Nat) (hl : (loadCells a len).run P w = .ok cs.toArray w) :
    ∃ v cv, (Conv.bytesToString (.slice (some a) len cap)).run P w = .ok cv w ∧ VR μ v cv ∧ c v h = r := by
  unfold b2s at e
  split at e
  · next l n hb =>
    obtain ⟨bs, rfl, rfl, rfl⟩ := bytesStr_spec hv hb
    have hl2 : (loadCells a len).run P w = .ok ((bs.map fun b => (b.toNat : Int)).map (Value.int .u8)).toArray w := by
      rw [hl, List.map_map]; rfl
    refine ⟨_, _, run_bytesToString w a len cap _ hl2, ?_, e⟩
    have : ∀ (bs : List UInt8) (s : ByteArray), ((bs.map fun b => (b.toNat : Int)).foldl (fun r n => r.push (UInt8.ofNat n.toNat)) s).data.toList = s.data.toList ++ bs := by
      intro bs
      induction bs with
      | nil => intro s; simp
      | cons b bs ih => intro s; rw [List.map_cons, List.foldl_cons, ih]; simp [ByteArray.push]
    have h0 := this bs ByteArray.empty
    refine .str _ _ _ ?_ ?_
    · rw [h0]; simp
    · rw [h0]; simp
  · exact hf.no e

set_option maxHeartbeats 1000000 in
theorem convA_sound {h : H} {μ : Mu} (hr : HR h μ w) {src dst : TypeId} {x : AV} {cx : Value} (hx : VR μ x cx) (hs : P.underlying src ≠ none) {c : KV} {r : R} (hf : Fin r) (e : convA P src dst x h c = r) :
    Out P (convert src dst cx) h μ w c r := by
  obtain ⟨ds, hs⟩ := Option.ne_none_iff_exists'.1 hs
  have hds : desc P src = ds := by simp [desc, hs]
  unfold convA at e
  split at e
  · next k _ n hd =>
    have hd := desc_eq hd (by simp)
    cases hx
    refine Out.same hr ?_ (.int _ _) e
    simp [convert, run_underlying hs, run_underlying hd, Conv.intToInt, wr_eq]
  · next k n hd =>
    have hd := desc_eq hd (by simp)
    cases hx
    refine Out.same hr ?_ (.flt _) e
    simp [convert, run_underlying hs, run_underlying hd, Conv.intToFloat]
  · next k b hd =>
    have hd := desc_eq hd (by simp)
    cases hx
    split at e
    · next n hn =>
      split at e
      · next hb =>
        refine Out.same hr ?_ (.int _ _) e
        simp [convert, run_underlying hs, run_underlying hd, Conv.floatToInt, hn, hb]
      · exact hf.no e
    · exact hf.no e
  · next l n hd =>
    have hd := desc_eq hd (by simp)
    have hx0 := hx
    cases hx
    refine Out.same hr ?_ hx0 e
    simp [convert, run_underlying hs, run_underlying hd]
  · next el l n hs1 hd =>
    have hd := desc_eq hd (by simp)
    split at e
    · next he =>
      have he := desc_eq he (by simp)
      cases hx with | str s _ _ hl hn =>
      subst hl hn
      have hrun : (convert src dst (.string s)).run P w = (Conv.stringToBytes el s).run P w := by
        simp [convert, run_underlying hs, run_underlying hd, run_underlying he]
      obtain ⟨cap, hcap, h2⟩ := run_s2b (P := P) (w := w) el s
      have hx := Ext.frozen (hr.drew) (ty := el) (n := s.data.toList.length) (d := []) (t := stCells (strBytes s.data.toList.length (pk s.data.toList)) .nil 0) (fz := 1) (c := (s.data.map fun (b : UInt8) => Value.int .u8 (b.toNat : Int)) ++ Array.replicate (cap - s.size) (Value.int .u8 0)) (u := cap) (sz := 1)
        (by rw [Array.size_append, Array.size_map]; exact Nat.le_add_right _ _) (by rw [Array.size_append, Array.size_map, Array.size_replicate]; have : s.data.size = s.size := rfl; omega) (by omega) (fun i hi => by
          have := (list_cells (d := []) (strBytes_VRs μ s.data.toList |> fun h => (by rw [← byteV_map] at h; exact h : VRs μ _ (s.data.map fun (b : UInt8) => Value.int .u8 (b.toNat : Int)).toList))) i (by rw [strBytes_length]; exact hi)
          obtain ⟨x, hx1, hx2⟩ := this
          refine ⟨x, ?_, hx2⟩
          rw [Array.getElem?_append_left (by simpa using hi)]
          exact hx1) (by
          intro x hx
          simp only [Array.toList_append, List.mem_append, Array.toList_map, List.mem_map, Array.toList_replicate, List.mem_replicate] at hx
          rcases hx with ⟨b, _, rfl⟩ | ⟨_, rfl⟩ <;> rfl)
      refine ⟨_, _, _, _, _, hrun.trans h2, (Ext.drew hr).trans hx, ?_, e⟩
      have := VR.sliceU (μ := Ev.upd μ h.next ⟨w.drew.heap.size, 0, cap, 1⟩) h.next 0 s.data.toList.length ⟨w.drew.heap.size, 0, cap, 1⟩ ⟨w.drew.heap.size, 0, none⟩ (upd_same _ _ _) (by have : s.data.toList.length = s.size := rfl; show 0 + s.data.toList.length ≤ cap; omega) (.inr (by simp))
      exact this
    · exact hf.no e
  · next el hs1 hd =>
    rw [hds] at hs1; subst hs1
    have hd := desc_eq hd (by simp)
    cases hx
    split at e
    · next he =>
      have he := desc_eq he (by simp)
      refine Out.same hr ?_ (.str ByteArray.empty 0 0 rfl rfl) e
      simp [convert, run_underlying hs, run_underlying hd, run_underlying he, Conv.bytesToString]
    · exact hf.no e
  · next el b o l cap hs1 hd =>
    rw [hds] at hs1; subst hs1
    have hd := desc_eq hd (by simp)
    cases hx with | slice _ _ _ _ L hL =>
    split at e
    · next he =>
      have he := desc_eq he (by simp)
      obtain ⟨row, cs, e1, hv, hlen, hld⟩ := onRow_eq (P := P) hr hf e hL
      obtain ⟨v, cv, h1, h2, h3⟩ := strBytes_conv hf e1 hv _ _ cap hld
      refine Out.same hr ?_ h2 h3
      rw [run_convert_bytes_string w src dst el _ _ _ hs he hd]; exact h1
    · exact hf.no e
  · next el b k l z hs1 hd =>
    rw [hds] at hs1; subst hs1
    have hd := desc_eq hd (by simp)
    cases hx with | sliceU _ _ _ L a hL hk ha =>
    split at e
    · next he =>
      have he := desc_eq he (by simp)
      obtain ⟨row, cs, e1, hv, hlen, hld⟩ := onRow_eq (P := P) hr hf e hL
      have hld' : (loadCells a l).run P w = .ok cs.toArray w := by
        rcases ha with ha | ha
        · have : l = 0 := by omega
          subst this
          have : cs = [] := by simpa using hlen
          subst this
          rfl
        · rw [ha]; exact hld
      obtain ⟨v, cv, h1, h2, h3⟩ := strBytes_conv hf e1 hv _ _ (L.u - k) hld'
      refine Out.same hr ?_ h2 h3
      rw [run_convert_bytes_string w src dst el _ _ _ hs he hd]; exact h1
    · exact hf.no e
  · next t b o hs1 hd =>
    rw [hds] at hs1; subst hs1
    have hd := desc_eq hd (by simp)
    have hx0 := hx
    cases hx with | ptr _ _ L hL =>
    obtain ⟨hz, e⟩ := cond_fail' hf e
    obtain ⟨i, hi, hi0⟩ := szOf_info hz
    obtain ⟨ty, m, d, tr, fz, ex, hg, e⟩ := onBlk_eq hf e
    obtain ⟨hm, e⟩ := bt hf e
    have hm : o < m := Nat.le_of_ble_eq_true hm
    obtain ⟨l', c', fr, R⟩ := hr.row hg
    have hll : l' = L := Option.some.inj (R.mu.symm.trans hL)
    subst hll
    have hn := R.hn
    refine Out.same hr ?_ hx0 e
    have hlt : ¬ (c'.size ≤ l'.δ + o) := by omega
    simp [convert, run_underlying hs, run_underlying hd, Conv.unsafePointer, Conv.seenAt, viewAt, shape_of R.heap, cellsIn, sizeOf, typeInfo, hi, hi0, hlt]
  · next t b o hs1 hd =>
    rw [hds] at hs1; subst hs1
    have hd := desc_eq hd (by simp)
    have hx0 := hx
    cases hx with | ptr _ _ L hL =>
    obtain ⟨ty, m, d, tr, fz, ex, hg, e⟩ := onBlk_eq hf e
    obtain ⟨hm, e⟩ := cond_fail hf e
    obtain ⟨hz, hm⟩ := an_true hm
    obtain ⟨hex, hm⟩ := an_true hm
    obtain ⟨i, hi, hi0⟩ := szOf_info (by rw [nt_eq] at hz; simpa using hz)
    obtain ⟨l', c', fr, R⟩ := hr.row hg
    have hll : l' = L := Option.some.inj (R.mu.symm.trans hL)
    subst hll
    obtain ⟨hd0, hsz⟩ := R.hex hex
    refine Out.same hr ?_ hx0 e
    simp [convert, run_underlying hs, run_underlying hd, Conv.unsafePointer, Conv.seenAt, viewAt, shape_of R.heap, sizeOf, typeInfo, hi, hi0, variablesAt, hsz, hd0, hm]
  · exact hf.no e

end Go.Ev
