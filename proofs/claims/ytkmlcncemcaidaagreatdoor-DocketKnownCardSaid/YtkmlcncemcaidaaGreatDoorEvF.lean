/- The abstract evaluator: what stands for functions without a body. -/
import Derived.Test.YtkmlcncemcaidaaGreatDoorEvTk
import Derived.Laws.Externs
import Derived.Lib.Bytealg
import Derived.Lib.Builder
import Derived.Lib.MakeNoZero
namespace Go.Ev
variable {P : Program} {f : FuncId} {fn : Func} {e : Array Value → Sem Value}

structure ExtF (P : Program) (f : FuncId) (fn : Func) (e : Array Value → Sem Value) : Prop where
  hf : P.funcs[f]? = some fn
  name : (fn.name == "runtime.NumGoroutine") = false
  body : fn.body.isNone = true
  next : Extern.findNext fn = none
  ext : Extern.find fn = some e
theorem ExtF.run (h : ExtF P f fn e) (args : Array Value) (w : World) : (callFunc f args).run P w = ((e args).run P w).andThen fun v w' => .ok (.value v) w' := run_callFunc_extern h.hf h.name h.body h.next h.ext args w
theorem ExtF.callR (h : ExtF P f fn e) {n : Nat} (hs : ∀ args h μ w (cargs : Array Value) v h', HR h μ w → VRs μ args cargs.toList → extA P f n args h .ok = .ok v h' → ∃ cv w' μ', (e cargs).run P w = .ok cv w' ∧ Ext h μ w h' μ' w' ∧ VR μ' v cv)
    (hp : ∀ args h v h', extA P f n args h .ok = .pan v h' → False) : CallR P f (fun a h => extA P f n a h .ok) := by
  intro args g μ w cargs r hr hv he hf
  rw [h.run]
  cases r with
  | fail s => exact absurd rfl (hf s)
  | pan v g' => exact (hp _ _ _ _ he).elim
  | ok v g' =>
    obtain ⟨cv, w', μ', h1, h2, h3⟩ := hs args g μ w cargs v g' hr hv he
    rw [h1]
    exact ⟨v, g', μ', rfl, h2, h3⟩
theorem findB_spec (c : Nat) (hc : c < 256) : ∀ (bs : List UInt8) (i : Nat) (n : Int), findB c (strBytes bs.length (pk bs)) i = some n →
    (Lib.indexByte bs c.toUInt8 = -1 ∧ n = -1) ∨ ∃ j : Nat, Lib.indexByte bs c.toUInt8 = (j : Int) ∧ n = ((i + j : Nat) : Int)
  | [], i, n, h => by
    change some (Int.negSucc 0) = some n at h
    cases h
    exact .inl ⟨rfl, rfl⟩
  | b :: bs, i, n, h => by
    have hb : b.toNat < 256 := UInt8.toNat_lt b
    have h1 : pk (b :: bs) % 256 = b.toNat := by rw [pk_cons]; omega
    have h2 : pk (b :: bs) / 256 = pk bs := by rw [pk_cons]; omega
    change (bif Nat.beq (pk (b :: bs) % 256) c then some (Int.ofNat i) else findB c (strBytes bs.length (pk (b :: bs) / 256)) (Nat.succ i)) = some n at h
    rw [h1, h2] at h
    have hbc : (b == c.toUInt8) = Nat.beq b.toNat c := by
      cases hh : Nat.beq b.toNat c with
      | true =>
        have := Nat.eq_of_beq_eq_true hh
        subst this
        simp
      | false =>
        have hne : b.toNat ≠ c := fun e => by rw [e] at hh; simp at hh
        rw [beq_eq_false_iff_ne]
        intro e
        apply hne
        rw [e]
        simp [Nat.toUInt8, UInt8.toNat_ofNat']
        omega
    unfold Lib.indexByte
    rw [hbc]
    cases hh : Nat.beq b.toNat c with
    | true =>
      rw [hh] at h
      cases h
      exact .inr ⟨0, by simp, rfl⟩
    | false =>
      rw [hh] at h
      simp only [cond_false] at h
      rcases findB_spec c hc bs (Nat.succ i) n h with ⟨q1, q2⟩ | ⟨j, q1, q2⟩
      · exact .inl ⟨by simp [q1], q2⟩
      · refine .inr ⟨j + 1, ?_, by rw [q2]; congr 1; omega⟩
        rw [q1]
        have hne : ((j : Int) == -1) = false := by rw [beq_eq_false_iff_ne]; omega
        simp [hne]
theorem ixB_spec {bs : List UInt8} {c : Nat} {h h' : H} {v : AV} (he : ixB (strBytes bs.length (pk bs)) c h .ok = .ok v h') : h' = h ∧ v = .int .i64 (Lib.indexByte bs c.toUInt8) := by
  unfold ixB at he
  cases hb : Nat.blt c 256 with
  | false => rw [hb] at he; cases he
  | true =>
    rw [hb] at he
    simp only [cond_true] at he
    split at he
    · next n hn =>
      cases he
      refine ⟨rfl, ?_⟩
      rcases findB_spec c (Nat.le_of_ble_eq_true hb) bs 0 n hn with ⟨q1, q2⟩ | ⟨j, q1, q2⟩
      · rw [q1, q2]
      · rw [q1, q2, Nat.zero_add]
    · cases he
theorem ixB_pan {l : List AV} {c : Nat} {h h' : H} {v : AV} (he : ixB l c h .ok = .pan v h') : False := by
  unfold ixB at he
  cases hb : Nat.blt c 256 <;> rw [hb] at he
  · cases he
  · simp only [cond_true] at he
    split at he <;> cases he
theorem ext_index (h : ExtF P f fn Extern.BytealgIndexByte.indexByte) : CallR P f (fun a h => extA P f 4 a h .ok) := by
  refine h.callR (fun args g μ w cargs v g' hr hv he => ?_) (fun args g v g' he => ?_)
  · unfold extA at he
    split at he <;> first | contradiction | (cases he; done) | skip
    · next l n c =>
      obtain ⟨x, y, rfl, h1, h2⟩ := hv.inv2
      cases h1 with | str s _ _ hl hn =>
      cases h2
      subst hl hn
      obtain ⟨rfl, rfl⟩ := ixB_spec he
      exact ⟨_, w, μ, Lib.run_indexByteString s _ w, .refl hr, .int _ _⟩
  · unfold extA at he
    split at he <;> first | contradiction | (cases he; done) | skip
    exact ixB_pan he
theorem ext_same (h : ExtF P f fn Extern.AbiNoEscape.same) : CallR P f (fun a h => extA P f 3 a h .ok) := by
  refine h.callR (fun args g μ w cargs v g' hr hv he => ?_) (fun args g v g' he => ?_)
  · unfold extA at he
    split at he <;> first | contradiction | (cases he; done) | skip
    cases he
    obtain ⟨x, rfl, h1⟩ := hv.inv1
    exact ⟨_, w, μ, Lib.run_noEscape w x, .refl hr, h1⟩
  · unfold extA at he
    split at he <;> first | contradiction | (cases he; done) | skip
theorem ext_bits (h : ExtF P f fn Extern.MathFloatBits.float64bits) : CallR P f (fun a h => extA P f 1 a h .ok) := by
  refine h.callR (fun args g μ w cargs v g' hr hv he => ?_) (fun args g v g' he => ?_)
  · unfold extA at he
    split at he <;> first | contradiction | (cases he; done) | skip
    cases he
    obtain ⟨x, rfl, h1⟩ := hv.inv1
    cases h1
    exact ⟨_, w, μ, rfl, .refl hr, .int _ _⟩
  · unfold extA at he
    split at he <;> first | contradiction | (cases he; done) | skip
theorem ext_frombits (h : ExtF P f fn Extern.MathFloatBits.float64frombits) : CallR P f (fun a h => extA P f 2 a h .ok) := by
  refine h.callR (fun args g μ w cargs v g' hr hv he => ?_) (fun args g v g' he => ?_)
  · unfold extA at he
    split at he <;> first | contradiction | (cases he; done) | skip
    cases he
    obtain ⟨x, rfl, h1⟩ := hv.inv1
    cases h1
    exact ⟨_, w, μ, rfl, .refl hr, .flt _⟩
  · unfold extA at he
    split at he <;> first | contradiction | (cases he; done) | skip
theorem ext_add (h : ExtF P f fn add64Entry) : CallR P f (fun a h => extA P f 5 a h .ok) := by
  refine h.callR (fun args g μ w cargs v g' hr hv he => ?_) (fun args g v g' he => ?_)
  · unfold extA at he
    split at he <;> first | contradiction | (cases he; done) | skip
    · next a b c _ =>
      cases hb : Nat.ble c 1 with
      | false => rw [hb] at he; cases he
      | true =>
        rw [hb] at he
        cases he
        have hc : c ≤ 1 := Nat.le_of_ble_eq_true hb
        generalize hcl : cargs.toList = l at hv
        cases hv with | cons _ x _ _ h1 hs =>
        cases hs with | cons _ y _ _ h2 hs =>
        cases hs with | cons _ z _ _ h3 hs =>
        cases hs
        cases h1; cases h2; cases h3
        have hca : cargs = #[.int .u64 (Int.ofNat a), .int .u64 (Int.ofNat b), .int .u64 (Int.ofNat c)] := by apply Array.ext'; simpa using hcl
        subst hca
        refine ⟨_, w, μ, run_add64 _ _ _ (by simp) (by simp) (by simp) (by simp; omega) w, .refl hr, ?_⟩
        refine .tup _ _ (.cons _ _ _ _ ?_ (.cons _ _ _ _ ?_ .nil))
        · have : ((Int.ofNat a + Int.ofNat b + Int.ofNat c) % 18446744073709551616) = Int.ofNat (Nat.mod (Nat.add (Nat.add a b) c) 18446744073709551616) := rfl
          rw [this]; exact .int _ _
        · have : ((Int.ofNat a + Int.ofNat b + Int.ofNat c) / 18446744073709551616) = Int.ofNat (Nat.div (Nat.add (Nat.add a b) c) 18446744073709551616) := rfl
          rw [this]; exact .int _ _
  · unfold extA at he
    split at he <;> first | contradiction | (cases he; done) | skip
    · next a b c _ => cases hb : Nat.ble c 1 <;> rw [hb] at he <;> cases he
theorem one_digits : ∀ (n t : Nat) (acc : Array Value), (∀ x ∈ acc.toList, one x = true) → ∀ x ∈ (Extern.BytealgMakeNoZero.digits n t acc).toList, one x = true
  | 0, _, _, h => h
  | n + 1, t, acc, h => by
    rw [Extern.BytealgMakeNoZero.digits]
    exact one_digits n _ _ fun x hx => by
      rw [Array.toList_push] at hx
      rcases List.mem_append.1 hx with h1 | h1
      · exact h x h1
      · rw [List.mem_singleton.1 h1]; rfl
theorem run_mnz (w : World) (ps : Array TypeId) (t e : TypeId) (ht : P.underlying t = some (.slice e)) (n : Nat) (hn : n ≤ 281474976710656) :
    ∃ cs : Array Value, (Extern.BytealgMakeNoZero.makeNoZero ps #[t] #[.int .i64 n]).run P w = .ok (.slice (some ⟨w.heap.size, 0, none⟩) n cs.size) (w.drew.drew.alloc (.cells cs e)) ∧ n ≤ cs.size ∧ ∀ x ∈ cs.toList, one x = true := by
  have h1 : ¬ (n : Int) < 0 := by omega
  have h2 : ¬ (281474976710656 : Int) < (n : Int) := by omega
  refine ⟨Extern.BytealgMakeNoZero.digits (grownCap w n 0 e) ((Question.extern "internal/bytealg.MakeNoZero.bytes" 0).cut (w.tape (w.drawn + 1) (.extern "internal/bytealg.MakeNoZero.bytes" 0))) #[], ?_, ?_, one_digits _ _ _ (by simp)⟩
  · have hdef : Extern.BytealgMakeNoZero.makeNoZero ps #[t] #[.int .i64 n] = (underlying t >>= fun d => match d with
      | .slice el => (do
        if (n : Int) < 0 || (n : Int) > 2 ^ 48 then runtimePanic (.error "makeslice: len out of range")
        let c ← choose (.appendCap (n : Int).toNat 0 el)
        askRoom c
        let b ← choose (.extern "internal/bytealg.MakeNoZero.bytes" 0)
        let a ← newRow el (Extern.BytealgMakeNoZero.digits c b #[])
        pure (.slice (some a) (n : Int).toNat c))
      | _ => stuck "bytealg.MakeNoZero: slice type expected") := rfl
    rw [hdef]
    simp [run_underlying ht, h1, h2, Question.forced, newRow, Lib.size_digits, grownCap]
  · rw [Lib.size_digits]
    simpa using grownCap_ge w n 0 e
theorem ext_mnz {ps rs : Array TypeId} (h : ExtF P f fn (Extern.BytealgMakeNoZero.makeNoZero ps rs)) (hrs : fn.resultTypes = rs) : CallR P f (fun a h => extA P f 6 a h .ok) := by
  refine h.callR (fun args g μ w cargs v g' hr hv he => ?_) (fun args g v g' he => ?_)
  · unfold extA at he
    split at he <;> first | contradiction | (cases he; done) | skip
    · next n _ =>
      split at he
      · next el hm =>
        cases hb : Nat.blt n 1099511627776 with
        | false => rw [hb] at he; cases he
        | true =>
          rw [hb] at he
          cases he
          have hn : n < 1099511627776 := Nat.le_of_ble_eq_true hb
          unfold mnzT at hm
          rw [h.hf] at hm
          simp only at hm
          split at hm
          · next t hrt =>
            rw [hrs] at hrt
            have hrs' : rs = #[t] := by apply Array.ext'; simpa using hrt
            obtain ⟨x, rfl, h1⟩ := hv.inv1
            cases h1
            obtain ⟨cs, q1, q2, q3⟩ := run_mnz (P := P) w ps t el (slOf_inv hm) n (by omega)
            subst hrs'
            have hd1 := Ext.drew hr
            have hd2 := hd1.trans (Ext.drew hd1.hr)
            have hx := Ext.cells hd2.hr (ty := el) (n := n) (d := [.bad]) (t := .nil) (fz := 0) (ex := false) (c := cs) (u := cs.size) (sz := 1) q2 (by omega) (fun h => by cases h)
              (fun i hi => ⟨cs[i]'(by omega), by simp, .bad _⟩) q3
            refine ⟨_, _, _, q1, hd2.trans hx, ?_⟩
            have := VR.sliceU (μ := Ev.upd μ g.next ⟨w.drew.drew.heap.size, 0, cs.size, 1⟩) g.next 0 n ⟨w.drew.drew.heap.size, 0, cs.size, 1⟩ ⟨w.drew.drew.heap.size, 0, none⟩ (upd_same _ _ _) (by simpa using q2) (.inr rfl)
            exact this
          · cases hm
      · cases he
  · unfold extA at he
    split at he <;> first | contradiction | (cases he; done) | skip
    · next n _ =>
      split at he
      · cases hb : Nat.blt n 1099511627776 <;> rw [hb] at he <;> cases he
      · cases he

end Go.Ev
