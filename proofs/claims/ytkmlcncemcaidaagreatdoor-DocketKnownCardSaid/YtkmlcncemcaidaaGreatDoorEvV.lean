/- The abstract evaluator: its operators on values are the model's. -/
import Derived.Test.YtkmlcncemcaidaaGreatDoorEvP
namespace Go.Ev
variable {P : Program} {w : World}

def isEq : BinOp → Bool
  | .eql | .neq => true
  | _ => false

/- integers -/
theorem binI_sound {μ : Mu} {op : BinOp} {k k' : IntKind} {a b : Int} {h : H} {c : KV} {r : R} (t : TypeId) (hf : Fin r) (e : binII op k a k' b h c = r) :
    ∃ v cv, (binOp op t (.int k a) (.int k' b)).run P w = .ok cv w ∧ VR μ v cv ∧ c v h = r := by
  unfold binII at e
  have h2 := cond_fail hf e
  clear e
  obtain ⟨hk, e⟩ := h2
  cases op with
  | add =>
    have hk : k = k' := by cases k <;> cases k' <;> first | rfl | (exact absurd hk (by decide))
    subst hk
    refine ⟨_, _, ?_, .int _ _, e⟩
    simp [binOp, Op.intArith, wr_eq, addI_eq]
  | sub =>
    have hk : k = k' := by cases k <;> cases k' <;> first | rfl | (exact absurd hk (by decide))
    subst hk
    refine ⟨_, _, ?_, .int _ _, e⟩
    simp [binOp, Op.intArith, wr_eq, addI_eq, negI_eq, Int.sub_eq_add_neg]
  | mul =>
    have hk : k = k' := by cases k <;> cases k' <;> first | rfl | (exact absurd hk (by decide))
    subst hk
    refine ⟨_, _, ?_, .int _ _, e⟩
    simp [binOp, Op.intArith, wr_eq, mulI_eq]
  | quo =>
    have hk : k = k' := by cases k <;> cases k' <;> first | rfl | (exact absurd hk (by decide))
    subst hk
    obtain ⟨h0, e⟩ := bf hf e
    rw [eqI_eq] at h0
    have h0 : ¬ b = 0 := by simpa using h0
    refine ⟨_, _, ?_, .int _ _, e⟩
    simp [binOp, Op.intDiv, wr_eq, h0]
  | rem =>
    have hk : k = k' := by cases k <;> cases k' <;> first | rfl | (exact absurd hk (by decide))
    subst hk
    obtain ⟨h0, e⟩ := bf hf e
    rw [eqI_eq] at h0
    have h0 : ¬ b = 0 := by simpa using h0
    refine ⟨_, _, ?_, .int _ _, e⟩
    simp [binOp, Op.intDiv, h0]
  | and =>
    have hk : k = k' := by cases k <;> cases k' <;> first | rfl | (exact absurd hk (by decide))
    subst hk
    refine ⟨_, _, ?_, .int _ _, e⟩
    simp only [binOp, Op.intBits, ne_eq, not_true_eq_false, if_false, Sem.run_pure, BitVec.toNat_and, toU_bv, wr_eq]
    rfl
  | or =>
    have hk : k = k' := by cases k <;> cases k' <;> first | rfl | (exact absurd hk (by decide))
    subst hk
    refine ⟨_, _, ?_, .int _ _, e⟩
    simp only [binOp, Op.intBits, ne_eq, not_true_eq_false, if_false, Sem.run_pure, BitVec.toNat_or, toU_bv, wr_eq]
    rfl
  | xor =>
    have hk : k = k' := by cases k <;> cases k' <;> first | rfl | (exact absurd hk (by decide))
    subst hk
    refine ⟨_, _, ?_, .int _ _, e⟩
    simp only [binOp, Op.intBits, ne_eq, not_true_eq_false, if_false, Sem.run_pure, BitVec.toNat_xor, toU_bv, wr_eq]
    rfl
  | andNot =>
    have hk : k = k' := by cases k <;> cases k' <;> first | rfl | (exact absurd hk (by decide))
    subst hk
    refine ⟨_, _, ?_, .int _ _, e⟩
    simp only [binOp, Op.intBits, ne_eq, not_true_eq_false, if_false, Sem.run_pure, BitVec.toNat_and, BitVec.toNat_not, toU_bv, wr_eq, ← pw_nat]
    rfl
  | shl =>
    obtain ⟨h0, e⟩ := bt hf e
    rw [leI_eq] at h0
    have h0 : ¬ b < 0 := by have : (0 : Int) ≤ b := by simpa using h0
                            omega
    refine ⟨_, _, ?_, .int _ _, e⟩
    simp only [binOp, Op.shift, if_neg h0, Sem.run_pure, wr_eq, mulI_eq]
    congr 3
  | shr =>
    obtain ⟨h0, e⟩ := bt hf e
    rw [leI_eq] at h0
    have h0 : ¬ b < 0 := by have : (0 : Int) ≤ b := by simpa using h0
                            omega
    refine ⟨_, _, ?_, .int _ _, e⟩
    simp only [binOp, Op.shift, if_neg h0, Sem.run_pure, shrI_eq]
  | eql =>
    have hk : k = k' := by cases k <;> cases k' <;> first | rfl | (exact absurd hk (by decide))
    subst hk
    refine ⟨_, _, ?_, .bool _, e⟩
    simp [binOp, Op.intCmp, eqI_eq]
  | neq =>
    have hk : k = k' := by cases k <;> cases k' <;> first | rfl | (exact absurd hk (by decide))
    subst hk
    refine ⟨_, _, ?_, .bool _, e⟩
    simp [binOp, Op.intCmp, eqI_eq, nt_eq, bne]
  | lss =>
    have hk : k = k' := by cases k <;> cases k' <;> first | rfl | (exact absurd hk (by decide))
    subst hk
    refine ⟨_, _, ?_, .bool _, e⟩
    simp only [binOp, Op.intCmp, leI_eq, nt_eq, ne_eq, not_true_eq_false, if_false, Sem.run_pure]
    congr 2
    rw [Bool.eq_iff_iff]; simp
  | leq =>
    have hk : k = k' := by cases k <;> cases k' <;> first | rfl | (exact absurd hk (by decide))
    subst hk
    refine ⟨_, _, ?_, .bool _, e⟩
    simp [binOp, Op.intCmp, leI_eq]
  | gtr =>
    have hk : k = k' := by cases k <;> cases k' <;> first | rfl | (exact absurd hk (by decide))
    subst hk
    refine ⟨_, _, ?_, .bool _, e⟩
    simp only [binOp, Op.intCmp, leI_eq, nt_eq, ne_eq, not_true_eq_false, if_false, Sem.run_pure]
    congr 2
    rw [Bool.eq_iff_iff]; simp
  | geq =>
    have hk : k = k' := by cases k <;> cases k' <;> first | rfl | (exact absurd hk (by decide))
    subst hk
    refine ⟨_, _, ?_, .bool _, e⟩
    simp [binOp, Op.intCmp, leI_eq]

theorem binS_sound {μ : Mu} {op : BinOp} {s u : ByteArray} {h : H} {c : KV} {r : R} (t : TypeId) (hf : Fin r)
    (e : binS op s.data.toList.length (pk s.data.toList) u.data.toList.length (pk u.data.toList) h c = r) :
    ∃ v cv, (binOp op t (.string s) (.string u)).run P w = .ok cv w ∧ VR μ v cv ∧ c v h = r := by
  have hle : ∀ x y : List UInt8, (!Op.bytesLess y x) = (Op.bytesLess x y || x == y) := by
    intro x
    induction x with
    | nil => intro y; cases y <;> rfl
    | cons a x ih =>
      intro y
      cases y with
      | nil => rfl
      | cons b y =>
        show (!(b < a || (b == a && Op.bytesLess y x))) = ((a < b || (a == b && Op.bytesLess x y)) || (a :: x == b :: y))
        by_cases h1 : a = b
        · subst h1
          have hlt : ¬ a < a := UInt8.lt_irrefl a
          simp only [hlt, decide_false, Bool.false_or, BEq.rfl, Bool.true_and, ih y]
          rw [Bool.eq_iff_iff]; simp
        · have h2 : (a == b) = false := by simpa using h1
          have h3 : (b == a) = false := by simpa using fun h => h1 h.symm
          have h4 : (a :: x == b :: y) = false := by simp [h1]
          simp only [h2, h3, h4, Bool.false_and, Bool.or_false]
          rw [Bool.eq_iff_iff]
          simp only [Bool.not_eq_true', decide_eq_false_iff_not, decide_eq_true_eq, UInt8.lt_iff_toNat_lt]
          have : a.toNat ≠ b.toNat := fun h => h1 (UInt8.toNat_inj.1 h)
          omega
  unfold binS at e
  split at e
  · obtain ⟨h0, e⟩ := bt hf e
    have h0 : s.data.toList.length + u.data.toList.length < 9223372036854775808 := by simpa [Nat.blt_eq] using h0
    refine ⟨_, _, ?_, .str (s ++ u) _ _ ?_ ?_, e⟩
    · simp only [binOp, Op.stringOp]
      rw [if_neg (by
        have h1 : s.size = s.data.toList.length := by simp
        have h2 : u.size = u.data.toList.length := by simp
        show ¬ (((s.size + u.size : Nat) : Int) > IntKind.i64.max)
        have : IntKind.i64.max = 9223372036854775807 := rfl
        rw [this]; omega)]
      rfl
    · simp
    · rw [stCat_pk]; simp
  · refine ⟨_, _, ?_, .bool _, e⟩
    rw [strEq_pk]; simp [binOp, Op.stringOp, ByteArray.toList_eq]
  · refine ⟨_, _, ?_, .bool _, e⟩
    rw [strEq_pk]; simp [binOp, Op.stringOp, ByteArray.toList_eq, nt_eq]
  · refine ⟨_, _, ?_, .bool _, e⟩
    rw [stLess_pk _ _ _ (by show _ < _ + _ + 1; omega)]; simp [binOp, Op.stringOp, ByteArray.toList_eq]
  · refine ⟨_, _, ?_, .bool _, e⟩
    rw [stLess_pk _ _ _ (by show _ < _ + _ + 1; omega)]
    simp only [binOp, Op.stringOp, ByteArray.toList_eq, Sem.run_pure]
    congr 2
    rw [← hle, Bool.not_not]
  · refine ⟨_, _, ?_, .bool _, e⟩
    rw [stLess_pk _ _ _ (by show _ < _ + _ + 1; omega)]
    simp only [binOp, Op.stringOp, ByteArray.toList_eq, Sem.run_pure, nt_eq]
    congr 2
    rw [← hle]
  · refine ⟨_, _, ?_, .bool _, e⟩
    rw [stLess_pk _ _ _ (by show _ < _ + _ + 1; omega)]; simp [binOp, Op.stringOp, ByteArray.toList_eq, nt_eq]
  · exact hf.no e

theorem fltO_sound {μ : Mu} {o : Option Nat} {h : H} {c : KV} {r : R} (hf : Fin r) (e : fltO o h c = r) : ∃ x, o = some x ∧ ∃ v, VR μ v (.float .f64 x) ∧ c v h = r := by
  unfold fltO at e
  split at e
  · exact ⟨_, rfl, _, .flt _, e⟩
  · exact hf.no e
theorem binF_sound {μ : Mu} {op : BinOp} {a b : Nat} {h : H} {c : KV} {r : R} (t : TypeId) (hf : Fin r) (e : binF op a b h c = r) :
    ∃ v cv, (binOp op t (.float .f64 a) (.float .f64 b)).run P w = .ok cv w ∧ VR μ v cv ∧ c v h = r := by
  unfold binF at e
  split at e
  · obtain ⟨x, hx, v, hv, e⟩ := fltO_sound (μ := μ) hf e
    exact ⟨v, _, by simp [binOp, Op.floatArith, FloatKind.format, hx], hv, e⟩
  · obtain ⟨x, hx, v, hv, e⟩ := fltO_sound (μ := μ) hf e
    exact ⟨v, _, by simp [binOp, Op.floatArith, FloatKind.format, hx], hv, e⟩
  · obtain ⟨x, hx, v, hv, e⟩ := fltO_sound (μ := μ) hf e
    exact ⟨v, _, by simp [binOp, Op.floatArith, FloatKind.format, hx], hv, e⟩
  · obtain ⟨x, hx, v, hv, e⟩ := fltO_sound (μ := μ) hf e
    exact ⟨v, _, by simp [binOp, Op.floatArith, FloatKind.format, hx], hv, e⟩
  · exact ⟨_, _, by simp [binOp, Op.floatCmp, FloatKind.format], .bool _, e⟩
  · exact ⟨_, _, by simp [binOp, Op.floatCmp, FloatKind.format], .bool _, e⟩
  · exact ⟨_, _, by simp [binOp, Op.floatCmp, FloatKind.format], .bool _, e⟩
  · exact ⟨_, _, by simp [binOp, Op.floatCmp, FloatKind.format], .bool _, e⟩
  · exact ⟨_, _, by simp [binOp, Op.floatCmp, FloatKind.format], .bool _, e⟩
  · exact ⟨_, _, by simp [binOp, Op.floatCmp, FloatKind.format], .bool _, e⟩
  · exact hf.no e

theorem unA_sound {μ : Mu} {op : UnOp} {x : AV} {cx : Value} (hx : VR μ x cx) {h : H} {c : KV} {r : R} (hf : Fin r) (e : unA op x h c = r) :
    ∃ v cv, (Op.unary op cx).run P w = .ok cv w ∧ VR μ v cv ∧ c v h = r := by
  unfold unA at e
  split at e
  · cases hx
    refine ⟨_, _, ?_, .int _ _, e⟩
    simp [Op.unary, Op.intArith, wr_eq, negI_eq]
  · cases hx
    next k n =>
    refine ⟨_, _, ?_, .int _ _, e⟩
    simp only [Op.unary, Op.intBits, Sem.run_pure, BitVec.toNat_xor, toU_bv, wr_eq]
    congr 3
    have h1 : toU k (if k.signed then -1 else k.max) = pw k - 1 := by cases k <;> rfl
    have h2 := toU_lt k n
    rw [h1, pw_nat] at *
    have h3 : (2 ^ k.bits - 1) ^^^ toU k n = 2 ^ k.bits - 1 - toU k n := by
      have := BitVec.toNat_not (x := BitVec.ofNat k.bits (toU k n))
      have h4 : (BitVec.allOnes k.bits ^^^ BitVec.ofNat k.bits (toU k n)) = ~~~ (BitVec.ofNat k.bits (toU k n)) := by
        rw [BitVec.allOnes_xor]
      have h5 := congrArg BitVec.toNat h4
      rw [BitVec.toNat_xor, this, BitVec.toNat_allOnes, BitVec.toNat_ofNat, Nat.mod_eq_of_lt h2] at h5
      exact h5
    rw [h3]; rfl
  · cases hx
    exact ⟨_, _, by simp [Op.unary], .flt _, e⟩
  · cases hx
    exact ⟨_, _, by simp [Op.unary, nt_eq], .bool _, e⟩
  · exact hf.no e

end Go.Ev
