/- The abstract evaluator: its numbers are the model's. -/
import Derived.Test.YtkmlcncemcaidaaGreatDoorEvO
namespace Go.Ev

theorem leI_eq (a b : Int) : leI a b = decide (a ≤ b) := by
  cases a <;> cases b <;> unfold leI <;> rw [Bool.eq_iff_iff] <;> simp only [decide_eq_true_eq]
  · exact ⟨fun h => Int.ofNat_le.2 (Nat.le_of_ble_eq_true h), fun h => Nat.ble_eq_true_of_le (Int.ofNat_le.1 h)⟩
  · exact ⟨(fun h => by cases h), (fun h => absurd h (by simp only [Int.ofNat_eq_natCast]; omega))⟩
  · exact ⟨(fun _ => by simp only [Int.ofNat_eq_natCast]; omega), (fun _ => trivial)⟩
  · exact ⟨fun h => by have := Nat.le_of_ble_eq_true h; omega, fun h => Nat.ble_eq_true_of_le (by omega)⟩
theorem eqI_eq (a b : Int) : eqI a b = (a == b) := by
  cases a <;> cases b <;> unfold eqI <;> rw [Bool.eq_iff_iff] <;> simp only [beq_iff_eq]
  · exact ⟨(fun h => congrArg Int.ofNat (Nat.eq_of_beq_eq_true h)), (fun h => by cases h; exact Nat.beq_refl _)⟩
  · exact ⟨(fun h => by cases h), (fun h => by cases h)⟩
  · exact ⟨(fun h => by cases h), (fun h => by cases h)⟩
  · exact ⟨(fun h => congrArg Int.negSucc (Nat.eq_of_beq_eq_true h)), (fun h => by cases h; exact Nat.beq_refl _)⟩
theorem subN_eq (a b : Nat) : subN a b = (a : Int) - b := by
  unfold subN
  cases h : Nat.ble b a with
  | true => have := Nat.le_of_ble_eq_true h; show Int.ofNat (a - b) = _; simp only [Int.ofNat_eq_natCast]; omega
  | false =>
    have : ¬ b ≤ a := fun hle => by rw [Nat.ble_eq_true_of_le hle] at h; cases h
    show Int.negSucc (b - a - 1) = _
    omega
theorem addI_eq (a b : Int) : addI a b = a + b := by
  cases a <;> cases b <;> unfold addI
  · show Int.ofNat (_ + _) = _; simp only [Int.ofNat_eq_natCast]; omega
  · show subN _ (_ + 1) = _; rw [subN_eq]; simp only [Int.ofNat_eq_natCast]; omega
  · show subN _ (_ + 1) = _; rw [subN_eq]; simp only [Int.ofNat_eq_natCast]; omega
  · show Int.negSucc (_ + _ + 1) = _; omega
theorem negI_eq (a : Int) : negI a = -a := by
  cases a with
  | ofNat a => cases a <;> rfl
  | negSucc a => rfl
theorem mulI_eq (a b : Int) : mulI a b = a * b := by
  cases a with
  | ofNat a =>
    cases b with
    | ofNat b => rfl
    | negSucc b => show negI (Int.ofNat (a * (b + 1))) = _; rw [negI_eq]; rw [Int.negSucc_eq]; simp only [Int.ofNat_eq_natCast, Int.natCast_mul, Int.mul_neg]; rfl
  | negSucc a =>
    cases b with
    | ofNat b => show negI (Int.ofNat ((a + 1) * b)) = _; rw [negI_eq]; rw [Int.negSucc_eq]; simp only [Int.ofNat_eq_natCast, Int.natCast_mul, Int.neg_mul]; rfl
    | negSucc b => show Int.ofNat ((a + 1) * (b + 1)) = _; rw [Int.negSucc_eq, Int.negSucc_eq]; simp only [Int.ofNat_eq_natCast, Int.natCast_mul, Int.neg_mul, Int.mul_neg, Int.neg_neg]; rfl

theorem pw_eq (k : IntKind) : ((pw k : Nat) : Int) = 2 ^ k.bits := by cases k <;> rfl
theorem toU_eq (k : IntKind) (n : Int) : ((toU k n : Nat) : Int) = n % 2 ^ k.bits := by
  rw [← pw_eq]
  cases n with
  | ofNat a => show ((a % pw k : Nat) : Int) = _; simp
  | negSucc a =>
    show ((pw k - 1 - a % pw k : Nat) : Int) = _
    have hp : 0 < pw k := by cases k <;> decide
    have hlt := Nat.mod_lt a hp
    rw [Int.negSucc_emod]
    · omega
    · omega
theorem toU_lt (k : IntKind) (n : Int) : toU k n < pw k := by
  have h := toU_eq k n
  rw [← pw_eq] at h
  have hp : (0 : Int) < pw k := by cases k <;> decide
  have := Int.emod_lt_of_pos n hp
  omega
theorem wrap_def (k : IntKind) (n : Int) : k.wrap n = if sgn k = true ∧ (hf k : Int) ≤ n % (pw k : Int) then n % (pw k : Int) - pw k else n % (pw k : Int) := by
  cases k <;> simp [IntKind.wrap, IntKind.signed, IntKind.bits, sgn, hf, pw]
theorem ofU_wrap (k : IntKind) (n : Int) : ofU k (toU k n) = k.wrap n := by
  have h := toU_eq k n
  have hlt := toU_lt k n
  rw [← pw_eq] at h
  rw [wrap_def, ← h]
  unfold ofU
  generalize toU k n = m at *
  cases hb : Nat.blt m (hf k) with
  | true =>
    have hb : m < hf k := by simpa [Nat.blt_eq] using hb
    show Int.ofNat m = _
    rw [if_neg (by omega)]; rfl
  | false =>
    have hb : hf k ≤ m := by
      rcases Nat.lt_or_ge m (hf k) with h' | h'
      · rw [show Nat.blt m (hf k) = true from by simpa [Nat.blt_eq] using h'] at hb; cases hb
      · exact h'
    have hs : sgn k = true := by cases k <;> first | rfl | (simp [hf, pw] at hb hlt; omega)
    show Int.negSucc (pw k - 1 - m) = _
    rw [if_pos ⟨hs, by omega⟩]
    omega
theorem inR_wrap (k : IntKind) (n : Int) (h : inR k n = true) : k.wrap n = n := by
  rw [wrap_def]
  cases n with
  | ofNat a =>
    have h : a < hf k := by
      have h' : Nat.blt a (hf k) = true := h
      simpa [Nat.blt_eq] using h'
    have hp : hf k ≤ pw k := by cases k <;> decide
    simp only [Int.ofNat_eq_natCast]
    rw [Int.emod_eq_of_lt (by omega) (by omega), if_neg (by omega)]
  | negSucc a =>
    have h : sgn k = true ∧ a < hf k := by
      have h' : (Bool.rec false (Nat.blt a (hf k)) (sgn k) : Bool) = true := h
      cases hs : sgn k with
      | false => rw [hs] at h'; cases h'
      | true => rw [hs] at h'; exact ⟨rfl, by have h'' : Nat.blt a (hf k) = true := h'; simpa [Nat.blt_eq] using h''⟩
    have hp : 2 * hf k = pw k := by cases k <;> first | rfl | (exact absurd h.1 (by decide))
    have he : Int.negSucc a % (pw k : Int) = pw k - (a + 1) := by
      have : Int.negSucc a % (pw k : Int) = (Int.negSucc a + pw k * 1) % (pw k : Int) := by rw [Int.add_mul_emod_self_left]
      rw [this, Int.emod_eq_of_lt (by omega) (by omega)]; omega
    rw [he, if_pos ⟨h.1, by omega⟩]; omega
theorem wr_eq (k : IntKind) (n : Int) : wr k n = k.wrap n := by
  unfold wr
  cases h : inR k n with
  | true => show n = _; rw [inR_wrap k n h]
  | false => exact ofU_wrap k n
theorem shrI_eq (a : Int) (n : Nat) : shrI a n = a.fdiv (2 ^ n) := by
  have hp : (0 : Int) < 2 ^ n := Int.pow_pos (by decide)
  rw [Int.fdiv_eq_ediv_of_nonneg _ (Int.le_of_lt hp)]
  cases a with
  | ofNat a =>
    show Int.ofNat (a / 2 ^ n) = _
    simp only [Int.ofNat_eq_natCast, Int.natCast_ediv, Int.natCast_pow]; rfl
  | negSucc a =>
    show Int.negSucc (a / 2 ^ n) = _
    rw [Int.negSucc_ediv _ hp, Int.negSucc_eq]
    simp only [Int.natCast_ediv, Int.natCast_pow]
    rfl

theorem toU_bv (k : IntKind) (n : Int) : (BitVec.ofInt k.bits n).toNat = toU k n := by
  rw [BitVec.toNat_ofInt]
  have h := toU_eq k n
  have h2 : ((2 ^ k.bits : Nat) : Int) = 2 ^ k.bits := by simp
  rw [h2, ← h]; simp
theorem pw_nat (k : IntKind) : pw k = 2 ^ k.bits := by cases k <;> rfl

end Go.Ev
