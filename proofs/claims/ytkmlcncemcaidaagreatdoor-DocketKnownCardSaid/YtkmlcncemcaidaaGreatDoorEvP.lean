/- The abstract evaluator: packed strings are the model's strings. -/
import Derived.Test.YtkmlcncemcaidaaGreatDoorEvN
import Derived.Laws.Strings
namespace Go.Ev

theorem pk_nil : pk [] = 0 := rfl
theorem pk_cons (b : UInt8) (l : List UInt8) : pk (b :: l) = b.toNat + 256 * pk l := rfl
theorem pk_append : ∀ l m : List UInt8, pk (l ++ m) = pk l + pk m * 256 ^ l.length
  | [], m => by simp [pk_nil]
  | b :: l, m => by rw [List.cons_append, pk_cons, pk_cons, pk_append l m, List.length_cons, Nat.pow_succ, Nat.mul_add, ← Nat.add_assoc]; congr 1; rw [Nat.mul_left_comm, Nat.mul_comm 256]
theorem pk_lt : ∀ l : List UInt8, pk l < 256 ^ l.length
  | [] => by simp [pk_nil]
  | b :: l => by
    rw [pk_cons, List.length_cons, Nat.pow_succ]
    have h1 := pk_lt l
    have h2 : b.toNat < 256 := b.toNat_lt
    omega
theorem pk_drop (l : List UInt8) (i : Nat) (h : i ≤ l.length) : pk l / 256 ^ i = pk (l.drop i) := by
  have e : l = l.take i ++ l.drop i := (List.take_append_drop i l).symm
  have hl : (l.take i).length = i := by simp [h]
  conv => lhs; rw [e]
  rw [pk_append, hl]
  have := pk_lt (l.take i)
  rw [hl] at this
  rw [Nat.add_mul_div_right _ _ (Nat.pow_pos (by decide)), Nat.div_eq_of_lt this, Nat.zero_add]
theorem pk_take (l : List UInt8) (i : Nat) (h : i ≤ l.length) : pk l % 256 ^ i = pk (l.take i) := by
  have e : l = l.take i ++ l.drop i := (List.take_append_drop i l).symm
  have hl : (l.take i).length = i := by simp [h]
  conv => lhs; rw [e]
  rw [pk_append, hl, Nat.add_mul_mod_self_right]
  have := pk_lt (l.take i)
  rw [hl] at this
  exact Nat.mod_eq_of_lt this
theorem pow8 (i : Nat) : 2 ^ (8 * i) = 256 ^ i := by rw [Nat.pow_mul]
theorem stGet_pk (l : List UInt8) (i : Nat) (h : i < l.length) : stGet (pk l) i = l[i].toNat := by
  show (pk l >>> (8 * i)) % 256 = _
  rw [Nat.shiftRight_eq_div_pow, pow8, pk_drop l i (by omega)]
  rw [List.drop_eq_getElem_cons h, pk_cons]
  have h2 : l[i].toNat < 256 := l[i].toNat_lt
  omega
theorem stSub_pk (l : List UInt8) (a b : Nat) (hab : a ≤ b) (hb : b ≤ l.length) : stSub (pk l) a b = pk ((l.take b).drop a) := by
  show (pk l >>> (8 * a)) % 2 ^ (8 * (b - a)) = _
  rw [Nat.shiftRight_eq_div_pow, pow8, pow8, pk_drop l a (by omega), pk_take _ _ (by simp; omega), List.take_drop]
  congr 3; omega
theorem stCat_pk (l m : List UInt8) : stCat l.length (pk l) (pk m) = pk (l ++ m) := by
  show pk l + (pk m <<< (8 * l.length)) = _
  rw [Nat.shiftLeft_eq, pow8, pk_append]
theorem pk_inj : ∀ l m : List UInt8, l.length = m.length → pk l = pk m → l = m
  | [], [], _, _ => rfl
  | [], _ :: _, h, _ => by simp at h
  | _ :: _, [], h, _ => by simp at h
  | b :: l, c :: m, h, e => by
    rw [pk_cons, pk_cons] at e
    have h1 : b.toNat < 256 := b.toNat_lt
    have h2 : c.toNat < 256 := c.toNat_lt
    have hb : b = c := UInt8.toNat_inj.1 (by omega)
    subst hb
    rw [pk_inj l m (by simpa using h) (by omega)]
theorem strEq_pk (l m : List UInt8) : an (Nat.beq l.length m.length) (Nat.beq (pk l) (pk m)) = (l == m) := by
  rw [Bool.eq_iff_iff, beq_iff_eq]
  constructor
  · intro h
    obtain ⟨h1, h2⟩ := an_true h
    exact pk_inj l m (Nat.eq_of_beq_eq_true h1) (Nat.eq_of_beq_eq_true h2)
  · intro h
    subst h
    simp [an]
theorem stLess_pk : ∀ (f : Nat) (l m : List UInt8), l.length < f → stLess f l.length (pk l) m.length (pk m) = Op.bytesLess l m
  | 0, _, _, h => by omega
  | f + 1, [], [], _ => rfl
  | f + 1, _ :: _, [], _ => rfl
  | f + 1, [], _ :: _, _ => rfl
  | f + 1, b :: l, c :: m, h => by
    have h1 : b.toNat < 256 := b.toNat_lt
    have h2 : c.toNat < 256 := c.toNat_lt
    have ih := stLess_pk f l m (by simp at h; omega)
    simp only [List.length_cons] at *
    have eb : pk (b :: l) % 256 = b.toNat := by rw [pk_cons]; omega
    have ec : pk (c :: m) % 256 = c.toNat := by rw [pk_cons]; omega
    have db : pk (b :: l) / 256 = pk l := by rw [pk_cons]; omega
    have dc : pk (c :: m) / 256 = pk m := by rw [pk_cons]; omega
    show (bif Nat.blt (pk (b :: l) % 256) (pk (c :: m) % 256) then true else bif Nat.beq (pk (b :: l) % 256) (pk (c :: m) % 256) then stLess f l.length (pk (b :: l) / 256) m.length (pk (c :: m) / 256) else false) = (b < c || (b == c && Op.bytesLess l m))
    rw [eb, ec, db, dc, ih]
    by_cases hlt : b < c
    · have : Nat.blt b.toNat c.toNat = true := by simpa [Nat.blt_eq] using UInt8.lt_iff_toNat_lt.1 hlt
      simp [this, hlt]
    · have h3 : Nat.blt b.toNat c.toNat = false := by
        cases hb : Nat.blt b.toNat c.toNat with
        | false => rfl
        | true => exact absurd (UInt8.lt_iff_toNat_lt.2 (by simpa [Nat.blt_eq] using hb)) hlt
      rw [h3]
      by_cases he : b = c
      · subst he; simp
      · have h4 : Nat.beq b.toNat c.toNat = false := by
          cases hb : Nat.beq b.toNat c.toNat with
          | false => rfl
          | true => exact absurd (UInt8.toNat_inj.1 (Nat.eq_of_beq_eq_true hb)) he
        rw [h4]
        simp [hlt, he]
def byteV (b : UInt8) : Value := .int .u8 b.toNat
theorem strBytes_VRs (μ : Mu) : ∀ l : List UInt8, VRs μ (strBytes l.length (pk l)) (l.map byteV)
  | [] => .nil
  | b :: l => by
    have h1 : b.toNat < 256 := b.toNat_lt
    have eb : pk (b :: l) % 256 = b.toNat := by rw [pk_cons]; omega
    have db : pk (b :: l) / 256 = pk l := by rw [pk_cons]; omega
    show VRs μ (.int .u8 (Int.ofNat (pk (b :: l) % 256)) :: strBytes l.length (pk (b :: l) / 256)) (byteV b :: l.map byteV)
    rw [eb, db]
    exact .cons _ _ _ _ (.int _ _) (strBytes_VRs μ l)
theorem strBytes_length (n : Nat) : ∀ l, (strBytes l n).length = l := by
  intro l
  induction l generalizing n with
  | zero => rfl
  | succ l ih => show (strBytes l (n / 256)).length + 1 = _; rw [ih]
/- cells that are read as a string's bytes -/
theorem bytesStr_spec {μ : Mu} : ∀ {r : List AV} {cs : List Value} {l n : Nat}, VRs μ r cs → bytesStr r = some (l, n) → ∃ bs : List UInt8, cs = bs.map byteV ∧ l = bs.length ∧ n = pk bs
  | _, _, _, _, .nil, h => by cases h; exact ⟨[], rfl, rfl, rfl⟩
  | _, _, l, n, .cons v c r cs hv hs, h => by
    unfold bytesStr at h
    split at h
    · cases h
      next heq => cases heq
    · next b r' heq =>
      cases heq
      split at h
      · next l' n' hr =>
        cases hb : Nat.blt b 256 with
        | false => rw [hb] at h; cases h
        | true =>
          rw [hb] at h; cases h
          obtain ⟨bs, e1, e2, e3⟩ := bytesStr_spec hs hr
          have hb : b < 256 := by simpa [Nat.blt_eq] using hb
          cases hv
          refine ⟨UInt8.ofNat b :: bs, ?_, by simp [e2], ?_⟩
          · simp only [List.map_cons, e1]
            congr 1
            simp [byteV, UInt8.toNat_ofNat', Nat.mod_eq_of_lt hb]
          · rw [pk_cons, e3]
            simp [UInt8.toNat_ofNat', Nat.mod_eq_of_lt hb]
      · cases h
    · cases h

end Go.Ev
