/- The abstract evaluator: what a value, a block, a heap stands for in the model's world. -/
import Derived.Test.YtkmlcncemcaidaaGreatDoorEvC
import Derived.Calls
namespace Go.Ev

/-! tries -/
namespace Tr
variable {α : Type}
theorem get_nil (k : Nat) : (Tr.nil : Tr α).get k = none := rfl
theorem get_zero (v : Option α) (l r : Tr α) : (Tr.node v l r).get 0 = v := rfl
theorem get_succ (v : Option α) (l r : Tr α) (j : Nat) : (Tr.node v l r).get (j + 1) = bif Nat.beq (j % 2) 0 then l.get (j / 2) else r.get (j / 2) := by
  show (Bool.rec (r.get (Nat.div j 2)) (l.get (Nat.div j 2)) (Nat.beq (Nat.mod j 2) 0) : Option α) = _
  show _ = bif Nat.beq (Nat.mod j 2) 0 then l.get (Nat.div j 2) else r.get (Nat.div j 2)
  cases Nat.beq (Nat.mod j 2) 0 <;> rfl
theorem one_zero (x : α) (f : Nat) : one x (f + 1) 0 = .node (some x) .nil .nil := rfl
theorem one_succ (x : α) (f j : Nat) : one x (f + 1) (j + 1) = bif Nat.beq (j % 2) 0 then Tr.node none (one x f (j / 2)) .nil else Tr.node none .nil (one x f (j / 2)) := by
  show (Bool.rec (.node none .nil (one x f (Nat.div j 2))) (.node none (one x f (Nat.div j 2)) .nil) (Nat.beq (Nat.mod j 2) 0) : Tr α) = _
  show _ = bif Nat.beq (Nat.mod j 2) 0 then Tr.node none (one x f (Nat.div j 2)) .nil else Tr.node none .nil (one x f (Nat.div j 2))
  cases Nat.beq (Nat.mod j 2) 0 <;> rfl
theorem get_one (x : α) : ∀ (f k j : Nat), k < f → (one x f k).get j = if j = k then some x else none := by
  intro f
  induction f with
  | zero => intro k j h; omega
  | succ f ih =>
    intro k j h
    cases k with
    | zero =>
      rw [one_zero]
      cases j with
      | zero => rfl
      | succ j => rw [get_succ]; cases Nat.beq (j % 2) 0 <;> simp [get_nil]
    | succ k =>
      rw [one_succ]
      have hk : k / 2 < f := by omega
      cases hb : Nat.beq (k % 2) 0 with
      | true =>
        have hb' : k % 2 = 0 := Nat.eq_of_beq_eq_true hb
        simp only [cond_true]
        cases j with
        | zero => rw [get_zero]; simp
        | succ j =>
          rw [get_succ]
          cases hj : Nat.beq (j % 2) 0 with
          | true =>
            have hj' : j % 2 = 0 := Nat.eq_of_beq_eq_true hj
            simp only [cond_true]; rw [ih _ _ hk]
            by_cases e : j = k
            · simp [e]
            · have : ¬ j / 2 = k / 2 := by omega
              simp [e, this]
          | false =>
            have hj' : j % 2 ≠ 0 := fun h => by rw [h] at hj; simp at hj
            simp only [cond_false, get_nil]
            have : ¬ j = k := fun e => hj' (e ▸ hb')
            simp [this]
      | false =>
        have hb' : k % 2 ≠ 0 := fun h => by rw [h] at hb; simp at hb
        simp only [cond_false]
        cases j with
        | zero => rw [get_zero]; simp
        | succ j =>
          rw [get_succ]
          cases hj : Nat.beq (j % 2) 0 with
          | true =>
            have hj' : j % 2 = 0 := Nat.eq_of_beq_eq_true hj
            simp only [cond_true, get_nil]
            have : ¬ j = k := fun e => hb' (e ▸ hj')
            simp [this]
          | false =>
            have hj' : j % 2 ≠ 0 := fun h => by rw [h] at hj; simp at hj
            simp only [cond_false]; rw [ih _ _ hk]
            by_cases e : j = k
            · simp [e]
            · have : ¬ j / 2 = k / 2 := by omega
              simp [e, this]
theorem set_nil (x : α) (k : Nat) : (Tr.nil : Tr α).set k x = one x (k + 1) k := rfl
theorem set_zero (x : α) (v : Option α) (l r : Tr α) : (Tr.node v l r).set 0 x = .node (some x) l r := rfl
theorem set_succ (x : α) (v : Option α) (l r : Tr α) (j : Nat) : (Tr.node v l r).set (j + 1) x = bif Nat.beq (j % 2) 0 then Tr.node v (l.set (j / 2) x) r else Tr.node v l (r.set (j / 2) x) := by
  show (Bool.rec (.node v l (r.set (Nat.div j 2) x)) (.node v (l.set (Nat.div j 2) x) r) (Nat.beq (Nat.mod j 2) 0) : Tr α) = _
  show _ = bif Nat.beq (Nat.mod j 2) 0 then Tr.node v (l.set (Nat.div j 2) x) r else Tr.node v l (r.set (Nat.div j 2) x)
  cases Nat.beq (Nat.mod j 2) 0 <;> rfl
theorem get_set (t : Tr α) : ∀ (k : Nat) (x : α) (j : Nat), (t.set k x).get j = if j = k then some x else t.get j := by
  induction t with
  | nil => intro k x j; rw [set_nil, get_one _ _ _ _ (Nat.lt_succ_self _)]; simp [get_nil]
  | node v l r ihl ihr =>
    intro k x j
    cases k with
    | zero =>
      rw [set_zero]
      cases j with
      | zero => rfl
      | succ j => rw [get_succ, get_succ]; simp
    | succ k =>
      rw [set_succ]
      cases hb : Nat.beq (k % 2) 0 with
      | true =>
        have hb' : k % 2 = 0 := Nat.eq_of_beq_eq_true hb
        simp only [cond_true]
        cases j with
        | zero => rw [get_zero, get_zero]; simp
        | succ j =>
          rw [get_succ, get_succ]
          cases hj : Nat.beq (j % 2) 0 with
          | true =>
            have hj' : j % 2 = 0 := Nat.eq_of_beq_eq_true hj
            simp only [cond_true]; rw [ihl]
            by_cases e : j = k
            · simp [e]
            · have : ¬ j / 2 = k / 2 := by omega
              simp [e, this]
          | false =>
            have hj' : j % 2 ≠ 0 := fun h => by rw [h] at hj; simp at hj
            simp only [cond_false]
            have : ¬ j = k := fun e => hj' (e ▸ hb')
            simp [this]
      | false =>
        have hb' : k % 2 ≠ 0 := fun h => by rw [h] at hb; simp at hb
        simp only [cond_false]
        cases j with
        | zero => rw [get_zero, get_zero]; simp
        | succ j =>
          rw [get_succ, get_succ]
          cases hj : Nat.beq (j % 2) 0 with
          | true =>
            have hj' : j % 2 = 0 := Nat.eq_of_beq_eq_true hj
            simp only [cond_true]
            have : ¬ j = k := fun e => hb' (e ▸ hj')
            simp [this]
          | false =>
            have hj' : j % 2 ≠ 0 := fun h => by rw [h] at hj; simp at hj
            simp only [cond_false]; rw [ihr]
            by_cases e : j = k
            · simp [e]
            · have : ¬ j / 2 = k / 2 := by omega
              simp [e, this]
theorem del_zero (v : Option α) (l r : Tr α) : (Tr.node v l r).del 0 = .node none l r := rfl
theorem del_succ (v : Option α) (l r : Tr α) (j : Nat) : (Tr.node v l r).del (j + 1) = bif Nat.beq (j % 2) 0 then Tr.node v (l.del (j / 2)) r else Tr.node v l (r.del (j / 2)) := by
  show (Bool.rec (.node v l (r.del (Nat.div j 2))) (.node v (l.del (Nat.div j 2)) r) (Nat.beq (Nat.mod j 2) 0) : Tr α) = _
  show _ = bif Nat.beq (Nat.mod j 2) 0 then Tr.node v (l.del (Nat.div j 2)) r else Tr.node v l (r.del (Nat.div j 2))
  cases Nat.beq (Nat.mod j 2) 0 <;> rfl
theorem get_del (t : Tr α) : ∀ (k j : Nat), (t.del k).get j = if j = k then none else t.get j := by
  induction t with
  | nil => intro k j; show (Tr.nil : Tr α).get j = _; simp [get_nil]
  | node v l r ihl ihr =>
    intro k j
    cases k with
    | zero =>
      rw [del_zero]
      cases j with
      | zero => rfl
      | succ j => rw [get_succ, get_succ]; simp
    | succ k =>
      rw [del_succ]
      cases hb : Nat.beq (k % 2) 0 with
      | true =>
        have hb' : k % 2 = 0 := Nat.eq_of_beq_eq_true hb
        simp only [cond_true]
        cases j with
        | zero => rw [get_zero, get_zero]; simp
        | succ j =>
          rw [get_succ, get_succ]
          cases hj : Nat.beq (j % 2) 0 with
          | true =>
            have hj' : j % 2 = 0 := Nat.eq_of_beq_eq_true hj
            simp only [cond_true]; rw [ihl]
            by_cases e : j = k
            · simp [e]
            · have : ¬ j / 2 = k / 2 := by omega
              simp [e, this]
          | false =>
            have hj' : j % 2 ≠ 0 := fun h => by rw [h] at hj; simp at hj
            simp only [cond_false]
            have : ¬ j = k := fun e => hj' (e ▸ hb')
            simp [this]
      | false =>
        have hb' : k % 2 ≠ 0 := fun h => by rw [h] at hb; simp at hb
        simp only [cond_false]
        cases j with
        | zero => rw [get_zero, get_zero]; simp
        | succ j =>
          rw [get_succ, get_succ]
          cases hj : Nat.beq (j % 2) 0 with
          | true =>
            have hj' : j % 2 = 0 := Nat.eq_of_beq_eq_true hj
            simp only [cond_true]
            have : ¬ j = k := fun e => hb' (e ▸ hj')
            simp [this]
          | false =>
            have hj' : j % 2 ≠ 0 := fun h => by rw [h] at hj; simp at hj
            simp only [cond_false]; rw [ihr]
            by_cases e : j = k
            · simp [e]
            · have : ¬ j / 2 = k / 2 := by omega
              simp [e, this]
end Tr

/-! values -/
structure Loc where
  B : Nat
  δ : Nat
  u : Nat
  sz : Nat
abbrev Mu := Nat → Option Loc
def Mu.Le (μ μ' : Mu) : Prop := ∀ b l, μ b = some l → μ' b = some l
theorem Mu.Le.refl (μ : Mu) : μ.Le μ := fun _ _ h => h
theorem Mu.Le.trans {μ μ₁ μ₂ : Mu} (h : μ.Le μ₁) (h' : μ₁.Le μ₂) : μ.Le μ₂ := fun b l e => h' b l (h b l e)

mutual
inductive VR (μ : Mu) : AV → Value → Prop
  | bad (c : Value) : VR μ .bad c
  | bool (b : Bool) : VR μ (.bool b) (.bool b)
  | int (k : IntKind) (n : Int) : VR μ (.int k n) (.int k n)
  | flt (b : Nat) : VR μ (.flt b) (.float .f64 b)
  | str (s : ByteArray) (l n : Nat) (hl : l = s.data.toList.length) (hn : n = pk s.data.toList) : VR μ (.str l n) (.string s)
  | nilptr : VR μ .nilptr (.pointer none)
  | ptr (b o : Nat) (l : Loc) (h : μ b = some l) : VR μ (.ptr b o) (.pointer (some ⟨l.B, l.δ + o, none⟩))
  | slice (b o len cap : Nat) (l : Loc) (h : μ b = some l) : VR μ (.slice b o len cap) (.slice (some ⟨l.B, l.δ + o, none⟩) len cap)
  | sliceU (b k len : Nat) (l : Loc) (a : Addr) (h : μ b = some l) (hk : k + len ≤ l.u) (ha : l.u = k ∨ a = ⟨l.B, l.δ + k * l.sz, none⟩) : VR μ (.sliceU b k len l.sz) (.slice (some a) len (l.u - k))
  | nilslice : VR μ .nilslice (.slice none 0 0)
  | map (r : Nat) (l : Loc) (h : μ r = some l) : VR μ (.map r) (.map (some l.B))
  | nilmap : VR μ .nilmap (.map none)
  | func (fn : Fn) (first cap : List AV) (first' cap' : Array Value) (h₁ : VRs μ first first'.toList) (h₂ : VRs μ cap cap'.toList) : VR μ (.func fn first cap) (.func fn first' cap')
  | nilfunc : VR μ .nilfunc .nilFunc
  | iface (t : Nat) (v : AV) (c : Value) (h : VR μ v c) : VR μ (.iface t v) (.iface t c)
  | niliface : VR μ .niliface .nilIface
  | agg (l : List AV) (cs : Array Value) (h : VRs μ l cs.toList) (h1 : ∀ c ∈ cs.toList, one c = true) : VR μ (.agg l) (.agg cs)
  | tup (l : List AV) (cs : Array Value) (h : VRs μ l cs.toList) : VR μ (.tup l) (.tuple cs)
inductive VRs (μ : Mu) : List AV → List Value → Prop
  | nil : VRs μ [] []
  | cons (v : AV) (c : Value) (l : List AV) (cs : List Value) (h : VR μ v c) (hs : VRs μ l cs) : VRs μ (v :: l) (c :: cs)
end

mutual
theorem VR.mono {μ μ' : Mu} (hle : μ.Le μ') : ∀ {v : AV} {c : Value}, VR μ v c → VR μ' v c
  | _, _, .bad c => .bad c
  | _, _, .bool b => .bool b
  | _, _, .int k n => .int k n
  | _, _, .flt b => .flt b
  | _, _, .str s l n hl hn => .str s l n hl hn
  | _, _, .nilptr => .nilptr
  | _, _, .ptr b o l h => .ptr b o l (hle b l h)
  | _, _, .slice b o len cap l h => .slice b o len cap l (hle b l h)
  | _, _, .sliceU b k len l a h hk ha => .sliceU b k len l a (hle b l h) hk ha
  | _, _, .nilslice => .nilslice
  | _, _, .map r l h => .map r l (hle r l h)
  | _, _, .nilmap => .nilmap
  | _, _, .func fn a b a' b' h₁ h₂ => .func fn a b a' b' (VRs.mono hle h₁) (VRs.mono hle h₂)
  | _, _, .nilfunc => .nilfunc
  | _, _, .iface t v c h => .iface t v c (VR.mono hle h)
  | _, _, .niliface => .niliface
  | _, _, .agg l cs h h1 => .agg l cs (VRs.mono hle h) h1
  | _, _, .tup l cs h => .tup l cs (VRs.mono hle h)
theorem VRs.mono {μ μ' : Mu} (hle : μ.Le μ') : ∀ {l : List AV} {cs : List Value}, VRs μ l cs → VRs μ' l cs
  | _, _, .nil => .nil
  | _, _, .cons v c l cs h hs => .cons v c l cs (VR.mono hle h) (VRs.mono hle hs)
end

theorem VRs.length {μ : Mu} : ∀ {l : List AV} {cs : List Value}, VRs μ l cs → l.length = cs.length
  | _, _, .nil => rfl
  | _, _, .cons _ _ _ _ _ hs => by simp [hs.length]
theorem VRs.append {μ : Mu} : ∀ {l : List AV} {cs : List Value} {l' : List AV} {cs' : List Value}, VRs μ l cs → VRs μ l' cs' → VRs μ (l ++ l') (cs ++ cs')
  | _, _, _, _, .nil, h' => h'
  | _, _, _, _, .cons v c l cs h hs, h' => .cons v c _ _ h (hs.append h')
theorem VRs.get {μ : Mu} : ∀ {l : List AV} {cs : List Value}, VRs μ l cs → ∀ (i : Nat) (v : AV), l[i]? = some v → ∃ c, cs[i]? = some c ∧ VR μ v c
  | _, _, .nil, _, _, h => by simp at h
  | _, _, .cons v c l cs h hs, 0, _, e => by simp at e; subst e; exact ⟨c, by simp, h⟩
  | _, _, .cons v c l cs h hs, i + 1, x, e => by simp at e ⊢; exact hs.get i x e
theorem VRs.drop {μ : Mu} : ∀ {l : List AV} {cs : List Value}, VRs μ l cs → ∀ n, VRs μ (l.drop n) (cs.drop n)
  | _, _, .nil, n => by simp; exact .nil
  | _, _, .cons v c l cs h hs, 0 => .cons v c l cs h hs
  | _, _, .cons v c l cs h hs, n + 1 => by simp; exact hs.drop n
theorem VRs.take {μ : Mu} : ∀ {l : List AV} {cs : List Value}, VRs μ l cs → ∀ n, VRs μ (l.take n) (cs.take n)
  | _, _, .nil, n => by simp; exact .nil
  | _, _, .cons v c l cs h hs, 0 => by simp; exact .nil
  | _, _, .cons v c l cs h hs, n + 1 => by simp; exact .cons v c _ _ h (hs.take n)

/-! blocks and heaps -/
def BR (μ : Mu) (w : World) (l : Loc) : Blk → Prop
  | .cells ty n d t fz ex => ∃ c fr, w.heap[l.B]? = some (.cells c ty fr) ∧ l.δ + n ≤ c.size ∧ l.δ + l.u * l.sz ≤ c.size ∧ (ex = true → l.δ = 0 ∧ c.size = n) ∧
      (∀ i, i < n → ∃ x, c[l.δ + i]? = some x ∧ VR μ (cellAt d t i) x) ∧ (∀ i, i < l.δ + n → ∀ x, c[i]? = some x → one x = true) ∧
      (fz = 0 → fr = (0, 0)) ∧ (∀ j, l.δ + fz ≤ j + 1 → j < c.size → ¬ (fr.1 ≤ j ∧ j < fr.2))
  | .mp es bs cl _ => ∃ ms, w.heap[l.B]? = some (.map ms cl) ∧ VRs μ (es.map (·.1)) (ms.toList.map (·.key)) ∧ VRs μ (es.map (·.2)) (ms.toList.map (·.val)) ∧ ms.toList.map (·.born) = bs
  | .it m since seen last => l.δ = 0 ∧ ∃ m', w.heap[l.B]? = some (.mapIter m' since seen.toArray last) ∧ (m = none → m' = none) ∧ ∀ r, m = some r → ∃ lr, μ r = some lr ∧ m' = some lr.B
/- the package variables: abstract numbers below 4096 are their own blocks -/
def GM (μ : Mu) : Prop := ∀ g, g < 4096 → ∃ l, μ g = some l ∧ l.B = g ∧ l.δ = 0
theorem GM.mono {μ μ' : Mu} (hle : μ.Le μ') (h : GM μ) : GM μ' := fun g hg => let ⟨l, h1, h2⟩ := h g hg; ⟨l, hle _ _ h1, h2⟩
structure HR (h : H) (μ : Mu) (w : World) : Prop where
  blk : ∀ b blk, h.m.get b = some blk → ∃ l, μ b = some l ∧ l.B < w.heap.size ∧ BR μ w l blk
  inj : ∀ b b' blk blk' l l', h.m.get b = some blk → h.m.get b' = some blk' → μ b = some l → μ b' = some l' → l.B = l'.B → b = b'
  fresh : ∀ b, h.next ≤ b → μ b = none
  gm : GM μ
/- a block that is only read: its mark lies behind its last cell -/
def RO : Blk → Bool
  | .cells _ n _ _ fz _ => Nat.ble (n + 2) fz
  | .mp _ _ _ ro => ro
  | .it .. => false
theorem RO_no {ty n : Nat} {d : List AV} {t : Tr AV} {fz : Nat} {ex : Bool} (h : fz ≤ n + 1) : RO (.cells ty n d t fz ex) = false := by
  cases hb : RO (.cells ty n d t fz ex) with
  | false => rfl
  | true => have : n + 2 ≤ fz := Nat.le_of_ble_eq_true hb; omega
def Own (h : H) (μ : Mu) (B : Nat) : Prop := ∃ b blk l, h.m.get b = some blk ∧ μ b = some l ∧ l.B = B
def Foot (h : H) (μ : Mu) (B : Nat) : Prop := ∃ b blk l, h.m.get b = some blk ∧ RO blk = false ∧ μ b = some l ∧ l.B = B
theorem Foot.own {h : H} {μ : Mu} {B : Nat} (hf : Foot h μ B) : Own h μ B := let ⟨b, blk, l, h1, _, h2, h3⟩ := hf; ⟨b, blk, l, h1, h2, h3⟩
structure Ext (h : H) (μ : Mu) (w : World) (h' : H) (μ' : Mu) (w' : World) : Prop where
  le : μ.Le μ'
  hr : HR h' μ' w'
  sz : w.heap.size ≤ w'.heap.size
  keep : ∀ B, B < w.heap.size → ¬ Foot h μ B → w'.heap[B]? = w.heap[B]?
  foot : ∀ B, Foot h' μ' B → Foot h μ B ∨ w.heap.size ≤ B
  own : ∀ B, Own h' μ' B → Own h μ B ∨ w.heap.size ≤ B
  nx : h.next ≤ h'.next
  dom : ∀ b, b < h.next → μ' b = μ b
  io : w'.os = w.os ∧ w'.output = w.output

theorem Ext.refl {h : H} {μ : Mu} {w : World} (hr : HR h μ w) : Ext h μ w h μ w := ⟨.refl _, hr, Nat.le_refl _, fun _ _ _ => rfl, fun _ h => .inl h, fun _ h => .inl h, Nat.le_refl _, fun _ _ => rfl, rfl, rfl⟩
theorem Ext.trans {h h₁ h₂ : H} {μ μ₁ μ₂ : Mu} {w w₁ w₂ : World} (a : Ext h μ w h₁ μ₁ w₁) (b : Ext h₁ μ₁ w₁ h₂ μ₂ w₂) : Ext h μ w h₂ μ₂ w₂ where
  le := a.le.trans b.le
  hr := b.hr
  sz := Nat.le_trans a.sz b.sz
  keep B hB hF := by
    rw [b.keep B (Nat.lt_of_lt_of_le hB a.sz) (fun hF' => by rcases a.foot B hF' with h | h; exact hF h; omega), a.keep B hB hF]
  foot B hF := by
    rcases b.foot B hF with h | h
    · exact a.foot B h
    · exact .inr (Nat.le_trans a.sz h)
  own B hF := by
    rcases b.own B hF with h | h
    · exact a.own B h
    · exact .inr (Nat.le_trans a.sz h)
  nx := Nat.le_trans a.nx b.nx
  dom x hx := (b.dom x (Nat.lt_of_lt_of_le hx a.nx)).trans (a.dom x hx)
  io := ⟨b.io.1.trans a.io.1, b.io.2.trans a.io.2⟩

/- frames -/
def FV (K : Nat) (μ : Mu) (f : Fr) (a : Act) : Prop := ∀ t, VR μ (getT K f t) (a.tmps.getD t undef)
def DR (μ : Mu) (p : AV × List AV) (d : Deferred) : Prop := ∃ fn first cap cap' args, p.1 = .func fn first cap ∧ d.target = .fn fn cap' ∧ d.args = args ∧ VRs μ cap cap'.toList ∧ VRs μ (first ++ p.2) args.toList
inductive DRs (μ : Mu) : List (AV × List AV) → List Deferred → Prop
  | nil : DRs μ [] []
  | cons {p d ps ds} (h : DR μ p d) (hs : DRs μ ps ds) : DRs μ (p :: ps) (d :: ds)
theorem DRs.mono {μ μ' : Mu} (hle : μ.Le μ') : ∀ {ps ds}, DRs μ ps ds → DRs μ' ps ds
  | _, _, .nil => .nil
  | _, _, .cons ⟨fn, first, cap, cap', args, h1, h2, h3, h4, h5⟩ hs => .cons ⟨fn, first, cap, cap', args, h1, h2, h3, h4.mono hle, h5.mono hle⟩ (hs.mono hle)
structure FR (K nt : Nat) (μ : Mu) (f : Fr) (a : Act) : Prop where
  v : FV K μ f a
  d : DRs μ f.d a.defers
  n : nt ≤ a.tmps.size
theorem FR.mono {K nt : Nat} {μ μ' : Mu} {f : Fr} {a : Act} (hle : μ.Le μ') (h : FR K nt μ f a) : FR K nt μ' f a := ⟨fun t => (h.v t).mono hle, h.d.mono hle, h.n⟩

end Go.Ev
