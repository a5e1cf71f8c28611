/- The abstract evaluator: trees of operations. -/
import Derived.Test.YtkmlcncemcaidaaGreatDoorEvTd
import Derived.Orders
namespace Go.Ev
variable {P : Program} {w : World}

/-! frames -/
theorem getT_bit {K t : Nat} {f : Fr} (h : bit K t = true) : getT K f t = optBad (f.t.get t) := by unfold getT; rw [h]
theorem getT_no {K t : Nat} {f : Fr} (h : bit K t = false) : getT K f t = fs t f.st := by unfold getT; rw [h]
theorem FV.evX {K : Nat} {μ : Mu} {f : Fr} {a : Act} (hv : FV K μ f a) (hg : GM μ) (x : Operand) : VR μ (Ev.evX x K f) (a.eval x) := by
  cases x with
  | tmp t => exact hv t
  | const v => exact ofV_VR μ v
  | global g =>
    show VR μ (xG g K f) _
    unfold xG
    cases hb : Nat.blt g 4096 with
    | false => exact .bad _
    | true =>
      obtain ⟨l, h1, h2, h3⟩ := hg g (Nat.le_of_ble_eq_true hb)
      have := VR.ptr (μ := μ) g 0 l h1
      rw [h2, h3] at this
      exact this
  | func n => exact .func _ [] [] #[] #[] .nil .nil
theorem FV.mono {K : Nat} {μ μ' : Mu} {f : Fr} {a : Act} (hle : μ.Le μ') (h : FV K μ f a) : FV K μ' f a := fun t => (h t).mono hle
/- a write to a place the frame does not know -/
theorem put_tmps (a : Act) (d : Tmp) (v : Value) : (a.put (some d) v).tmps = a.tmps.setIfInBounds d v := rfl
theorem getD_put (a : Act) (d t : Tmp) (v : Value) (hd : d < a.tmps.size) : (a.put (some d) v).tmps.getD t undef = if t = d then v else a.tmps.getD t undef := by
  rw [put_tmps]
  simp only [Array.getD_eq_getD_getElem?, Array.getElem?_setIfInBounds]
  by_cases h : t = d
  · subst h; simp [hd]
  · have : ¬ d = t := fun e => h e.symm
    simp [h, this]
theorem FR.write {K nt : Nat} {μ : Mu} {f : Fr} {a : Act} (h : FR K nt μ f a) {d : Tmp} (v : Value) (hd : d < nt) (hb : getT K f d = .bad) : FR K nt μ f (a.put (some d) v) := by
  refine ⟨fun t => ?_, h.d, by rw [put_tmps, Array.size_setIfInBounds]; exact h.n⟩
  rw [getD_put _ _ _ _ (Nat.lt_of_lt_of_le hd h.n)]
  split
  · next e => subst e; rw [hb]; exact .bad _
  · exact h.v t

/-! lists of operations -/
def wpL (P : Program) (ops : Array Oper) (Q : Exit → Act → World → Prop) (K : Act → World → Prop) : List Oper → Act → World → Prop
  | [], a, w => K a w
  | o :: l, a, w => if Region.wanted o (yielded ops a.tmps) then o.wp P a w (wpL P ops Q K l) Q else wpL P ops Q K l (a.put o.dst undef) w
theorem wpL_append {ops : Array Oper} {Q : Exit → Act → World → Prop} {K : Act → World → Prop} (m : List Oper) : ∀ (l : List Oper), wpL P ops Q (wpL P ops Q K m) l = wpL P ops Q K (l ++ m)
  | [] => rfl
  | o :: l => by
    funext a w
    simp only [wpL, List.cons_append, wpL_append m l]
theorem wpOps_of_wpL {ops : Array Oper} {Q : Exit → Act → World → Prop} : ∀ (l : List Nat) (os : List Oper) (a : Act) (w : World), l.map (ops[·]?) = os.map some → wpL P ops Q (Q .normal) os a w → wpOps P ops Q l a w
  | [], [], a, w, _, h => h
  | i :: l, o :: os, a, w, he, h => by
    simp only [List.map_cons, List.cons.injEq] at he
    simp only [wpOps, he.1]
    simp only [wpL] at h
    split
    · next hw =>
      rw [if_pos hw] at h
      exact .inl (Oper.wp_mono (fun a w h => wpOps_of_wpL l os a w he.2 h) h)
    · next hw =>
      rw [if_neg hw] at h
      exact wpOps_of_wpL l os _ w he.2 h
  | [], _ :: _, _, _, he, _ => by simp at he
  | _ :: _, [], _, _, he, _ => by simp at he

/-! trees -/
def flat : TE → List Oper
  | .lf _ => []
  | .n0 o => [o]
  | .n1 o a => flat a ++ [o]
  | .n2 o a b => flat a ++ flat b ++ [o]
  | .n3 o a b c => flat a ++ flat b ++ flat c ++ [o]
  | .nl o l => flat l ++ [o]
  | .nil => []
  | .cons a l => flat a ++ flat l
  | .gd _ _ t => flat t
def dsts (l : List Oper) : List Tmp := l.filterMap (·.dst)

section
variable (K : Nat) (gt : Nat → Option Tmp)
mutual
/- a node: its operation; its operands are the trees -/
inductive WN : Gd → TE → Oper → Prop
  | n0 {g o} (h : arity o.op = .a0) (hg : o.guard = g) : WN g (.n0 o) o
  | n1 {g o a x} (h : arity o.op = .a1 x) (hg : o.guard = g) (ha : WT g a x) : WN g (.n1 o a) o
  | n2 {g o a b x y} (h : arity o.op = .a2 x y) (hg : o.guard = g) (ha : WT g a x) (hb : WT g b y) : WN g (.n2 o a b) o
  | n3 {g o a b c x y z} (h : arity o.op = .a3 x y z) (hg : o.guard = g) (ha : WT g a x) (hb : WT g b y) (hc : WT g c z) : WN g (.n3 o a b c) o
  | nl {g o l xs} (h : o.op.operands.toList = xs) (hg : o.guard = g) (hl : WL g l xs) : WN g (.nl o l) o
/- an operand: a leaf, or a node whose result stands in a place of its own -/
inductive WT : Gd → TE → Operand → Prop
  | lf {g x} : WT g (.lf x) x
  | node {g t o d} (h : WN g t o) (hd : o.dst = some d) (hb : bit K d = false) : WT g t (.tmp d)
  | gd {j w d t o d'} (hj : gt j = some d) (h : WN (some (j, w)) t o) (hd : o.dst = some d') (hb : bit K d' = false) : WT none (.gd d w t) (.tmp d')
inductive WL : Gd → TE → List Operand → Prop
  | nil {g} : WL g .nil []
  | cons {g a l x xs} (ha : WT g a x) (hl : WL g l xs) : WL g (.cons a l) (x :: xs)
end
end

end Go.Ev
