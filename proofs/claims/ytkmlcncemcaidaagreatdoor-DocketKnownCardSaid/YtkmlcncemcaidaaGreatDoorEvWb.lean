/- The abstract evaluator: draw regions, the trace of the plan's walk; the heap and the values behind some of the operations. -/
import Derived.Test.YtkmlcncemcaidaaGreatDoorEvWa
namespace Go.Ev
variable {P : Program} {cx : Cx} {K nt : Nat} {ops : Array Oper} {f0 : Fr} {h0 : H} {na0 : Nat}

def isE (c : DC) : Bool := match c with | .e => true | _ => false
def isA (c : DC) : Bool := match c with | .a => true | _ => false
def stg (h0 : H) (S : Nat → Bool) : List Rc → H
  | [] => h0
  | rc :: T => if isE rc.x.c = true ∧ S rc.x.i = true then rc.h else stg h0 S T
noncomputable def vs (K : Nat) (f0 : Fr) (S : Nat → Bool) (t : Nat) : List Rc → AV
  | [] => getT K f0 t
  | rc :: T => if S rc.x.i = true ∧ rc.x.o.dst = some t then rc.v else vs K f0 S t T
variable {S S' : Nat → Bool}
theorem vs_skip {t : Nat} (T1 : List Rc) : ∀ (T2 : List Rc), (∀ y ∈ T2, S y.x.i = true → y.x.o.dst = some t → False) → vs K f0 S t (T2 ++ T1) = vs K f0 S t T1
  | [], _ => rfl
  | y :: T2, h => by
    rw [List.cons_append, vs, if_neg (fun e => h y (by simp) e.1 e.2)]
    exact vs_skip T1 T2 fun z hz => h z (by simp [hz])
theorem vs_congr {t : Nat} : ∀ (T : List Rc), (∀ y ∈ T, y.x.o.dst = some t → S y.x.i = S' y.x.i) → vs K f0 S t T = vs K f0 S' t T
  | [], _ => rfl
  | y :: T, h => by
    rw [vs, vs, vs_congr T fun z hz => h z (by simp [hz])]
    by_cases hd : y.x.o.dst = some t
    · rw [h y (by simp) hd]
    · simp [hd]
theorem stg_skip (T1 : List Rc) : ∀ (T2 : List Rc), (∀ y ∈ T2, isE y.x.c = true → S y.x.i = true → False) → stg h0 S (T2 ++ T1) = stg h0 S T1
  | [], _ => rfl
  | y :: T2, h => by
    rw [List.cons_append, stg, if_neg (fun e => h y (by simp) e.1 e.2)]
    exact stg_skip T1 T2 fun z hz => h z (by simp [hz])
theorem stg_congr : ∀ (T : List Rc), (∀ y ∈ T, isE y.x.c = true → S y.x.i = S' y.x.i) → stg h0 S T = stg h0 S' T
  | [], _ => rfl
  | y :: T, h => by
    rw [stg, stg, stg_congr T fun z hz => h z (by simp [hz])]
    by_cases hd : isE y.x.c = true
    · rw [h y (by simp) hd]
    · simp [hd]
theorem stg_last : ∀ (T : List Rc), (∀ y ∈ T, isE y.x.c = true → S y.x.i = true → False) ∨ ∃ U2 y U1, T = U2 ++ y :: U1 ∧ isE y.x.c = true ∧ S y.x.i = true ∧ ∀ z ∈ U2, isE z.x.c = true → S z.x.i = true → False
  | [] => .inl (by simp)
  | y :: T => by
    by_cases h : isE y.x.c = true ∧ S y.x.i = true
    · exact .inr ⟨[], y, T, rfl, h.1, h.2, by simp⟩
    · rcases stg_last T with h1 | ⟨U2, z, U1, h1, h2, h3, h4⟩
      · refine .inl fun z hz hE hS => ?_
        rcases List.mem_cons.1 hz with e | e
        · subst e; exact h ⟨hE, hS⟩
        · exact h1 z e hE hS
      · refine .inr ⟨y :: U2, z, U1, by rw [h1]; rfl, h2, h3, fun v hv hE hS => ?_⟩
        rcases List.mem_cons.1 hv with e | e
        · subst e; exact h ⟨hE, hS⟩
        · exact h4 v e hE hS

section
variable {T : List Rc} {act : Act'} {na : Nat} {fr : Fr} {h : H}
theorem Tk.frame (t : Tk P cx K ops f0 h0 na0 T act na fr h) : ∀ x, getT K fr x = vs K f0 (fun _ => true) x T := by
  induction t with
  | nil => intro x; rfl
  | @step T act na fr h rc act' na' h' t ok s ih =>
    intro x
    rw [vs]
    cases hd : rc.x.o.dst with
    | none => simp [ih x, Ev.put]
    | some d =>
      rw [getT_put]
      by_cases hx : x = d
      · simp [hx]
      · have : ¬ some d = some x := fun e => hx (Option.some.inj e).symm
        simp [hx, this, ih x]
theorem Tk.at (t : Tk P cx K ops f0 h0 na0 T act na fr h) : ∀ {T2 : List Rc} {rc : Rc} {T1 : List Rc}, T = T2 ++ rc :: T1 →
    ∃ act1 na1 fr1 h1 act' na' h', Tk P cx K ops f0 h0 na0 T1 act1 na1 fr1 h1 ∧ EnOk P ops rc.x (T1.map (·.x)) ∧ StepD P cx K (gtOf ops) act1 na1 fr1 h1 rc act' na' h' := by
  induction t with
  | nil => intro T2 rc T1 e; simp at e
  | @step T act na fr h rc' act' na' h' t ok s ih =>
    intro T2 rc T1 e
    cases T2 with
    | nil =>
      simp only [List.nil_append, List.cons.injEq] at e
      obtain ⟨rfl, rfl⟩ := e
      exact ⟨_, _, _, _, _, _, _, t, ok, s⟩
    | cons z T2 =>
      simp only [List.cons_append, List.cons.injEq] at e
      exact ih e.2
theorem Tk.later (t : Tk P cx K ops f0 h0 na0 T act na fr h) {T2 : List Rc} {rc : Rc} {T1 : List Rc} (e : T = T2 ++ rc :: T1) {y : Rc} (hy : y ∈ T2) : PairOk y.x rc.x := by
  obtain ⟨U2, U1, rfl⟩ := List.append_of_mem hy
  obtain ⟨_, _, _, _, _, _, _, _, ok, _⟩ := t.at (T2 := U2) (rc := y) (T1 := U1 ++ rc :: T1) (by rw [e]; simp)
  exact ok.pair rc.x (by simp)
theorem Tk.early (t : Tk P cx K ops f0 h0 na0 T act na fr h) {T2 : List Rc} {rc : Rc} {T1 : List Rc} (e : T = T2 ++ rc :: T1) {y : Rc} (hy : y ∈ T1) : PairOk rc.x y.x := by
  obtain ⟨_, _, _, _, _, _, _, _, ok, _⟩ := t.at e
  exact ok.pair y.x (List.mem_map.2 ⟨y, hy, rfl⟩)
theorem Tk.uniq (t : Tk P cx K ops f0 h0 na0 T act na fr h) {y z : Rc} (hy : y ∈ T) (hz : z ∈ T) (hi : y.x.i = z.x.i) : y = z := by
  obtain ⟨T2, T1, e⟩ := List.append_of_mem hz
  rw [e] at hy
  rcases List.mem_append.1 hy with h1 | h1
  · exact absurd hi.symm (t.later e h1).ne
  · rcases List.mem_cons.1 h1 with h2 | h2
    · exact h2
    · exact absurd hi (t.early e h2).ne
theorem Tk.pl (t : Tk P cx K ops f0 h0 na0 T act na fr h) : Pl P ops (T.map (·.x)) := by
  induction t with
  | nil => exact .nil
  | step t ok s ih => exact .cons ok ih
theorem Tk.before (t : Tk P cx K ops f0 h0 na0 T act na fr h) {T2 : List Rc} {rc : Rc} {T1 : List Rc} (e : T = T2 ++ rc :: T1) {j : Nat} (hj : bit rc.x.b j = true) : ∃ y ∈ T1, y.x.i = j := by
  obtain ⟨y, h1, h2⟩ := t.pl.before (x := rc.x) (done := T1.map (·.x)) (a := T2.map (·.x)) (by rw [e]; simp) j hj
  obtain ⟨z, h3, h4⟩ := List.mem_map.1 h1
  exact ⟨z, h3, by rw [h4]; exact h2⟩
theorem Tk.act_mem (t : Tk P cx K ops f0 h0 na0 T act na fr h) : ∀ rc ∈ T, rc.x.c = .r → rc.wt = true → (rc.x, rc.args, rc.v) ∈ act := by
  induction t with
  | nil => intro rc h; cases h
  | @step T act na fr h rc' act' na' h' t ok s ih =>
    intro rc hrc hc hw
    cases s with
    | r hc' hg he hn =>
      rcases List.mem_cons.1 hrc with e | e
      · subst e; simp
      · exact List.mem_cons_of_mem _ (ih rc e hc hw)
    | rn hc' hg =>
      rcases List.mem_cons.1 hrc with e | e
      · subst e; cases hw
      · exact ih rc e hc hw
    | e hc' hg he hn =>
      rcases List.mem_cons.1 hrc with e | e
      · subst e; rw [hc'] at hc; cases hc
      · exact ih rc e hc hw
    | en hc' hg hn =>
      rcases List.mem_cons.1 hrc with e | e
      · subst e; cases hw
      · exact ih rc e hc hw
    | a hc' hg hz =>
      rcases List.mem_cons.1 hrc with e | e
      · subst e; rw [hc'] at hc; cases hc
      · exact ih rc e hc hw
theorem cntA_cons (x : En) (l : List En) : cntA (x :: l) = cntA l + (if isA x.c = true then 1 else 0) := by
  rw [cntA]
  cases hc : x.c <;> simp [isA]
theorem Tk.nas (t : Tk P cx K ops f0 h0 na0 T act na fr h) : na = na0 + cntA (T.map (·.x)) ∧ (∀ rc ∈ T, isA rc.x.c = true → na0 ≤ rc.na ∧ rc.na < na) ∧ ∀ y ∈ T, ∀ z ∈ T, isA y.x.c = true → isA z.x.c = true → y.na = z.na → y = z := by
  induction t with
  | nil => exact ⟨rfl, by simp, by simp⟩
  | @step T act na fr h rc' act' na' h' t ok s ih =>
    obtain ⟨i1, i2, i3⟩ := ih
    have keep : isA rc'.x.c = false → na' = na → (na' = na0 + cntA ((rc' :: T).map (·.x)) ∧ (∀ rc ∈ rc' :: T, isA rc.x.c = true → na0 ≤ rc.na ∧ rc.na < na') ∧ ∀ y ∈ rc' :: T, ∀ z ∈ rc' :: T, isA y.x.c = true → isA z.x.c = true → y.na = z.na → y = z) := by
      intro hA hn
      subst hn
      refine ⟨?_, fun rc hrc ha => ?_, fun y hy z hz ha hb e => ?_⟩
      · rw [List.map_cons, cntA_cons, hA]
        simpa using i1
      · rcases List.mem_cons.1 hrc with h1 | h1
        · subst h1; rw [hA] at ha; cases ha
        · exact i2 rc h1 ha
      · rcases List.mem_cons.1 hy with h1 | h1
        · subst h1; rw [hA] at ha; cases ha
        · rcases List.mem_cons.1 hz with h2 | h2
          · subst h2; rw [hA] at hb; cases hb
          · exact i3 y h1 z h2 ha hb e
    cases s with
    | r hc hg he hn => exact keep (by simp [isA, hc]) rfl
    | rn hc hg => exact keep (by simp [isA, hc]) rfl
    | e hc hg he hn => exact keep (by simp [isA, hc]) rfl
    | en hc hg hn => exact keep (by simp [isA, hc]) rfl
    | a hc hg hz =>
      refine ⟨?_, fun rc hrc ha => ?_, fun y hy z hz' ha hb e => ?_⟩
      · rw [List.map_cons, cntA_cons]
        simp only [isA, hc]
        simp
        omega
      · rcases List.mem_cons.1 hrc with h1 | h1
        · subst h1; exact ⟨by simp only; omega, by simp⟩
        · have := i2 rc h1 ha; exact ⟨this.1, by simp only [Nat.succ_eq_add_one]; omega⟩
      · rcases List.mem_cons.1 hy with h1 | h1
        · rcases List.mem_cons.1 hz' with h2 | h2
          · rw [h1, h2]
          · have := i2 z h2 hb; subst h1; simp only at e; omega
        · rcases List.mem_cons.1 hz' with h2 | h2
          · have := i2 y h1 ha; subst h2; simp only at e; omega
          · exact i3 y h1 z h2 ha hb e
theorem Tk.stage (t : Tk P cx K ops f0 h0 na0 T act na fr h) (hp : pendL (T.map (·.x)) = false) : h = stg h0 (fun _ => true) T := by
  induction t with
  | nil => rfl
  | @step T act na fr h rc' act' na' h' t ok s ih =>
    cases s with
    | r hc hg he hn =>
      have hp' : pendL (T.map (·.x)) = false := by simpa [pendL, pendN, hc] using hp
      rw [ih hp', stg]
      simp [isE, hc]
    | rn hc hg =>
      have hp' : pendL (T.map (·.x)) = false := by simpa [pendL, pendN, hc] using hp
      rw [ih hp', stg]
      simp [isE, hc]
    | e hc hg he hn => rw [stg]; simp [isE, hc]
    | en hc hg hn => rw [stg]; simp [isE, hc]
    | a hc hg hz => simp [pendL, pendN, hc] at hp
end

/-! new places that were kept back come into the heap -/
variable {hh : H} {μ0 μ : Mu} {w0 w : World}
theorem Ext.show1 {g : H} (hx : Ext hh μ0 w0 g μ w) {b : Nat} {l : Loc} {blk : Blk} (hb : μ b = some l) (hlt : l.B < w.heap.size) (hge : w0.heap.size ≤ l.B) (hbr : BR μ w l blk) (hnf : ¬ Own g μ l.B) :
    Ext hh μ0 w0 ⟨g.next, g.m.set b blk⟩ μ w ∧ ∀ B, Own ⟨g.next, g.m.set b blk⟩ μ B → Own g μ B ∨ B = l.B := by
  have ft : ∀ B, Own ⟨g.next, g.m.set b blk⟩ μ B → Own g μ B ∨ B = l.B := fun B ⟨x, bx, lx, h1, h2, h3⟩ => by
    simp only [Tr.get_set] at h1
    split at h1
    · next e => subst e; rw [hb] at h2; cases h2; exact .inr h3.symm
    · exact .inl ⟨x, bx, lx, h1, h2, h3⟩
  refine ⟨⟨hx.le, ⟨fun x bx h1 => ?_, fun x y bx by_ lx ly h1 h2 e1 e2 e3 => ?_, hx.hr.fresh, hx.hr.gm⟩, hx.sz, hx.keep, fun B hB => ?_, fun B hB => ?_, hx.nx, hx.dom, hx.io⟩, ft⟩
  · simp only [Tr.get_set] at h1
    split at h1
    · next e => subst e; cases h1; exact ⟨l, hb, hlt, hbr⟩
    · exact hx.hr.blk x bx h1
  · simp only [Tr.get_set] at h1 h2
    split at h1
    · next e =>
      subst e
      rw [hb] at e1; cases e1
      split at h2
      · next e' => exact e'.symm
      · exact absurd ⟨y, by_, ly, h2, e2, e3.symm⟩ hnf
    · split at h2
      · next e' =>
        subst e'
        rw [hb] at e2; cases e2
        exact absurd ⟨x, bx, lx, h1, e1, e3⟩ hnf
      · exact hx.hr.inj x y bx by_ lx ly h1 h2 e1 e2 e3
  · obtain ⟨x, bx, lx, h1, h0, h2, h3⟩ := hB
    simp only [Tr.get_set] at h1
    split at h1
    · next e => subst e; rw [hb] at h2; cases h2; exact .inr (by omega)
    · exact hx.foot B ⟨x, bx, lx, h1, h0, h2, h3⟩
  · rcases ft B hB with h1 | h1
    · exact hx.own B h1
    · exact .inr (by omega)
def TopA (T : List Rc) (A : Rc) : Prop := ∃ U2 U1, T = U2 ++ A :: U1 ∧ isA A.x.c = true ∧ ∀ y ∈ U2, isE y.x.c = false
theorem TopA.cons {T : List Rc} {A rc : Rc} (h : TopA T A) (hc : isE rc.x.c = false) : TopA (rc :: T) A := by
  obtain ⟨U2, U1, h1, h2, h3⟩ := h
  refine ⟨rc :: U2, U1, by rw [h1]; rfl, h2, fun y hy => ?_⟩
  rcases List.mem_cons.1 hy with e | e
  · subst e; exact hc
  · exact h3 y e
theorem TopA.mem {T : List Rc} {A : Rc} (h : TopA T A) : A ∈ T := by
  obtain ⟨U2, U1, h1, _⟩ := h
  rw [h1]; simp
/- a place kept back -/
def PF (g : H) (μ : Mu) (w w0 : World) (A : Rc) : Prop := ∃ l, μ A.na = some l ∧ l.B < w.heap.size ∧ w0.heap.size ≤ l.B ∧ BR μ w l A.blk ∧ ¬ Own g μ l.B
theorem Tk.reveal {T : List Rc} {act : Act'} {na : Nat} {fr : Fr} {h : H} (t : Tk P cx K ops f0 h0 na0 T act na fr h) : (∀ y ∈ T, isE y.x.c = true → S y.x.i = true) → Ext hh μ0 w0 (stg h0 S T) μ w →
    (∀ A, TopA T A → PF (stg h0 S T) μ w w0 A) → (∀ A A', TopA T A → TopA T A' → A.na ≠ A'.na → ∀ l l', μ A.na = some l → μ A'.na = some l' → l.B ≠ l'.B) →
    Ext hh μ0 w0 h μ w ∧ h.next = (stg h0 S T).next ∧ ∀ B, Own h μ B → Own (stg h0 S T) μ B ∨ ∃ A l, TopA T A ∧ μ A.na = some l ∧ l.B = B := by
  induction t with
  | nil => intro _ hx _ _; exact ⟨hx, rfl, fun B hB => .inl hB⟩
  | @step T act na fr h rc act' na' h' t ok s ih =>
    intro hS hx hP hD
    have sub : isE rc.x.c = false → h' = h → Ext hh μ0 w0 h' μ w ∧ h'.next = (stg h0 S (rc :: T)).next ∧ ∀ B, Own h' μ B → Own (stg h0 S (rc :: T)) μ B ∨ ∃ A l, TopA (rc :: T) A ∧ μ A.na = some l ∧ l.B = B := by
      intro hc he
      subst he
      have hs : stg h0 S (rc :: T) = stg h0 S T := by rw [stg]; simp [hc]
      rw [hs] at hx hP ⊢
      obtain ⟨i1, i2, i3⟩ := ih (fun y hy => hS y (by simp [hy])) hx (fun A hA => hP A (hA.cons hc)) (fun A A' hA hA' => hD A A' (hA.cons hc) (hA'.cons hc))
      refine ⟨i1, i2, fun B hB => (i3 B hB).imp id fun ⟨A, l, q1, q2⟩ => ⟨A, l, q1.cons hc, q2⟩⟩
    cases s with
    | r hc hg he hn => exact sub (by simp [isE, hc]) rfl
    | rn hc hg => exact sub (by simp [isE, hc]) rfl
    | @e x v h2 hc hg he hn =>
      have hE : isE x.c = true := by simp [isE, hc]
      have hs : stg h0 S (⟨x, true, evXs K fr (opnds x.o), v, h', 0, .mp [] [] 0 false⟩ :: T) = h' := by rw [stg, if_pos ⟨hE, hS _ (by simp) hE⟩]
      rw [hs] at hx ⊢
      exact ⟨hx, rfl, fun B hB => .inl hB⟩
    | @en x hc hg hn =>
      have hE : isE x.c = true := by simp [isE, hc]
      have hs : stg h0 S (⟨x, false, [], .tup [], h, 0, .mp [] [] 0 false⟩ :: T) = h := by rw [stg, if_pos ⟨hE, hS _ (by simp) hE⟩]
      rw [hs] at hx ⊢
      exact ⟨hx, rfl, fun B hB => .inl hB⟩
    | @a x nv blk hc hg hz =>
      have hE : isE x.c = false := by simp [isE, hc]
      have hA : isA x.c = true := by simp [isA, hc]
      generalize hrc : (⟨x, true, [], nv.at na, h, na, blk⟩ : Rc) = rc at *
      have hrx : rc.x = x := by rw [← hrc]
      have hrn : rc.na = na := by rw [← hrc]
      have hrb : rc.blk = blk := by rw [← hrc]
      have hE' : isE rc.x.c = false := by rw [hrx]; exact hE
      have hs : stg h0 S (rc :: T) = stg h0 S T := by rw [stg]; simp [hE']
      rw [hs] at hx hP ⊢
      obtain ⟨i1, i2, i3⟩ := ih (fun y hy => hS y (by simp [hy])) hx (fun A hA => hP A (hA.cons hE')) (fun A A' hA hA' => hD A A' (hA.cons hE') (hA'.cons hE'))
      have top : TopA (rc :: T) rc := ⟨[], T, rfl, by rw [hrx]; exact hA, by simp⟩
      obtain ⟨l, p1, p2, p3, p4, p5⟩ := hP rc top
      rw [hrb] at p4
      have hnf : ¬ Own h μ l.B := fun hF => by
        rcases i3 _ hF with h1 | ⟨A, l', h1, h2, h3⟩
        · exact p5 h1
        · have hlt := (t.nas.2.1 A h1.mem (by obtain ⟨_, _, _, q, _⟩ := h1; exact q)).2
          exact hD A rc (h1.cons hE') top (by rw [hrn]; omega) l' l h2 p1 h3
      rw [hrn] at p1
      obtain ⟨j1, j2⟩ := i1.show1 p1 p2 p3 p4 hnf
      refine ⟨j1, i2, fun B hB => ?_⟩
      rcases j2 B hB with h1 | h1
      · exact (i3 B h1).imp id fun ⟨A, l, q1, q2⟩ => ⟨A, l, q1.cons hE', q2⟩
      · exact .inr ⟨rc, l, top, by rw [hrn]; exact p1, h1.symm⟩
/- what was kept back at the top is in no change that has come -/
theorem Tk.top_pend {T : List Rc} {act : Act'} {na : Nat} {fr : Fr} {h : H} (t : Tk P cx K ops f0 h0 na0 T act na fr h) {T2 T1 : List Rc} (e : T = T2 ++ T1) {A : Rc} (hA : TopA T1 A) {y : Rc} (hy : y ∈ T1) (hE : isE y.x.c = true) : bit y.x.b A.x.i = false := by
  obtain ⟨U2, U1, h1, h2, h3⟩ := hA
  cases hb : bit y.x.b A.x.i with
  | false => rfl
  | true =>
    exfalso
    rw [h1] at hy
    rcases List.mem_append.1 hy with h4 | h4
    · rw [h3 y h4] at hE; cases hE
    · rcases List.mem_cons.1 h4 with h5 | h5
      · subst h5
        cases hc : y.x.c <;> rw [hc] at h2 hE <;> simp [isA, isE] at h2 hE
      · obtain ⟨V2, V1, h6⟩ := List.append_of_mem h5
        obtain ⟨z, hz, hzi⟩ := t.before (T2 := T2 ++ U2 ++ A :: V2) (rc := y) (T1 := V1) (by rw [e, h1, h6]; simp) hb
        have := (t.early (T2 := T2 ++ U2) (rc := A) (T1 := U1) (by rw [e, h1]; simp) (y := z) (by rw [h6]; simp [hz])).ne
        exact this hzi

end Go.Ev
