/- The abstract evaluator: a tree's run is its operations' run. -/
import Derived.Test.YtkmlcncemcaidaaGreatDoorEvTe
namespace Go.Ev
variable {P : Program} {ops : Array Oper} {Q : Exit → Act → World → Prop} {cx : Cx} {K nt : Nat} {f : Fr} {r : R} {gt : Nat → Option Tmp}

def PanicK (Q : Exit → Act → World → Prop) (cx : Cx) (K nt : Nat) (f : Fr) (r : R) (h : H) (μ : Mu) (w : World) : Prop :=
  ∀ v cv a' h' μ' w', Ext h μ w h' μ' w' → FR K nt μ' f a' → VR μ' v cv → cx.hp v f h' = r → Q (.panic [{ v := cv, recovered := false }]) a' w'
theorem PanicK.ext {h h' : H} {μ μ' : Mu} {w w' : World} (hp : PanicK Q cx K nt f r h μ w) (hx : Ext h μ w h' μ' w') : PanicK Q cx K nt f r h' μ' w' :=
  fun v cv a' h'' μ'' w'' e1 e2 e3 e4 => hp v cv a' h'' μ'' w'' (hx.trans e1) e2 e3 e4
theorem PanicK.pok {h : H} {μ : Mu} {w : World} {a : Act} (hp : PanicK Q cx K nt f r h μ w) (hfr : FR K nt μ f a) : POK h μ w cx f a Q r :=
  fun v cv w' μ' h' e1 e2 e3 => hp v cv a h' μ' w' e1 (hfr.mono e1.le) e2 e3

def GOK (K : Nat) (gt : Nat → Option Tmp) (f : Fr) : Gd → Prop
  | none => True
  | some (j, w) => ∃ d, gt j = some d ∧ getT K f d = .bool w
theorem gwanted {g : Gd} {o : Oper} {μ : Mu} {a : Act} (hg : o.guard = g) (hv : FV K μ f a) (hk : GOK K (gtOf ops) f g) : Region.wanted o (yielded ops a.tmps) = true := by
  unfold Region.wanted
  rw [hg]
  cases g with
  | none => rfl
  | some p =>
    obtain ⟨j, w⟩ := p
    obtain ⟨d, h1, h2⟩ := hk
    have h3 := hv d
    rw [h2] at h3
    have h4 : a.tmps[d]? = some (.bool w) := by
      generalize hc : a.tmps.getD d undef = c at h3
      cases h3
      rw [Array.getD_eq_getD_getElem?] at hc
      cases hh : a.tmps[d]? with
      | none => rw [hh] at hc; cases hc
      | some x => rw [hh] at hc; simp at hc; rw [hc]
    have h5 : (ops[j]?).bind (·.dst) = some d := by
      unfold gtOf at h1
      split at h1
      · next o ho => rw [ho]; exact h1
      · cases h1
    simp [yielded, h5, h4]

def Clean (K nt : Nat) (f : Fr) (L : List Oper) : Prop := (dsts L).Nodup ∧ ∀ d ∈ dsts L, d < nt ∧ getT K f d = .bad
theorem dsts_append (l m : List Oper) : dsts (l ++ m) = dsts l ++ dsts m := List.filterMap_append
theorem Clean.left {l m : List Oper} (h : Clean K nt f (l ++ m)) : Clean K nt f l := by
  unfold Clean at *
  rw [dsts_append] at h
  exact ⟨(List.nodup_append.1 h.1).1, fun d hd => h.2 d (List.mem_append.2 (.inl hd))⟩
theorem Clean.right {l m : List Oper} (h : Clean K nt f (l ++ m)) : Clean K nt f m := by
  unfold Clean at *
  rw [dsts_append] at h
  exact ⟨(List.nodup_append.1 h.1).2.1, fun d hd => h.2 d (List.mem_append.2 (.inr hd))⟩
theorem Clean.apart {l m : List Oper} (h : Clean K nt f (l ++ m)) {d : Tmp} (hd : d ∈ dsts l) : d ∉ dsts m := by
  unfold Clean at h
  rw [dsts_append] at h
  exact fun hm => (List.nodup_append.1 h.1).2.2 d hd d hm rfl

def Agree (L : List Oper) (a a' : Act) : Prop := ∀ d, d ∉ dsts L → a'.tmps.getD d undef = a.tmps.getD d undef
theorem Agree.refl (a : Act) : Agree [] a a := fun _ _ => rfl
theorem Agree.app {l m : List Oper} {a b c : Act} (h : Agree l a b) (h' : Agree m b c) : Agree (l ++ m) a c := fun d hd => by
  rw [dsts_append, List.mem_append, not_or] at hd
  rw [h' d hd.2, h d hd.1]

def Has (K : Nat) (f : Fr) (L : List Oper) (x : Operand) (v : AV) (μ : Mu) (a : Act) : Prop := VR μ v (a.eval x) ∧ ((∃ d, x = .tmp d ∧ d ∈ dsts L) ∨ v = evX x K f)
theorem Has.on {l m : List Oper} {x : Operand} {v : AV} {μ μ' : Mu} {a a' : Act} (h : Has K f l x v μ a) (hle : μ.Le μ') (hag : Agree m a a') (hap : ∀ d, d ∈ dsts l → d ∉ dsts m) (hv : FV K μ' f a') (hg : GM μ') : Has K f l x v μ' a' := by
  refine ⟨?_, h.2⟩
  rcases h.2 with ⟨d, rfl, hd⟩ | rfl
  · have := hag d (hap d hd)
    show VR μ' v (a'.tmps.getD d undef)
    rw [this]
    exact h.1.mono hle
  · exact hv.evX hg x
theorem Has.weak {l m : List Oper} {x : Operand} {v : AV} {μ : Mu} {a : Act} (h : Has K f l x v μ a) (hs : ∀ d ∈ dsts l, d ∈ dsts m) : Has K f m x v μ a :=
  ⟨h.1, h.2.imp (fun ⟨d, e, hd⟩ => ⟨d, e, hs d hd⟩) id⟩

def inner : TE → List Oper
  | .n1 _ a => flat a
  | .n2 _ a b => flat a ++ flat b
  | .n3 _ a b c => flat a ++ flat b ++ flat c
  | .nl _ l => flat l
  | _ => []
theorem flat_node {g : Gd} {t : TE} {o : Oper} (h : WN K gt g t o) : flat t = inner t ++ [o] := by cases h <;> rfl

variable (P ops Q cx K nt f r) in
def NodeS (g : Gd) (t : TE) (o : Oper) : Prop := ∀ a h μ w (k : KV) (Kc : Act → World → Prop), FR K nt μ f a → HR h μ w → Clean K nt f (inner t) → PanicK Q cx K nt f r h μ w → evT t P cx f h k = r → GOK K (gtOf ops) f g →
  (∀ v cv a' h' μ' w', Ext h μ w h' μ' w' → FR K nt μ' f a' → Agree (inner t) a a' → VR μ' v cv → k v h' = r → Kc (a'.put o.dst cv) w') → wpL P ops Q Kc (flat t) a w
variable (P ops Q cx K nt f r) in
def TreeS (g : Gd) (t : TE) (x : Operand) : Prop := ∀ a h μ w (k : KV) (Kc : Act → World → Prop), FR K nt μ f a → HR h μ w → Clean K nt f (flat t) → PanicK Q cx K nt f r h μ w → evT t P cx f h k = r → GOK K (gtOf ops) f g →
  (∀ v a' h' μ' w', Ext h μ w h' μ' w' → FR K nt μ' f a' → Agree (flat t) a a' → Has K f (flat t) x v μ' a' → k v h' = r → Kc a' w') → wpL P ops Q Kc (flat t) a w
variable (P ops Q cx K nt f r) in
def ListS (g : Gd) (l : TE) (xs : List Operand) : Prop := ∀ a h μ w (k : KV) (Kc : Act → World → Prop), FR K nt μ f a → HR h μ w → Clean K nt f (flat l) → PanicK Q cx K nt f r h μ w → evT l P cx f h k = r → GOK K (gtOf ops) f g →
  (∀ v a' h' μ' w', Ext h μ w h' μ' w' → FR K nt μ' f a' → Agree (flat l) a a' → k v h' = r → (∃ vs, v = .tup vs ∧ VRs μ' vs (xs.map a'.eval)) → Kc a' w') → wpL P ops Q Kc (flat l) a w

theorem wpL_one {Kc : Act → World → Prop} {o : Oper} {a : Act} {w : World} (hw : Region.wanted o (yielded ops a.tmps) = true) (h : o.wp P a w Kc Q) : wpL P ops Q Kc [o] a w := by
  simp only [wpL]
  rw [if_pos hw]
  exact h

/- a guard that does not hold: nothing is done -/
theorem unwanted {j : Nat} {wt : Bool} {d : Tmp} {o : Oper} {μ : Mu} {a : Act} (hg : o.guard = some (j, wt)) (hv : FV K μ f a) (hj : gtOf ops j = some d) {b : Bool} (hd : (getT K f d = .bool b ∧ b ≠ wt) ∨ getT K f d = .tup []) :
    ¬ Region.wanted o (yielded ops a.tmps) = true := by
  unfold Region.wanted
  rw [hg]
  have h3 := hv d
  have h5 : (ops[j]?).bind (·.dst) = some d := by
    unfold gtOf at hj
    split at hj
    · next o ho => rw [ho]; exact hj
    · cases hj
  generalize hc : a.tmps.getD d undef = c at h3
  rw [Array.getD_eq_getD_getElem?] at hc
  rcases hd with ⟨hd, hne⟩ | hd
  · rw [hd] at h3
    cases h3
    have h4 : a.tmps[d]? = some (.bool b) := by
      cases hh : a.tmps[d]? with
      | none => rw [hh] at hc; cases hc
      | some x => rw [hh] at hc; simp at hc; rw [hc]
    simp [yielded, h5, h4, hne]
  · rw [hd] at h3
    cases h3 with | tup _ cs h3 =>
    have h4 : a.tmps[d]? = none ∨ a.tmps[d]? = some (.tuple cs) := by
      cases hh : a.tmps[d]? with
      | none => exact .inl rfl
      | some x => rw [hh] at hc; simp at hc; rw [hc]; exact .inr rfl
    rcases h4 with h4 | h4 <;> simp [yielded, h5, h4]
theorem skip_sound {j : Nat} {wt : Bool} {d : Tmp} (hj : gtOf ops j = some d) {b : Bool} (hd : (getT K f d = .bool b ∧ b ≠ wt) ∨ getT K f d = .tup []) {μ : Mu} {w : World} {Kc : Act → World → Prop} : ∀ (L : List Oper) (a : Act),
    (∀ o ∈ L, o.guard = some (j, wt)) → Clean K nt f L → FR K nt μ f a → (∀ a', FR K nt μ f a' → Agree L a a' → (∀ d ∈ dsts L, a'.tmps.getD d undef = undef) → Kc a' w) → wpL P ops Q Kc L a w
  | [], a, _, _, hfr, hk => hk a hfr (.refl a) (by intro d hd; cases hd)
  | o :: L, a, hg, hcl, hfr, hk => by
    simp only [wpL]
    rw [if_neg (unwanted (hg o (by simp)) hfr.v hj hd)]
    have hcl2 : Clean K nt f ([o] ++ L) := hcl
    refine skip_sound hj hd L _ (fun o' ho' => hg o' (by simp [ho'])) hcl2.right ?_ fun a' h1 h2 h3 => hk a' h1 ?_ ?_
    · cases hdst : o.dst with
      | none => exact hfr
      | some d' =>
        obtain ⟨hlt, hbad⟩ := hcl.2 d' (by simp [dsts, hdst])
        exact hfr.write undef hlt hbad
    · intro t ht
      have ht' : t ∉ dsts ([o] ++ L) := ht
      rw [dsts_append, List.mem_append, not_or] at ht'
      rw [h2 t ht'.2]
      cases hdst : o.dst with
      | none => rfl
      | some d' =>
        obtain ⟨hlt, hbad⟩ := hcl.2 d' (by simp [dsts, hdst])
        have hne : t ≠ d' := fun e => ht'.1 (by simp [dsts, hdst, e])
        rw [getD_put _ _ _ _ (Nat.lt_of_lt_of_le hlt hfr.n), if_neg hne]
    · intro t ht
      have ht' : t ∈ dsts ([o] ++ L) := ht
      rw [dsts_append, List.mem_append] at ht'
      rcases ht' with ht' | ht'
      · have hno := hcl2.apart ht'
        rw [h2 t hno]
        cases hdst : o.dst with
        | none => simp [dsts, hdst] at ht'
        | some d' =>
          obtain ⟨hlt, hbad⟩ := hcl.2 d' (by simp [dsts, hdst])
          have : t = d' := by simpa [dsts, hdst] using ht'
          rw [getD_put _ _ _ _ (Nat.lt_of_lt_of_le hlt hfr.n), if_pos this]
      · exact h3 t ht'
mutual
theorem WN.guards {j : Nat} {wt : Bool} : ∀ {t o}, WN K gt (some (j, wt)) t o → ∀ o' ∈ flat t, o'.guard = some (j, wt)
  | _, _, .n0 h hg => fun o' ho => by
    simp only [flat, List.mem_singleton] at ho; subst ho; exact hg
  | _, _, .n1 h hg ha => fun o' ho => by
    simp only [flat, List.mem_append, List.mem_singleton] at ho
    rcases ho with ho | ho
    · exact WT.guards ha o' ho
    · subst ho; exact hg
  | _, _, .n2 h hg ha hb => fun o' ho => by
    simp only [flat, List.mem_append, List.mem_singleton] at ho
    rcases ho with (ho | ho) | ho
    · exact WT.guards ha o' ho
    · exact WT.guards hb o' ho
    · subst ho; exact hg
  | _, _, .n3 h hg ha hb hc => fun o' ho => by
    simp only [flat, List.mem_append, List.mem_singleton] at ho
    rcases ho with ((ho | ho) | ho) | ho
    · exact WT.guards ha o' ho
    · exact WT.guards hb o' ho
    · exact WT.guards hc o' ho
    · subst ho; exact hg
  | _, _, .nl h hg hl => fun o' ho => by
    simp only [flat, List.mem_append, List.mem_singleton] at ho
    rcases ho with ho | ho
    · exact WL.guards hl o' ho
    · subst ho; exact hg
theorem WT.guards {j : Nat} {wt : Bool} : ∀ {t x}, WT K gt (some (j, wt)) t x → ∀ o' ∈ flat t, o'.guard = some (j, wt)
  | _, _, .lf => fun o' ho => by cases ho
  | _, _, .node h hd hb => WN.guards h
theorem WL.guards {j : Nat} {wt : Bool} : ∀ {l xs}, WL K gt (some (j, wt)) l xs → ∀ o' ∈ flat l, o'.guard = some (j, wt)
  | _, _, .nil => fun o' ho => by cases ho
  | _, _, .cons ha hl => fun o' ho => by
    simp only [flat, List.mem_append] at ho
    rcases ho with ho | ho
    · exact WT.guards ha o' ho
    · exact WL.guards hl o' ho
end

theorem of_node {g : Gd} {t : TE} {o : Oper} {d : Tmp} (h : WN K (gtOf ops) g t o) (hd : o.dst = some d) (_ : bit K d = false) (hn : NodeS P ops Q cx K nt f r g t o) : TreeS P ops Q cx K nt f r g t (.tmp d) :=
  fun a hh μ w k Kc hfr hr hcl hp e hgo hk => by
    have hfl := flat_node h
    have hin : Clean K nt f (inner t) := by rw [hfl] at hcl; exact hcl.left
    have hd' : d ∈ dsts (flat t) := by rw [hfl, dsts_append]; exact List.mem_append.2 (.inr (by simp [dsts, hd]))
    refine hn a hh μ w k _ hfr hr hin hp e hgo fun v cv a' h' μ' w' e1 e2 e3 e4 e5 => ?_
    obtain ⟨hlt, hbad⟩ := hcl.2 d hd'
    rw [hd]
    have hg : (a'.put (some d) cv).tmps.getD d undef = cv := by rw [getD_put _ _ _ _ (Nat.lt_of_lt_of_le hlt e2.n), if_pos rfl]
    refine hk v _ h' μ' w' e1 (e2.write cv hlt hbad) (fun t' ht' => ?_) ⟨?_, .inl ⟨d, rfl, hd'⟩⟩ e5
    · have hne : t' ≠ d := fun e => ht' (e ▸ hd')
      rw [getD_put _ _ _ _ (Nat.lt_of_lt_of_le hlt e2.n), if_neg hne]
      exact e3 t' fun hm => ht' (by rw [hfl, dsts_append]; exact List.mem_append.2 (.inl hm))
    · show VR μ' v ((a'.put (some d) cv).tmps.getD d undef)
      rw [hg]; exact e4

section
variable (hf : Fin r) (hc : CallOK P cx.call) (hov : OvOK P cx.ov) (hK : cx.K = K)
include hf hc hov hK
mutual
theorem node_sound : ∀ {g t o}, WN K (gtOf ops) g t o → NodeS P ops Q cx K nt f r g t o
  | _, _, _, .n0 (o := o) h hg => fun a hh μ w k Kc hfr hr hcl hp e hgo hk => by
    have _ := hK
    refine wpL_one (gwanted hg hfr.v hgo) ?_
    exact op0_sound (fr := f) (cx := cx) hr hf e fun v cv w' μ' h' e1 e2 e3 => hk v cv a h' μ' w' e1 (hfr.mono e1.le) (.refl a) e2 e3
  | _, _, _, .n1 (o := o) (a := t) (x := x) h hg ha => fun a hh μ w k Kc hfr hr hcl hp e hgo hk => by
    show wpL P ops Q Kc (flat t ++ [o]) a w
    rw [← wpL_append]
    refine tree_sound ha a hh μ w (c1 o P cx f k) _ hfr hr hcl hp e hgo fun v a' h' μ' w' e1 e2 e3 e4 e5 => ?_
    refine wpL_one (gwanted hg e2.v hgo) ?_
    exact op1_sound (fr := f) (cx := cx) e1.hr h e4.1 hf e5 (fun v cv w'' μ'' h'' q1 q2 q3 => hk v cv a' h'' μ'' w'' (e1.trans q1) (e2.mono q1.le) e3 q2 q3) ((hp.ext e1).pok e2)
  | _, _, _, .n2 (o := o) (a := t) (b := u) (x := x) (y := y) h hg ha hb => fun a hh μ w k Kc hfr hr hcl hp e hgo hk => by
    show wpL P ops Q Kc (flat t ++ flat u ++ [o]) a w
    rw [List.append_assoc, ← wpL_append, ← wpL_append]
    refine tree_sound ha a hh μ w (c2a o (evT u) P cx f k) _ hfr hr hcl.left hp e hgo fun v a' h' μ' w' e1 e2 e3 e4 e5 => ?_
    refine tree_sound hb a' h' μ' w' (c2b o P cx f k v) _ e2 e1.hr hcl.right (hp.ext e1) e5 hgo fun v2 a2 h2 μ2 w2 s1 s2 s3 s4 s5 => ?_
    have h4 := e4.on s1.le s3 (fun d hd => hcl.apart hd) s2.v s1.hr.gm
    refine wpL_one (gwanted hg s2.v hgo) ?_
    exact op2_sound (fr := f) (cx := cx) s1.hr h h4.1 s4.1 hf s5 fun v cv w'' μ'' h'' q1 q2 q3 => hk v cv a2 h'' μ'' w'' ((e1.trans s1).trans q1) (s2.mono q1.le) (e3.app s3) q2 q3
  | _, _, _, .n3 (o := o) (a := t) (b := u) (c := z) h hg ha hb hcc => fun a hh μ w k Kc hfr hr hcl hp e hgo hk => by
    show wpL P ops Q Kc (flat t ++ flat u ++ flat z ++ [o]) a w
    rw [List.append_assoc, List.append_assoc, ← wpL_append, ← wpL_append, ← wpL_append]
    refine tree_sound ha a hh μ w (c3a o (evT u) (evT z) P cx f k) _ hfr hr hcl.left.left hp e hgo fun v a' h' μ' w' e1 e2 e3 e4 e5 => ?_
    refine tree_sound hb a' h' μ' w' (c3b o (evT z) P cx f k v) _ e2 e1.hr hcl.left.right (hp.ext e1) e5 hgo fun v2 a2 h2 μ2 w2 s1 s2 s3 s4 s5 => ?_
    have h4 := e4.on s1.le s3 (fun d hd => hcl.left.apart hd) s2.v s1.hr.gm
    refine tree_sound hcc a2 h2 μ2 w2 (c3c o P cx f k v v2) _ s2 s1.hr hcl.right ((hp.ext e1).ext s1) s5 hgo fun v3 a3 h3 μ3 w3 z1 z2 z3 z4 z5 => ?_
    have h5 := h4.on z1.le z3 (fun d hd => hcl.apart (by rw [dsts_append]; exact List.mem_append.2 (.inl hd))) z2.v z1.hr.gm
    have h6 := s4.on z1.le z3 (fun d hd => hcl.apart (by rw [dsts_append]; exact List.mem_append.2 (.inr hd))) z2.v z1.hr.gm
    refine wpL_one (gwanted hg z2.v hgo) ?_
    exact op3_sound (fr := f) (cx := cx) z1.hr h h5.1 h6.1 z4.1 hf z5 fun v cv w'' μ'' h'' q1 q2 q3 => hk v cv a3 h'' μ'' w'' (((e1.trans s1).trans z1).trans q1) (z2.mono q1.le) ((e3.app s3).app z3) q2 q3
  | _, _, _, .nl (o := o) (l := l) h hg hl => fun a hh μ w k Kc hfr hr hcl hp e hgo hk => by
    show wpL P ops Q Kc (flat l ++ [o]) a w
    rw [← wpL_append]
    refine list_sound hl a hh μ w (clK o P cx f k) _ hfr hr hcl hp e hgo fun v a' h' μ' w' e1 e2 e3 e4 e5 => ?_
    obtain ⟨vs, rfl, hv⟩ := e5
    refine wpL_one (gwanted hg e2.v hgo) ?_
    refine opL_sound (fr := f) (cx := cx) hc hov e1.hr (l := vs) (by rw [h]; exact hv) hf e4 (fun v cv w'' μ'' h'' q1 q2 q3 => hk v cv a' h'' μ'' w'' (e1.trans q1) (e2.mono q1.le) e3 q2 q3) ((hp.ext e1).pok e2)
theorem tree_sound : ∀ {g t x}, WT K (gtOf ops) g t x → TreeS P ops Q cx K nt f r g t x
  | _, _, _, .lf (x := x) => fun a hh μ w k Kc hfr hr hcl hp e hgo hk => by
    have _ := hc
    have _ := hov
    subst hK
    exact hk _ a hh μ w (.refl hr) hfr (.refl a) ⟨hfr.v.evX hr.gm x, .inr rfl⟩ e
  | _, _, _, .node h hd hb => of_node h hd hb (node_sound h)
  | _, _, _, .gd (j := j) (w := wt) (d := d) (t := t) (o := o) (d' := d') hj h hd hb => fun a hh μ w k Kc hfr hr hcl hp e hgo hk => by
    have hts := node_sound h
    subst hK
    have hfl := flat_node h
    have hd' : d' ∈ dsts (flat t) := by rw [hfl, dsts_append]; exact List.mem_append.2 (.inr (by simp [dsts, hd]))
    have hskip : ∀ b : Bool, ((getT cx.K f d = .bool b ∧ b ≠ wt) ∨ getT cx.K f d = .tup []) → k (.tup []) hh = r → wpL P ops Q Kc (flat t) a w := fun b hbb e =>
      skip_sound hj hbb (flat t) a (WN.guards h) hcl hfr fun a' h1 h2 h3 =>
        hk (.tup []) a' hh μ w (.refl hr) h1 h2 ⟨by
          show VR μ (.tup []) (a'.tmps.getD d' undef)
          rw [h3 d' hd']; exact .tup [] #[] .nil, .inl ⟨d', rfl, hd'⟩⟩ e
    change gdV wt (evT t) P cx f hh k (getT cx.K f d) = r at e
    show wpL P ops Q Kc (flat t) a w
    cases hv : getT cx.K f d with
    | bool b =>
      rw [hv] at e
      cases hbw : b == wt with
      | true =>
        have : b = wt := by simpa using hbw
        subst this
        change (Bool.rec (k (.tup []) hh) (evT t P cx f hh k) (b == b) : R) = r at e
        rw [hbw] at e
        exact of_node h hd hb hts a hh μ w k Kc hfr hr hcl hp e ⟨d, hj, hv⟩ hk
      | false =>
        change (Bool.rec (k (.tup []) hh) (evT t P cx f hh k) (b == wt) : R) = r at e
        rw [hbw] at e
        exact hskip b (.inl ⟨hv, by simpa using hbw⟩) e
    | tup l =>
      rw [hv] at e
      cases l with
      | nil => exact hskip true (.inr hv) e
      | cons => exact hf.no e
    | _ => rw [hv] at e; exact hf.no e
theorem list_sound : ∀ {g l xs}, WL K (gtOf ops) g l xs → ListS P ops Q cx K nt f r g l xs
  | _, _, _, .nil => fun a hh μ w k Kc hfr hr hcl hp e hgo hk =>
    hk _ a hh μ w (.refl hr) hfr (.refl a) e ⟨[], rfl, .nil⟩
  | _, _, _, .cons (a := t) (l := l) (x := x) (xs := xs) ha hl => fun a hh μ w k Kc hfr hr hcl hp e hgo hk => by
    show wpL P ops Q Kc (flat t ++ flat l) a w
    have _ := hf
    have _ := hc
    have _ := hov
    have _ := hK
    rw [← wpL_append]
    refine tree_sound ha a hh μ w (consA (evT l) P cx f k) _ hfr hr hcl.left hp e hgo fun v a' h' μ' w' e1 e2 e3 e4 e5 => ?_
    refine list_sound hl a' h' μ' w' (consB k v) _ e2 e1.hr hcl.right (hp.ext e1) e5 hgo fun v2 a2 h2 μ2 w2 s1 s2 s3 s4 s5 => ?_
    obtain ⟨vs, rfl, hv⟩ := s5
    have h4 := e4.on s1.le s3 (fun d hd => hcl.apart hd) s2.v s1.hr.gm
    exact hk _ a2 h2 μ2 w2 (e1.trans s1) s2 (e3.app s3) s4 ⟨v :: vs, rfl, .cons _ _ _ _ h4.1 hv⟩
end
end

end Go.Ev
