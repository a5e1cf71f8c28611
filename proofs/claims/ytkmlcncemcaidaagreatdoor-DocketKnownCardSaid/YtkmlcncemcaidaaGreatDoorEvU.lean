/- The abstract evaluator: draw regions, what the plan tells; the walk's trace. -/
import Derived.Test.YtkmlcncemcaidaaGreatDoorEvTh
import Derived.Orders
namespace Go.Ev
variable {P : Program} {cx : Cx} {K nt : Nat} {r : R} {ops : Array Oper}

theorem bit_test (m t : Nat) : bit m t = m.testBit t := by
  unfold bit
  show Nat.beq ((m >>> t) &&& 1) 1 = _
  rw [Nat.and_one_is_mod, Nat.shiftRight_eq_div_pow, Nat.testBit_eq_decide_div_mod_eq]
  cases hb : Nat.beq (m / 2 ^ t % 2) 1 with
  | true => have := Nat.eq_of_beq_eq_true hb; simp [this]
  | false =>
    have : ¬ m / 2 ^ t % 2 = 1 := fun e => by rw [e] at hb; cases hb
    simp [this]
theorem bit_set (m d t : Nat) : bit (Nat.lor m (Nat.shiftLeft 1 d)) t = (bit m t || decide (t = d)) := by
  rw [bit_test, bit_test]
  show (m ||| (1 <<< d)).testBit t = _
  rw [Nat.testBit_or]
  congr 1
  rw [Nat.testBit_shiftLeft]
  by_cases h : t = d
  · subst h; simp
  · by_cases hle : d ≤ t
    · have : t - d ≠ 0 := by omega
      have h1 : Nat.testBit 1 (t - d) = false := by
        obtain ⟨n, hn⟩ : ∃ n, t - d = n + 1 := ⟨t - d - 1, by omega⟩
        rw [hn, Nat.testBit_succ]
        simp
      simp [h, hle, h1]
    · simp [h, hle]
theorem bit_lor (a b t : Nat) : bit (Nat.lor a b) t = (bit a t || bit b t) := by
  rw [bit_test, bit_test, bit_test]
  exact Nat.testBit_or a b t
theorem bit_zero (t : Nat) : bit 0 t = false := by rw [bit_test]; exact Nat.zero_testBit t
theorem bit_sub {D B t : Nat} (h : Nat.beq (Nat.land D B) D = true) (ht : bit D t = true) : bit B t = true := by
  have h := Nat.eq_of_beq_eq_true h
  rw [bit_test] at *
  have h2 : (D &&& B).testBit t = true := by
    show (Nat.land D B).testBit t = true
    rw [h]; exact ht
  rw [Nat.testBit_and] at h2
  simp only [Bool.and_eq_true] at h2
  exact h2.2
theorem emask_spec : ∀ (l : List Edge) (j : Nat), bit (emask l) j = true ↔ ∃ e ∈ l, Region.binds .any e = true ∧ e.on = j
  | [], j => by simp [emask, bit_zero]
  | e :: l, j => by
    unfold emask
    cases hb : Region.binds .any e with
    | false => simp only [cond_false, emask_spec l j, List.mem_cons, exists_eq_or_imp, hb, Bool.false_eq_true, false_and, false_or]
    | true =>
      simp only [cond_true, bit_set, Bool.or_eq_true, decide_eq_true_eq, emask_spec l j, List.mem_cons, exists_eq_or_imp, hb, true_and]
      constructor
      · rintro (h | h)
        · exact .inr h
        · exact .inl h.symm
      · rintro (h | h)
        · exact .inr h.symm
        · exact .inl h
theorem bsum_spec (D : Nat) : ∀ (l : List En) (j : Nat), bit (bsum D l) j = true → ∃ y ∈ l, bit D y.i = true ∧ (j = y.i ∨ bit y.b j = true)
  | [], j, h => by simp [bsum, bit_zero] at h
  | e :: l, j, h => by
    unfold bsum at h
    cases hb : bit D e.i with
    | false =>
      rw [hb] at h
      obtain ⟨y, h1, h2⟩ := bsum_spec D l j h
      exact ⟨y, List.mem_cons_of_mem _ h1, h2⟩
    | true =>
      rw [hb] at h
      simp only [cond_true] at h
      rw [bit_set, bit_lor] at h
      simp only [Bool.or_eq_true, decide_eq_true_eq] at h
      rcases h with (h | h) | h
      · obtain ⟨y, h1, h2⟩ := bsum_spec D l j h
        exact ⟨y, List.mem_cons_of_mem _ h1, h2⟩
      · exact ⟨e, List.mem_cons_self, hb, .inr h⟩
      · exact ⟨e, List.mem_cons_self, hb, .inl h⟩
theorem memN_spec (t : Nat) : ∀ (l : List Nat), t ∈ l → memN t l = true
  | [], h => by cases h
  | x :: l, h => by
    unfold memN
    cases hb : Nat.beq x t with
    | true => rfl
    | false =>
      simp only [cond_false]
      rcases List.mem_cons.1 h with h | h
      · subst h; simp at hb
      · exact memN_spec t l h
theorem notIn_spec {i : Nat} : ∀ {l : List En}, notIn i l = true → ∀ y ∈ l, y.i ≠ i
  | [], _, y, hy => by cases hy
  | x :: l, h, y, hy => by
    unfold notIn at h
    cases hb : Nat.beq x.i i with
    | true => rw [hb] at h; cases h
    | false =>
      rw [hb] at h
      rcases List.mem_cons.1 hy with h2 | h2
      · subst h2; intro e; rw [e] at hb; simp at hb
      · exact notIn_spec h y h2
theorem notIn_false {i : Nat} : ∀ {l : List En}, notIn i l = false → ∃ y ∈ l, y.i = i
  | [], h => by cases h
  | x :: l, h => by
    unfold notIn at h
    cases hb : Nat.beq x.i i with
    | true => exact ⟨x, List.mem_cons_self, Nat.eq_of_beq_eq_true hb⟩
    | false =>
      rw [hb] at h
      obtain ⟨y, h1, h2⟩ := notIn_false h
      exact ⟨y, List.mem_cons_of_mem _ h1, h2⟩
theorem allIn_spec {l : List En} : ∀ (n : Nat), allIn n l = true → ∀ i, i < n → ∃ y ∈ l, y.i = i
  | 0, _, i, hi => by omega
  | n + 1, h, i, hi => by
    change (bif notIn n l then false else allIn n l) = true at h
    cases hb : notIn n l with
    | true => rw [hb] at h; cases h
    | false =>
      rw [hb] at h
      by_cases e : i = n
      · subst e; exact notIn_false hb
      · exact allIn_spec n h i (by omega)
theorem pairsOk_spec {x : En} : ∀ {l : List En}, pairsOk x l = true → ∀ y ∈ l, pairOk x y = true
  | [], _, y, hy => by cases hy
  | z :: l, h, y, hy => by
    unfold pairsOk at h
    cases hb : pairOk x z with
    | false => rw [hb] at h; cases h
    | true =>
      rw [hb] at h
      rcases List.mem_cons.1 hy with h2 | h2
      · subst h2; exact hb
      · exact pairsOk_spec h y h2
/- x comes later than y in the plan -/
structure PairOk (x y : En) : Prop where
  dst : ∀ d, y.o.dst = some d → x.o.dst ≠ some d
  rdW : ∀ d, y.o.dst = some d → d ∈ x.rd → bit x.b y.i = true
  rdR : ∀ d, x.o.dst = some d → d ∈ y.rd → bit x.b y.i = true
  cls : pairC x.c y.c = true → bit x.b y.i = true
  ne : y.i ≠ x.i
theorem pairOk_spec {x y : En} (h : pairOk x y = true) (hne : y.i ≠ x.i) : PairOk x y := by
  unfold pairOk at h
  obtain ⟨h1, h2⟩ := an_true h
  obtain ⟨h2, h3⟩ := an_true h2
  refine ⟨fun d hd => ?_, fun d hd hm => ?_, fun d hd hm => ?_, fun hc => ?_, hne⟩
  · unfold pairW at h1
    rw [hd] at h1
    obtain ⟨h4, _⟩ := an_true h1
    intro e
    rw [e] at h4
    simp [nt_eq] at h4
  · unfold pairW at h1
    rw [hd] at h1
    obtain ⟨_, h4⟩ := an_true h1
    rw [memN_spec d _ hm] at h4
    exact h4
  · unfold pairR at h2
    rw [hd] at h2
    simp only at h2
    rw [memN_spec d _ hm] at h2
    exact h2
  · rw [hc] at h3; exact h3
def pendL : List En → Bool
  | [] => false
  | x :: l => pendN x.c (pendL l)
structure EnOk (P : Program) (ops : Array Oper) (x : En) (done : List En) : Prop where
  op : ops[x.i]? = some x.o
  eq : x = mkEn (gtOf ops) x.i x.c x.o done
  edge : ∀ j, bit (emask x.o.after.toList) j = true → bit x.b j = true
  pair : ∀ y ∈ done, PairOk x y
  pend : pendOk x.o x.c (pendL done) = true
  cls : clsOk P x.c x.o = true
inductive Pl (P : Program) (ops : Array Oper) : List En → Prop
  | nil : Pl P ops []
  | cons {x done} (h : EnOk P ops x done) (t : Pl P ops done) : Pl P ops (x :: done)
theorem enOk_spec {i : Nat} {c : DC} {o : Oper} {done : List En} (hi : ops[i]? = some o) (h : enOk P (mkEn (gtOf ops) i c o done) done (pendL done) = true) : EnOk P ops (mkEn (gtOf ops) i c o done) done := by
  unfold enOk at h
  obtain ⟨h1, h⟩ := an_true h
  obtain ⟨h2, h⟩ := an_true h
  obtain ⟨h3, h⟩ := an_true h
  obtain ⟨h4, h5⟩ := an_true h
  exact ⟨hi, rfl, fun j hj => bit_sub h1 hj, fun y hy => pairOk_spec (pairsOk_spec h3 y hy) (notIn_spec h2 y hy), h4, h5⟩
theorem dstat_spec : ∀ (l : List (Nat × DC)) (done res : List En), Pl P ops done → dstat P ops l done (pendL done) = some res → Pl P ops res
  | [], done, res, hp, e => by cases e; exact hp
  | (i, c) :: l, done, res, hp, e => by
    unfold dstat at e
    split at e
    · cases e
    · next o ho =>
      cases hb : enOk P (mkEn (gtOf ops) i c o done) done (pendL done) with
      | false => rw [hb] at e; cases e
      | true =>
        rw [hb] at e
        exact dstat_spec l (mkEn (gtOf ops) i c o done :: done) res (.cons (enOk_spec ho hb) hp) e
theorem Pl.drop : ∀ {a b : List En}, Pl P ops (a ++ b) → Pl P ops b
  | [], _, h => h
  | _ :: a, b, h => by cases h with | cons _ t => exact Pl.drop (a := a) t
theorem dplan1_spec {b : Bool} {l : List En} (h : dplan1 P b ops = some l) : Pl P ops l.reverse ∧ (∀ i, i < ops.size → ∃ y ∈ l.reverse, y.i = i) ∧ l.length ≤ ops.size := by
  unfold dplan1 at h
  split at h
  · next res hr =>
    cases hb : an (allIn ops.size res) (Nat.ble res.length ops.size) with
    | false => rw [hb] at h; cases h
    | true =>
      rw [hb] at h
      obtain ⟨hb, hb2⟩ := an_true hb
      cases h
      rw [List.reverse_reverse]
      exact ⟨dstat_spec _ [] res .nil hr, allIn_spec _ hb, by rw [List.length_reverse]; exact Nat.le_of_ble_eq_true hb2⟩
  · cases h
theorem dplan_spec {l : List En} (h : dplan P ops = some l) : Pl P ops l.reverse ∧ (∀ i, i < ops.size → ∃ y ∈ l.reverse, y.i = i) ∧ l.length ≤ ops.size := by
  unfold dplan at h
  split at h
  · next l' hl =>
    cases h
    exact dplan1_spec hl
  · exact dplan1_spec h
/- whatever must come before has come before in the plan -/
theorem Pl.before {x : En} {done : List En} : ∀ {l : List En}, Pl P ops l → ∀ {a : List En}, l = a ++ x :: done → ∀ j, bit x.b j = true → ∃ y ∈ done, y.i = j := by
  intro l hl
  induction hl generalizing x done with
  | nil => intro a e; simp at e
  | @cons z d h t ih =>
    intro a e j hj
    cases a with
    | cons z' a =>
      simp only [List.cons_append, List.cons.injEq] at e
      exact ih e.2 j hj
    | nil =>
      simp only [List.nil_append, List.cons.injEq] at e
      obtain ⟨rfl, rfl⟩ := e
      have hm := h.eq
      have hb : z.b = bsum (emask z.o.after.toList) d := congrArg En.b hm
      rw [hb] at hj
      obtain ⟨y, h1, h2, h3⟩ := bsum_spec _ _ _ hj
      rcases h3 with h3 | h3
      · exact ⟨y, h1, h3.symm⟩
      · obtain ⟨a', b', hab⟩ := List.append_of_mem h1
        obtain ⟨w, hw1, hw2⟩ := ih hab j h3
        exact ⟨w, by rw [hab]; simp [hw1], hw2⟩

/-! the trace of a walk -/
structure Rc where
  x : En
  wt : Bool
  args : List AV
  v : AV
  h : H
  na : Nat
  blk : Blk
abbrev Act' := List (En × List AV × AV)
inductive StepD (P : Program) (cx : Cx) (K : Nat) (gt : Nat → Option Tmp) (act : Act') (na : Nat) (fr : Fr) (h : H) : Rc → Act' → Nat → H → Prop
  | r {x v h2} (hc : x.c = .r) (hg : gdSt gt K fr x.o.guard = some true) (he : runOp P cx x.o (evXs K fr (opnds x.o)) h = .ok v h2) (hn : h2.next = h.next) :
      StepD P cx K gt act na fr h ⟨x, true, evXs K fr (opnds x.o), v, h, 0, .mp [] [] 0 false⟩ ((x, evXs K fr (opnds x.o), v) :: act) na h
  | rn {x} (hc : x.c = .r) (hg : gdSt gt K fr x.o.guard = some false) : StepD P cx K gt act na fr h ⟨x, false, [], .tup [], h, 0, .mp [] [] 0 false⟩ act na h
  | e {x v h2} (hc : x.c = .e) (hg : gdSt gt K fr x.o.guard = some true) (he : runOp P cx x.o (evXs K fr (opnds x.o)) h = .ok v h2) (hre : reOk P cx x.b h2 act = true) :
      StepD P cx K gt act na fr h ⟨x, true, evXs K fr (opnds x.o), v, h2, 0, .mp [] [] 0 false⟩ act na h2
  | en {x} (hc : x.c = .e) (hg : gdSt gt K fr x.o.guard = some false) (hre : reOk P cx x.b h act = true) : StepD P cx K gt act na fr h ⟨x, false, [], .tup [], h, 0, .mp [] [] 0 false⟩ act na h
  | a {x nv blk} (hc : x.c = .a) (hg : gdSt gt K fr x.o.guard = some true) (hz : newOp P x.o (evXs K fr (opnds x.o)) = some (nv, blk)) :
      StepD P cx K gt act na fr h ⟨x, true, [], nv.at na, h, na, blk⟩ act (Nat.succ na) ⟨h.next, h.m.set na blk⟩
inductive Tk (P : Program) (cx : Cx) (K : Nat) (ops : Array Oper) (f0 : Fr) (h0 : H) (na0 : Nat) : List Rc → Act' → Nat → Fr → H → Prop
  | nil : Tk P cx K ops f0 h0 na0 [] [] na0 f0 h0
  | step {T act na fr h rc act' na' h'} (t : Tk P cx K ops f0 h0 na0 T act na fr h) (ok : EnOk P ops rc.x (T.map (·.x))) (s : StepD P cx K (gtOf ops) act na fr h rc act' na' h') :
      Tk P cx K ops f0 h0 na0 (rc :: T) act' na' (put K fr rc.x.o.dst rc.v) h'
theorem walk_trace {f0 : Fr} {h0 : H} {na0 : Nat} {k : Fr → H → R} (hf : Fin r) : ∀ (rem : List En) (T : List Rc) (act : Act') (na : Nat) (fr : Fr) (h : H), Tk P cx K ops f0 h0 na0 T act na fr h → Pl P ops (rem.reverse ++ T.map (·.x)) →
    dWalk P cx K (gtOf ops) k rem act na fr h = r → ∃ T' act' na' fr' h', Tk P cx K ops f0 h0 na0 T' act' na' fr' h' ∧ T'.map (·.x) = rem.reverse ++ T.map (·.x) ∧ k fr' h' = r
  | [], T, act, na, fr, h, t, hp, e => ⟨T, act, na, fr, h, t, rfl, e⟩
  | x :: rem, T, act, na, fr, h, t, hp, e => by
    have hp' : Pl P ops (rem.reverse ++ (x :: T.map (·.x))) := by simpa using hp
    have ok : EnOk P ops x (T.map (·.x)) := by
      have := hp'.drop
      cases this with | cons h _ => exact h
    have go : ∀ (rc : Rc) act' na' h', rc.x = x → StepD P cx K (gtOf ops) act na fr h rc act' na' h' → dWalk P cx K (gtOf ops) k rem act' na' (put K fr rc.x.o.dst rc.v) h' = r →
        ∃ T' act' na' fr' h', Tk P cx K ops f0 h0 na0 T' act' na' fr' h' ∧ T'.map (·.x) = (x :: rem).reverse ++ T.map (·.x) ∧ k fr' h' = r := by
      intro rc act' na' h' hx hs he
      obtain ⟨T', a1, n1, f1, h1, q1, q2, q3⟩ := walk_trace hf rem (rc :: T) act' na' _ h' (.step t (hx ▸ ok) hs) (by simpa [hx] using hp') he
      exact ⟨T', a1, n1, f1, h1, q1, by simpa [hx] using q2, q3⟩
    unfold dWalk at e
    split at e
    · next hg hc =>
      split at e
      · next v h2 he =>
        obtain ⟨hn, e⟩ := cond_fail hf e
        exact go _ _ _ _ rfl (.r hc hg he (Nat.eq_of_beq_eq_true hn)) e
      · exact hf.no e
      · exact hf.no e
    · next hg hc =>
      split at e
      · next v h2 he =>
        obtain ⟨hn, e⟩ := cond_fail hf e
        exact go _ _ _ _ rfl (.e hc hg he hn) e
      · exact hf.no e
      · exact hf.no e
    · next hg hc =>
      split at e
      · next nv blk hz => exact go _ _ _ _ rfl (.a hc hg hz) e
      · exact hf.no e
    · next hg hc => exact go _ _ _ _ rfl (.rn hc hg) e
    · next hg hc =>
      obtain ⟨hn, e⟩ := cond_fail hf e
      exact go _ _ _ _ rfl (.en hc hg hn) e
    · exact hf.no e

end Go.Ev
