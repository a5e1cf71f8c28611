/- The abstract evaluator: checkpoints: a call computed by itself, from the blocks that it can reach alone. -/
import Derived.Test.YtkmlcncemcaidaaGreatDoorEvH
namespace Go.Ev

def Iz (n : Nat) : AV := .int .i64 (.ofNat n)
def Bz (n : Nat) : AV := .int .u8 (.ofNat n)
noncomputable def eqCs (d : List AV) (c : Tr AV) : Nat → List AV → Bool
  | _, [] => true
  | i, v :: l => bif eqN 20 v (cellAt d c i) then eqCs d c (Nat.succ i) l else false
/- a block as it is written down: cells in a row, or a map's entries -/
inductive LB where
  | cells (ty : Nat) (l : List AV) (fz : Nat) (ex : Bool)
  | rep (ty n : Nat) (d : List AV) (fz : Nat) (ex : Bool)
  | mp (es : List (AV × AV)) (bs : List Nat) (cl : Nat)
noncomputable def LB.blk : LB → Blk
  | .cells ty l fz ex => .cells ty l.length [] (listTr l) fz ex
  | .rep ty n d fz ex => .cells ty n d .nil fz ex
  | .mp es bs cl => .mp es bs cl false
noncomputable def eqEs : List (AV × AV) → List (AV × AV) → Bool
  | [], [] => true
  | (a, b) :: l, (c, d) :: m => bif an (eqN 20 a c) (eqN 20 b d) then eqEs l m else false
  | _, _ => false
noncomputable def eqNs : List Nat → List Nat → Bool
  | [], [] => true
  | a :: l, b :: m => bif Nat.beq a b then eqNs l m else false
  | _, _ => false
noncomputable def eqRep (d : List AV) (c : Tr AV) (d' : List AV) : Nat → Bool
  | 0 => true
  | n + 1 => bif eqN 20 (cellAt d' .nil n) (cellAt d c n) then eqRep d c d' n else false
noncomputable def eqB (x : LB) (b : Blk) : Bool := match x, b with
  | .cells ty l fz ex, .cells ty' n d c fz' ex' => an (Nat.beq ty ty') (an (Nat.beq l.length n) (an (Nat.beq fz fz') (an (ex == ex') (eqCs d c 0 l))))
  | .rep ty n d' fz ex, .cells ty' m d c fz' ex' => an (Nat.beq ty ty') (an (Nat.beq n m) (an (Nat.beq fz fz') (an (ex == ex') (eqRep d c d' n))))
  | .mp es bs cl, .mp es' bs' cl' false => an (eqEs es es') (an (eqNs bs bs') (Nat.beq cl cl'))
  | _, _ => false
abbrev LH := List (Nat × LB)
noncomputable def trL : LH → Tr Blk
  | [] => .nil
  | (b, x) :: l => (trL l).set b x.blk
noncomputable def subL (m : Tr Blk) : LH → Bool
  | [] => true
  | (b, x) :: l => bif (match m.get b with | some blk => eqB x blk | none => false) then subL m l else false
noncomputable def delL (m : Tr Blk) : LH → Tr Blk
  | [] => m
  | (b, _) :: l => delL (m.del b) l
noncomputable def setL (m : Tr Blk) : LH → Tr Blk
  | [] => m
  | (b, x) :: l => (setL m l).set b x.blk
/- a call written down: its arguments, the blocks that it begins with, its value and the blocks that it leaves -/
structure Ck where
  args : List AV
  n0 : Nat
  pre : LH
  v : AV
  n1 : Nat
  post : LH
noncomputable def ckOk (g : List AV → H → R) (c : Ck) : Bool := match g c.args ⟨c.n0, trL c.pre⟩ with
  | .ok v h => an (eqN 20 c.v v) (an (Nat.ble h.next c.n1) (subL h.m c.post))
  | _ => false
noncomputable def ckIn (args : List AV) (h : H) (c : Ck) : Bool := an (eqLs (eqN 20) c.args args) (an (Nat.ble h.next c.n0) (subL h.m c.pre))
/- the calls that are written down; g tells of the others -/
noncomputable def ckT (g : List AV → H → R) : List Ck → List AV → H → R
  | [], args, h => g args h
  | c :: l, args, h => bif ckIn args h c then .ok c.v ⟨c.n1, setL (delL h.m c.pre) c.post⟩ else ckT g l args h
def ckNo : List AV → H → R := fun _ _ => .fail "no checkpoint"

theorem eqCs_spec {d : List AV} {c : Tr AV} : ∀ {l : List AV} {i : Nat}, eqCs d c i l = true → ∀ j (hj : j < l.length), l[j] = cellAt d c (i + j)
  | [], _, _, j, hj => by simp at hj
  | v :: l, i, h, j, hj => by
    unfold eqCs at h
    cases hb : eqN 20 v (cellAt d c i) with
    | false => rw [hb] at h; cases h
    | true =>
      rw [hb] at h
      cases j with
      | zero => simpa using eqN_eq 20 _ _ hb
      | succ j =>
        have := eqCs_spec (i := Nat.succ i) h j (by simpa using hj)
        simpa [Nat.succ_eq_add_one, Nat.add_comm, Nat.add_left_comm] using this
theorem eqEs_eq : ∀ {l m : List (AV × AV)}, eqEs l m = true → l = m
  | [], [], _ => rfl
  | (a, b) :: l, (c, d) :: m, h => by
    unfold eqEs at h
    cases hb : an (eqN 20 a c) (eqN 20 b d) with
    | false => rw [hb] at h; cases h
    | true =>
      rw [hb] at h
      obtain ⟨h1, h2⟩ := an_true hb
      rw [eqN_eq 20 _ _ h1, eqN_eq 20 _ _ h2, eqEs_eq h]
  | [], _ :: _, h => by cases h
  | _ :: _, [], h => by cases h
theorem eqNs_eq : ∀ {l m : List Nat}, eqNs l m = true → l = m
  | [], [], _ => rfl
  | a :: l, b :: m, h => by
    unfold eqNs at h
    cases hb : Nat.beq a b with
    | false => rw [hb] at h; cases h
    | true => rw [hb] at h; rw [Nat.eq_of_beq_eq_true hb, eqNs_eq h]
  | [], _ :: _, h => by cases h
  | _ :: _, [], h => by cases h
theorem eqRep_spec {d d' : List AV} {c : Tr AV} : ∀ {n : Nat}, eqRep d c d' n = true → ∀ j, j < n → cellAt d' .nil j = cellAt d c j
  | 0, _, j, hj => by omega
  | n + 1, h, j, hj => by
    unfold eqRep at h
    cases hb : eqN 20 (cellAt d' .nil n) (cellAt d c n) with
    | false => rw [hb] at h; cases h
    | true =>
      rw [hb] at h
      by_cases hjn : j = n
      · subst hjn; exact eqN_eq 20 _ _ hb
      · exact eqRep_spec h j (by omega)
/- what is written down holds of the same place -/
theorem eqB_BR {x : LB} {b : Blk} (h : eqB x b = true) {μ : Mu} {w : World} {l : Loc} (hb : BR μ w l b) : BR μ w l x.blk ∧ RO x.blk = RO b := by
  unfold eqB at h
  split at h
  · next ty l' fz ex ty' n d c fz' ex' =>
    obtain ⟨h1, h⟩ := an_true h
    obtain ⟨h2, h⟩ := an_true h
    obtain ⟨h3, h⟩ := an_true h
    obtain ⟨h4, h5⟩ := an_true h
    have h1 := Nat.eq_of_beq_eq_true h1
    have h2 := Nat.eq_of_beq_eq_true h2
    have h3 := Nat.eq_of_beq_eq_true h3
    have h4 : ex = ex' := by simpa using h4
    subst h1 h2 h3 h4
    obtain ⟨cs, fr, q1, q2, q3, q4, q5, q6, q7, q8⟩ := hb
    refine ⟨⟨cs, fr, q1, q2, q3, q4, fun i hi => ?_, q6, q7, q8⟩, rfl⟩
    obtain ⟨x, s1, s2⟩ := q5 i hi
    refine ⟨x, s1, ?_⟩
    rw [cellAt_list hi]
    have := eqCs_spec h5 i hi
    rw [this, Nat.zero_add]
    exact s2
  · next ty n d' fz ex ty' m d c fz' ex' =>
    obtain ⟨h1, h⟩ := an_true h
    obtain ⟨h2, h⟩ := an_true h
    obtain ⟨h3, h⟩ := an_true h
    obtain ⟨h4, h5⟩ := an_true h
    have h1 := Nat.eq_of_beq_eq_true h1
    have h2 := Nat.eq_of_beq_eq_true h2
    have h3 := Nat.eq_of_beq_eq_true h3
    have h4 : ex = ex' := by simpa using h4
    subst h1 h2 h3 h4
    obtain ⟨cs, fr, q1, q2, q3, q4, q5, q6, q7, q8⟩ := hb
    refine ⟨⟨cs, fr, q1, q2, q3, q4, fun i hi => ?_, q6, q7, q8⟩, rfl⟩
    obtain ⟨x, s1, s2⟩ := q5 i hi
    exact ⟨x, s1, by rw [eqRep_spec h5 i hi]; exact s2⟩
  · next es bs cl es' bs' cl' =>
    obtain ⟨h1, h⟩ := an_true h
    obtain ⟨h2, h3⟩ := an_true h
    have h1 := eqEs_eq h1
    have h2 := eqNs_eq h2
    have h3 := Nat.eq_of_beq_eq_true h3
    subst h1 h2 h3
    exact ⟨hb, rfl⟩
  · cases h
theorem subL_get {m : Tr Blk} : ∀ {l : LH}, subL m l = true → ∀ b blk, (trL l).get b = some blk → ∃ x blk', (b, x) ∈ l ∧ blk = LB.blk x ∧ m.get b = some blk' ∧ eqB x blk' = true
  | [], _, b, blk, hb => by
    change (Tr.nil : Tr Blk).get b = some blk at hb
    rw [Tr.get_nil] at hb; cases hb
  | (a, x) :: l, h, b, blk, hb => by
    unfold subL at h
    cases hc : (match m.get a with | some blk => eqB x blk | none => false) with
    | false => rw [hc] at h; cases h
    | true =>
      rw [hc] at h
      unfold trL at hb
      rw [Tr.get_set] at hb
      split at hb
      · next e =>
        subst e
        cases hb
        split at hc
        · next blk' hg => exact ⟨x, blk', by simp, rfl, hg, hc⟩
        · cases hc
      · obtain ⟨x', blk', h1, h2, h3, h4⟩ := subL_get h b blk hb
        exact ⟨x', blk', by simp [h1], h2, h3, h4⟩
theorem delL_get {b : Nat} {blk : Blk} : ∀ {l : LH} {m : Tr Blk}, (delL m l).get b = some blk → m.get b = some blk ∧ ∀ x, (b, x) ∉ l
  | [], m, h => ⟨h, by simp⟩
  | (a, x) :: l, m, h => by
    obtain ⟨h1, h2⟩ := delL_get (l := l) (m := m.del a) h
    rw [Tr.get_del] at h1
    split at h1
    · cases h1
    · next hne =>
      refine ⟨h1, fun y hy => ?_⟩
      rcases List.mem_cons.1 hy with e | e
      · cases e; exact hne rfl
      · exact h2 y e
theorem setL_get {b : Nat} {blk : Blk} : ∀ {l : LH} {m : Tr Blk}, (setL m l).get b = some blk → (∃ x, (b, x) ∈ l ∧ blk = LB.blk x) ∨ m.get b = some blk
  | [], m, h => .inr h
  | (a, x) :: l, m, h => by
    unfold setL at h
    rw [Tr.get_set] at h
    split at h
    · next e => subst e; cases h; exact .inl ⟨x, by simp, rfl⟩
    · rcases setL_get h with ⟨y, h1, h2⟩ | h1
      · exact .inl ⟨y, by simp [h1], h2⟩
      · exact .inr h1
theorem subL_mem {m : Tr Blk} : ∀ {l : LH}, subL m l = true → ∀ b x, (b, x) ∈ l → ∃ blk', m.get b = some blk' ∧ eqB x blk' = true
  | [], _, b, x, hx => by cases hx
  | (a, y) :: l, h, b, x, hx => by
    unfold subL at h
    cases hc : (match m.get a with | some blk => eqB y blk | none => false) with
    | false => rw [hc] at h; cases h
    | true =>
      rw [hc] at h
      rcases List.mem_cons.1 hx with e | e
      · cases e
        split at hc
        · next blk' hg => exact ⟨blk', hg, hc⟩
        · cases hc
      · exact subL_mem h b x e
theorem trL_mem : ∀ {l : LH} {b : Nat} {x : LB}, (b, x) ∈ l → ∃ blk, (trL l).get b = some blk
  | (a, y) :: l, b, x, hx => by
    unfold trL
    rw [Tr.get_set]
    split
    · exact ⟨_, rfl⟩
    · next hne =>
      rcases List.mem_cons.1 hx with e | e
      · cases e; exact absurd rfl hne
      · exact trL_mem e

/- the call of a checkpoint, in the greater heap -/
theorem ck_frame {h : H} {μ μ' : Mu} {w w' : World} {h' : H} {c : Ck} (hr : HR h μ w) (hn : h.next ≤ c.n0) (hpre : subL h.m c.pre = true) :
    HR ⟨c.n0, trL c.pre⟩ μ w ∧ (Ext ⟨c.n0, trL c.pre⟩ μ w h' μ' w' → h'.next ≤ c.n1 → subL h'.m c.post = true → Ext h μ w ⟨c.n1, setL (delL h.m c.pre) c.post⟩ μ' w') := by
  have hget := fun b blk hb => subL_get hpre b blk hb
  have hrp : HR ⟨c.n0, trL c.pre⟩ μ w := by
    refine ⟨fun b blk hb => ?_, fun b b' blk blk' l l' hb hb' => ?_, fun b hb => hr.fresh b (Nat.le_trans hn hb), hr.gm⟩
    · obtain ⟨x, blk0, _, rfl, h3, h4⟩ := hget b blk hb
      obtain ⟨l, q1, q2, q3⟩ := hr.blk b blk0 h3
      exact ⟨l, q1, q2, (eqB_BR h4 q3).1⟩
    · obtain ⟨_, blk0, _, _, h3, _⟩ := hget b blk hb
      obtain ⟨_, blk0', _, _, h3', _⟩ := hget b' blk' hb'
      exact hr.inj b b' blk0 blk0' l l' h3 h3'
  have hown : ∀ B, Own ⟨c.n0, trL c.pre⟩ μ B → Own h μ B := fun B ⟨b, blk, l, h1, h2, h3⟩ => by
    obtain ⟨_, blk0, _, _, h4, _⟩ := hget b blk h1
    exact ⟨b, blk0, l, h4, h2, h3⟩
  have hfoot : ∀ B, Foot ⟨c.n0, trL c.pre⟩ μ B → Foot h μ B := fun B ⟨b, blk, l, h1, h0, h2, h3⟩ => by
    obtain ⟨x, blk0, _, rfl, h4, h5⟩ := hget b blk h1
    obtain ⟨l', q1, q2, q3⟩ := hr.blk b blk0 h4
    exact ⟨b, blk0, l, h4, by rw [← (eqB_BR h5 q3).2]; exact h0, h2, h3⟩
  refine ⟨hrp, fun hx hle hpost => ?_⟩
  -- a block of the new heap: written down behind the call, or one that the call did not have
  have hcase : ∀ b blk, (setL (delL h.m c.pre) c.post).get b = some blk → (∃ x blk', blk = LB.blk x ∧ h'.m.get b = some blk' ∧ eqB x blk' = true) ∨ (h.m.get b = some blk ∧ ∀ x, (b, x) ∉ c.pre) := fun b blk hb => by
    rcases setL_get hb with ⟨x, h1, h2⟩ | h1
    · obtain ⟨blk', h3, h4⟩ := subL_mem hpost b x h1
      exact .inl ⟨x, blk', h2, h3, h4⟩
    · obtain ⟨h2, h3⟩ := delL_get h1
      exact .inr ⟨h2, h3⟩
  have hout : ∀ b blk l, h.m.get b = some blk → (∀ x, (b, x) ∉ c.pre) → μ b = some l → ¬ Own ⟨c.n0, trL c.pre⟩ μ l.B := fun b blk l hb hno hl ⟨b0, blk0, l0, h1, h2, h3⟩ => by
    obtain ⟨x, blk1, hm, _, h4, _⟩ := hget b0 blk0 h1
    have := hr.inj b b0 blk blk1 l l0 hb h4 hl h2 h3.symm
    subst this
    exact hno x hm
  have hmix : ∀ b blk l b' blk' l', h'.m.get b = some blk → μ' b = some l → h.m.get b' = some blk' → (∀ x, (b', x) ∉ c.pre) → μ b' = some l' → l.B = l'.B → False := fun b blk l b' blk' l' h1 h2 h3 h4 h5 h6 => by
    obtain ⟨l2, q1, q2, _⟩ := hr.blk b' blk' h3
    rw [h5] at q1; cases q1
    rcases hx.own l.B ⟨b, blk, l, h1, h2, rfl⟩ with h7 | h7
    · rw [h6] at h7
      exact hout b' blk' l' h3 h4 h5 h7
    · omega
  refine ⟨hx.le, ⟨fun b blk hb => ?_, fun b b' blk blk' l l' hb hb' e1 e2 e3 => ?_, fun b hb => hx.hr.fresh b (Nat.le_trans hle hb), hx.hr.gm⟩, hx.sz, fun B hB hF => hx.keep B hB fun hF' => hF (hfoot B hF'), fun B ⟨b, blk, l, h1, h0, h2, h3⟩ => ?_, fun B ⟨b, blk, l, h1, h2, h3⟩ => ?_, Nat.le_trans hn (Nat.le_trans hx.nx hle), fun b hb => hx.dom b (Nat.lt_of_lt_of_le hb hn), hx.io⟩
  · rcases hcase b blk hb with ⟨x, blk', rfl, h3, h4⟩ | ⟨h1, h2⟩
    · obtain ⟨l, q1, q2, q3⟩ := hx.hr.blk b blk' h3
      exact ⟨l, q1, q2, (eqB_BR h4 q3).1⟩
    · obtain ⟨l, q1, q2, q3⟩ := hr.blk b blk h1
      exact ⟨l, hx.le _ _ q1, Nat.lt_of_lt_of_le q2 hx.sz, q3.congr hx.le (hx.keep _ q2 fun hF => hout b blk l h1 h2 q1 hF.own)⟩
  · have hmu : ∀ b blk l, h.m.get b = some blk → μ' b = some l → μ b = some l := fun b blk l hb hl => by
      obtain ⟨l', q1, _⟩ := hr.blk b blk hb
      rw [hx.le _ _ q1] at hl
      rw [q1, hl]
    rcases hcase b blk hb with ⟨x, blk1, _, h3, _⟩ | ⟨h1, h2⟩
    · rcases hcase b' blk' hb' with ⟨x', blk1', _, h3', _⟩ | ⟨h1', h2'⟩
      · exact hx.hr.inj b b' blk1 blk1' l l' h3 h3' e1 e2 e3
      · exact (hmix b blk1 l b' blk' l' h3 e1 h1' h2' (hmu b' blk' l' h1' e2) e3).elim
    · rcases hcase b' blk' hb' with ⟨x', blk1', _, h3', _⟩ | ⟨h1', h2'⟩
      · exact (hmix b' blk1' l' b blk l h3' e2 h1 h2 (hmu b blk l h1 e1) e3.symm).elim
      · exact hr.inj b b' blk blk' l l' h1 h1' (hmu b blk l h1 e1) (hmu b' blk' l' h1' e2) e3
  · rcases hcase b blk h1 with ⟨x, blk', rfl, q3, q4⟩ | ⟨q1, q2⟩
    · obtain ⟨l2, s1, s2, s3⟩ := hx.hr.blk b blk' q3
      rw [(eqB_BR q4 s3).2] at h0
      exact (hx.foot B ⟨b, blk', l, q3, h0, h2, h3⟩).imp (hfoot B) id
    · obtain ⟨l', s1, _⟩ := hr.blk b blk q1
      rw [hx.le _ _ s1] at h2
      cases h2
      exact .inl ⟨b, blk, l, q1, h0, s1, h3⟩
  · rcases hcase b blk h1 with ⟨x, blk', rfl, q3, q4⟩ | ⟨q1, q2⟩
    · exact (hx.own B ⟨b, blk', l, q3, h2, h3⟩).imp (hown B) id
    · obtain ⟨l', s1, _⟩ := hr.blk b blk q1
      rw [hx.le _ _ s1] at h2
      cases h2
      exact .inl ⟨b, blk, l, q1, s1, h3⟩

def CkR (P : Program) (f : FuncId) (c : Ck) : Prop := ∀ args h μ w (cargs : Array Value), HR h μ w → VRs μ args cargs.toList → ckIn args h c = true → Calls P f cargs w (RetR h μ w (.ok c.v ⟨c.n1, setL (delL h.m c.pre) c.post⟩))
theorem ck_call {P : Program} {hint : Nat → Nat} {ov : Nat → Option (List AV → H → R)} {lf n : Nat} {f : FuncId} {c : Ck} (hm : P.follows .mixedOrders = true) (hov : OvOK P ov) (hok : ckOk (evCall P hint ov lf n f) c = true) : CkR P f c := by
  intro args h μ w cargs hr hv hin
  unfold ckIn at hin
  obtain ⟨h1, hin⟩ := an_true hin
  obtain ⟨h2, h3⟩ := an_true hin
  have h1 := eqLs_eq (eqN_eq 20) _ _ h1
  have h2 := Nat.le_of_ble_eq_true h2
  have hrp := (ck_frame (μ' := μ) (w' := w) (h' := h) (c := c) hr h2 h3).1
  unfold ckOk at hok
  split at hok
  · next v h' he =>
    obtain ⟨q1, hok⟩ := an_true hok
    obtain ⟨q2, q3⟩ := an_true hok
    have q1 := eqN_eq 20 _ _ q1
    rw [← h1] at hv
    refine (eval_sound hm hov n f c.args _ μ w cargs _ hrp hv he (fun s hs => by cases hs)).mono fun e W' hx => ?_
    cases e with
    | returned cv =>
      obtain ⟨v', h'', μ', e1, e2, e3⟩ := hx
      cases e1
      exact ⟨c.v, _, μ', rfl, (ck_frame (c := c) hr h2 h3).2 e2 (Nat.le_of_ble_eq_true q2) q3, q1 ▸ e3⟩
    | panicked chain => obtain ⟨_, _, _, _, e1, _⟩ := hx; cases e1
    | outgrown => exact hx.elim
  · cases hok
theorem ckT_sound {P : Program} {f : FuncId} {g : List AV → H → R} (hfk : fk P f = 0) (hg : CallR P f g) : ∀ {l : List Ck}, (∀ c ∈ l, CkR P f c) → CallR P f (ckT g l)
  | [], _ => hg
  | c :: l, hl => fun args h μ w cargs r hr hv e hf => by
    unfold ckT at e
    cases hb : ckIn args h c with
    | false =>
      rw [hb] at e
      exact ckT_sound hfk hg (fun c hc => hl c (List.mem_cons_of_mem _ hc)) args h μ w cargs r hr hv e hf
    | true =>
      rw [hb] at e
      have e : (R.ok c.v ⟨c.n1, setL (delL h.m c.pre) c.post⟩) = r := e
      subst e
      rw [enter_run hfk]
      exact ⟨rfl, hl c (List.mem_cons_self ..) args h μ w cargs hr hv hb⟩
theorem ckNo_sound {P : Program} {f : FuncId} : CallR P f ckNo := fun _ _ _ _ _ _ _ _ e hf => (hf _ e.symm).elim
/- a function's own evaluation, for what no checkpoint tells of -/
theorem ev_callR {P : Program} {hint : Nat → Nat} {ov : Nat → Option (List AV → H → R)} {lf n : Nat} {f : FuncId} (hm : P.follows .mixedOrders = true) (hov : OvOK P ov) (hfk : fk P f = 0) : CallR P f (evCall P hint ov lf n f) :=
  fun args h μ w cargs r hr hv e hf => by
    rw [enter_run hfk]
    exact ⟨rfl, eval_sound hm hov n f args h μ w cargs r hr hv e hf⟩

/- a table of checkpoints ahead of other overrides -/
noncomputable def ovC (base : Nat → Option (List AV → H → R)) : List (Nat × List Ck) → Nat → Option (List AV → H → R)
  | [], f => base f
  | (g, cs) :: l, f => bif Nat.beq f g then some (ckT ckNo cs) else ovC base l f
def CkRs (P : Program) : List (Nat × List Ck) → Prop
  | [] => True
  | (g, cs) :: l => (fk P g = 0 ∧ ∀ c ∈ cs, CkR P g c) ∧ CkRs P l
theorem ovC_ok {P : Program} {base : Nat → Option (List AV → H → R)} (hb : OvOK P base) : ∀ {l : List (Nat × List Ck)}, CkRs P l → OvOK P (ovC base l)
  | [], _ => hb
  | (g, cs) :: l, h => fun f G e => by
    unfold ovC at e
    cases hg : Nat.beq f g with
    | true =>
      rw [hg] at e
      cases e
      have := Nat.eq_of_beq_eq_true hg
      subst this
      exact ckT_sound h.1.1 ckNo_sound h.1.2
    | false => rw [hg] at e; exact ovC_ok hb h.2 f G e
theorem ck_nil {P : Program} {f : Nat} : ∀ c ∈ ([] : List Ck), CkR P f c := fun _ h => by cases h
theorem ck_cons {P : Program} {f : Nat} {c : Ck} {l : List Ck} (h : CkR P f c) (hl : ∀ c ∈ l, CkR P f c) : ∀ d ∈ c :: l, CkR P f d := fun d hd => by
  rcases List.mem_cons.1 hd with e | e
  · exact e ▸ h
  · exact hl d e

end Go.Ev
