/- The abstract evaluator: its == is the model's. -/
import Derived.Test.YtkmlcncemcaidaaGreatDoorEvV
import Derived.Laws.StructEq
namespace Go.Ev
variable {P : Program} {w : World}

theorem part_sound {μ : Mu} {t : TypeId} {l : List AV} {cs : Array Value} (hv : VRs μ l cs.toList) (h1 : ∀ c ∈ cs.toList, one c = true) {o : Nat} {v : AV} (e : Ev.part P t l o = some v) :
    ∃ c, (Go.part t cs o).run P w = .ok c w ∧ VR μ v c := by
  unfold Ev.part at e
  cases ht : tk P t with
  | zero => rw [ht] at e; cases e
  | succ m =>
    rw [ht] at e
    cases m with
    | zero =>
      obtain ⟨_, _, _, hagg⟩ := tk_one (w := w) ht
      obtain ⟨c, hc, hv⟩ := hv.get o v e
      refine ⟨c, ?_, hv⟩
      have hc' : cs[o]? = some c := by simpa using hc
      simp [Go.part, hagg, hc']
    | succ m =>
      cases e
      obtain ⟨_, hu, hagg⟩ := tk_two (w := w) ht
      obtain ⟨i, hi⟩ := info_of_underlying hu
      refine ⟨.agg (cs.extract o (o + szOf P t)), ?_, .agg _ _ ?_ ?_⟩
      · simp [Go.part, hagg, run_sizeOf hi]
      · have : (cs.extract o (o + szOf P t)).toList = (cs.toList.drop o).take (szOf P t) := by
          rw [Array.toList_extract]; simp [List.extract, Nat.add_sub_cancel_left]
        rw [this]
        exact (hv.drop o).take _
      · intro c hc
        have : (cs.extract o (o + szOf P t)).toList = (cs.toList.drop o).take (szOf P t) := by
          rw [Array.toList_extract]; simp [List.extract, Nat.add_sub_cancel_left]
        rw [this] at hc
        exact h1 c (List.mem_of_mem_drop (List.mem_of_mem_take hc))

theorem fz_row {h : H} {μ : Mu} (hr : HR h μ w) {b : Nat} (e : Nat.beq (fzOf h b) 0 = true) : ∃ l c ty, μ b = some l ∧ (∃ blk, h.m.get b = some blk) ∧ w.heap[l.B]? = some (.cells c ty (0, 0)) := by
  unfold fzOf at e
  split at e
  · next fz _ hg =>
    have h0 := Nat.eq_of_beq_eq_true e
    obtain ⟨l, c, fr, R⟩ := hr.row hg
    exact ⟨l, c, _, R.mu, ⟨_, hg⟩, by rw [← R.hfz0 h0]; exact R.heap⟩
  · cases e
theorem same_apart {a b : Addr} {c c' : Array Value} {ty ty' : TypeId} (ha : w.heap[a.block]? = some (.cells c ty (0, 0))) (hb : w.heap[b.block]? = some (.cells c' ty' (0, 0)))
    (hne : a.block ≠ b.block) : (sameAddr a b).run P w = .ok false w := by
  have fa : ∀ o, w.frozen? ⟨a.block, o, none⟩ = false := fun o => by simp [World.frozen?, ha]
  have fb : ∀ o, w.frozen? ⟨b.block, o, none⟩ = false := fun o => by simp [World.frozen?, hb]
  have fa' : w.frozen? a = false := by simp [World.frozen?, ha]
  have fb' : w.frozen? b = false := by simp [World.frozen?, hb]
  have sa : w.shape? a.block = some (ty, c.size) := by simp [World.shape?, ha]
  have sb : w.shape? b.block = some (ty', c'.size) := by simp [World.shape?, hb]
  have hbeq : (a.block == b.block) = false := by simpa using hne
  simp [sameAddr, hbeq, fa', fb', noView, viewAt, sa, sb, mayBeOne, stringish, fa, fb]

set_option maxHeartbeats 1000000 in
theorem eqA_sound {h : H} {μ : Mu} (hr : HR h μ w) : ∀ (d : Nat) (t : TypeId) (x y : AV) (cx cy : Value) (b : Bool) (D : Nat), d ≤ D → VR μ x cx → VR μ y cy → eqA P h d t x y = some b →
    (Op.equalIn D t cx cy).run P w = .ok b w := by
  intro d
  induction d with
  | zero => intro t x y cx cy b D _ _ _ e; simp [eqA] at e
  | succ d ih =>
    intro t x y cx cy b D hD hx hy e
    obtain ⟨D, rfl⟩ : ∃ m, D = m + 1 := ⟨D - 1, by omega⟩
    unfold eqA at e
    split at e
    · next ht => cases hx; cases hy; cases e; simp [Op.equalIn, run_underlying (desc_eq ht (by simp))]
    · next k ht =>
      cases hx; cases hy
      split at e
      · next hk => cases e; subst hk; simp [Op.equalIn, run_underlying (desc_eq ht (by simp)), eqI_eq]
      · cases e
    · next ht => cases hx; cases hy; cases e; simp [Op.equalIn, run_underlying (desc_eq ht (by simp))]
    · next ht =>
      cases hx with | str s _ _ h1 h2 =>
      cases hy with | str u _ _ h3 h4 =>
      subst h1 h2 h3 h4
      cases e
      rw [strEq_pk]
      simp [Op.equalIn, run_underlying (desc_eq ht (by simp)), beq_toListBytes, ByteArray.toList_eq]
    · next ht => cases hx; cases hy; cases e; simp [Op.equalIn, run_underlying (desc_eq ht (by simp))]
    · next ht => cases hx; cases hy; cases e; simp [Op.equalIn, run_underlying (desc_eq ht (by simp))]
    · next ht => cases hx; cases hy; cases e; simp [Op.equalIn, run_underlying (desc_eq ht (by simp))]
    · next el a o b' p ht =>
      obtain ⟨la, hla, rfl⟩ := hx.ptr_inv
      obtain ⟨lb, hlb, rfl⟩ := hy.ptr_inv
      cases hz : Nat.beq (szOf P el) 0 with
      | true => rw [hz] at e; cases e
      | false =>
        rw [hz] at e
        have hnz : ¬ szOf P el = 0 := fun h0 => by rw [h0] at hz; cases hz
        have hi : ∃ i, P.info? el = some i := by
          cases hi : P.info? el with
          | none => exact absurd (by simp [szOf, hi]) hnz
          | some i => exact ⟨i, rfl⟩
        obtain ⟨i, hi⟩ := hi
        have run : (Op.equalIn (D + 1) t (.pointer (some ⟨la.B, la.δ + o, none⟩)) (.pointer (some ⟨lb.B, lb.δ + p, none⟩))).run P w = (sameAddr ⟨la.B, la.δ + o, none⟩ ⟨lb.B, lb.δ + p, none⟩).run P w := by
          simp [Op.equalIn, run_underlying (desc_eq ht (by simp)), run_sizeOf hi, hnz]
        rw [run]
        cases hab : Nat.beq a b' with
        | true =>
          rw [hab] at e
          have hab := Nat.eq_of_beq_eq_true hab
          subst hab
          rw [hla] at hlb; cases hlb
          cases e
          simp only [sameAddr, beq_self_eq_true, if_true]
          simp only [Sem.run_pure]
          congr 1
          rw [Bool.eq_iff_iff]
          constructor
          · intro h
            have h := beq_iff_eq.1 h
            injection h with _ h2 _
            have : o = p := by omega
            subst this; exact Nat.beq_refl o
          · intro h
            have h := Nat.eq_of_beq_eq_true h
            subst h
            exact beq_self_eq_true _
        | false =>
          rw [hab] at e
          have hne : a ≠ b' := fun h => by subst h; rw [Nat.beq_refl] at hab; cases hab
          cases hfz : an (Nat.beq (fzOf h a) 0) (Nat.beq (fzOf h b') 0) with
          | false => rw [hfz] at e; cases e
          | true =>
            rw [hfz] at e; cases e
            obtain ⟨f1, f2⟩ := an_true hfz
            obtain ⟨l1, c1, t1, m1, ⟨blk1, g1⟩, r1⟩ := fz_row hr f1
            obtain ⟨l2, c2, t2, m2, ⟨blk2, g2⟩, r2⟩ := fz_row hr f2
            rw [hla] at m1; cases m1
            rw [hlb] at m2; cases m2
            exact same_apart r1 r2 fun hB => hne (hr.inj a b' blk1 blk2 la lb g1 g2 hla hlb hB)
    · next ht => cases hx; cases hy; cases e; simp [Op.equalIn, run_underlying (desc_eq ht (by simp))]
    · next ht => cases hx; cases hy; cases e; simp [Op.equalIn, run_underlying (desc_eq ht (by simp))]
    · next ht => cases hx; cases hy; cases e; simp [Op.equalIn, run_underlying (desc_eq ht (by simp))]
    · next t1 a t2 b' ht =>
      cases hx with | iface _ _ ca ha =>
      cases hy with | iface _ _ cb hb =>
      cases htt : Nat.beq t1 t2 with
      | false =>
        rw [htt] at e; cases e
        have hne : t1 ≠ t2 := fun h => by subst h; rw [Nat.beq_refl] at htt; cases htt
        simp [Op.equalIn, run_underlying (desc_eq ht (by simp)), hne]
      | true =>
        rw [htt] at e
        have htt := Nat.eq_of_beq_eq_true htt
        subst htt
        simp only [cond_true] at e
        split at e
        · next i hi =>
          cases hc : i.comparable with
          | false => rw [hc] at e; cases e
          | true =>
            rw [hc] at e
            have := ih t1 a b' ca cb b D (by omega) ha hb e
            simp [Op.equalIn, run_underlying (desc_eq ht (by simp)), run_typeInfo hi, hc, this]
        · cases e
    · next fs xs ys ht =>
      cases hx with | agg _ ca ha h1 =>
      cases hy with | agg _ cb hb h2 =>
      cases hp : P.stoodInHeld t with
      | true => rw [hp] at e; cases e
      | false =>
        rw [hp] at e
        have hu := desc_eq ht (by simp)
        have hfs : P.fieldsOf t = fs := by simp [Program.fieldsOf, hu]
        rw [run_equalIn_struct w D t ca cb (by rw [hfs]; exact hu) hp, hfs]
        simp only [cond_false] at e
        have key : ∀ (fl : List Field) (b : Bool), eqF P (eqA P h d) xs ys fl = some b → (Op.eqFields D ca cb fl).run P w = .ok b w := by
          intro fl
          induction fl with
          | nil => intro b e; cases e; rfl
          | cons f fl ihf =>
            intro b e
            unfold eqF at e
            unfold Op.eqFields
            split at e
            · next hn => simp [hn, ihf b e]
            · next hn =>
              simp only [ne_eq, hn, not_false_eq_true, if_true]
              split at e
              · next a b' hpa hpb =>
                obtain ⟨c1, r1, v1⟩ := part_sound (P := P) (w := w) ha h1 hpa
                obtain ⟨c2, r2, v2⟩ := part_sound (P := P) (w := w) hb h2 hpb
                split at e
                · next heq =>
                  have := ih f.type a b' c1 c2 true D (by omega) v1 v2 heq
                  simp [r1, r2, this, ihf b e]
                · next hnt =>
                  cases b with
                  | true => exact absurd e hnt
                  | false =>
                    have := ih f.type a b' c1 c2 false D (by omega) v1 v2 e
                    simp [r1, r2, this]
              · cases e
        exact key _ _ e
    · next ht => cases hx; cases hy; cases e; simp [Op.equalIn, run_underlying (desc_eq ht (by simp))]
    · next ht => cases hx; cases hy; cases e; simp [Op.equalIn, run_underlying (desc_eq ht (by simp))]
    · next ht => cases hx; cases hy; cases e; simp [Op.equalIn, run_underlying (desc_eq ht (by simp))]
    · next ht => cases hx; cases hy; cases e; simp [Op.equalIn, run_underlying (desc_eq ht (by simp))]
    · next ht => cases hx; cases hy; cases e; simp [Op.equalIn, run_underlying (desc_eq ht (by simp))]
    · next ht => cases hx; cases hy; cases e; simp [Op.equalIn, run_underlying (desc_eq ht (by simp))]
    · next ht => cases hx; cases hy; cases e; simp [Op.equalIn, run_underlying (desc_eq ht (by simp))]
    · next ht => cases hx; cases hy; cases e; simp [Op.equalIn, run_underlying (desc_eq ht (by simp))]
    · next ht => cases hx; cases hy; cases e; simp [Op.equalIn, run_underlying (desc_eq ht (by simp))]
    · next ht => cases hx; cases hy; cases e; simp [Op.equalIn, run_underlying (desc_eq ht (by simp))]
    · next ht => cases hx; cases hy; cases e; simp [Op.equalIn, run_underlying (desc_eq ht (by simp))]
    · cases e

/- the guard of == -/
theorem guard_nil {op : BinOp} {t : TypeId} {xo yo : Operand} (hc : (isConst xo || isConst yo) = true) : (eqGuard op t xo yo .nilIface .nilIface).run P w = .ok () w := by
  cases op <;> cases xo <;> cases yo <;> first | (simp [isConst] at hc; done) | simp [eqGuard]
theorem guard_other {op : BinOp} {t : TypeId} {xo yo : Operand} {cx cy : Value} (h1 : cx = .nilIface → cy = .nilIface → False) (h2 : ∀ a b, cx = .agg a → cy = .agg b → False) :
    (eqGuard op t xo yo cx cy).run P w = .ok () w := by
  cases op <;> first
    | rfl
    | (unfold eqGuard
       simp only [Bool.not_true, Bool.false_eq_true, if_false]
       rfl)
theorem guard_sound {μ : Mu} {op : BinOp} {t : TypeId} {xo yo : Operand} {x y : AV} {cx cy : Value} (hx : VR μ x cx) (hy : VR μ y cy) (hg : guardOk P t xo yo x y = true) :
    (eqGuard op t xo yo cx cy).run P w = .ok () w := by
  unfold guardOk at hg
  split at hg
  · cases hx; cases hy; exact guard_nil hg
  · cases hx; cases hy
    exact run_eqGuard_agg w op t xo yo _ _ (by simpa using hg)
  · cases hg
  · cases hg
  · next h1 h2 h3 h4 =>
    refine guard_other (fun e1 e2 => ?_) (fun a b e1 e2 => ?_)
    · subst e1; subst e2
      cases hx <;> cases hy <;> first | exact h1 rfl | exact h2 rfl | exact h3 rfl rfl
    · subst e1; subst e2
      cases hx <;> cases hy <;> first | exact h1 rfl | exact h2 rfl | exact h4 _ _ rfl rfl

theorem binO_sound {h : H} {μ : Mu} (hr : HR h μ w) {op : BinOp} {t : TypeId} {xo yo : Operand} {x y : AV} {cx cy : Value} (hx : VR μ x cx) (hy : VR μ y cy) {c : KV} {r : R} (hf : Fin r)
    (hn1 : ∀ k a k' b, x = .int k a → y = .int k' b → False) (hn2 : ∀ k a k' b, x = .str k a → y = .str k' b → False) (hn3 : ∀ a b, x = .flt a → y = .flt b → False)
    (e : binO P op t xo yo x y h c = r) :
    ∃ v cv, (do eqGuard op t xo yo cx cy; binOp op t cx cy : Sem Value).run P w = .ok cv w ∧ VR μ v cv ∧ c v h = r := by
  have main : ∀ b, eqG P h t xo yo x y = some b → (op = .eql ∨ op = .neq) → (eqGuard op t xo yo cx cy).run P w = .ok () w ∧ (Op.equal t cx cy).run P w = .ok b w ∧ x ≠ .bad ∧ y ≠ .bad := by
    intro b hb hop
    unfold eqG at hb
    cases hg : guardOk P t xo yo x y with
    | false => rw [hg] at hb; cases hb
    | true =>
      rw [hg] at hb
      refine ⟨guard_sound hx hy hg, eqA_sound hr 100 t x y cx cy b 10000 (by decide) hx hy hb, ?_, ?_⟩
      · rintro rfl; cases y <;> simp [guardOk] at hg
      · rintro rfl; cases x <;> simp [guardOk] at hg
  have sp : ∀ op, (op = .eql ∨ op = .neq) → x ≠ .bad → y ≠ .bad → binOp op t cx cy = (do let b ← Op.equal t cx cy; pure (.bool (if op = .eql then b else !b))) := by
    intro op hop h1 h2
    rcases hop with rfl | rfl <;> cases hx <;> cases hy <;> first
      | rfl
      | (exact absurd rfl h1)
      | (exact absurd rfl h2)
      | (exact (hn1 _ _ _ _ rfl rfl).elim)
      | (exact (hn2 _ _ _ _ rfl rfl).elim)
      | (exact (hn3 _ _ rfl rfl).elim)
  unfold binO at e
  split at e
  · split at e
    · next b hb =>
      obtain ⟨h1, h2, h3, h4⟩ := main b hb (.inl rfl)
      refine ⟨_, _, ?_, .bool _, e⟩
      rw [sp .eql (.inl rfl) h3 h4]
      simp [h1, h2]
    · exact hf.no e
  · split at e
    · next b hb =>
      obtain ⟨h1, h2, h3, h4⟩ := main b hb (.inr rfl)
      refine ⟨_, _, ?_, .bool _, e⟩
      rw [sp .neq (.inr rfl) h3 h4]
      simp [h1, h2, nt_eq]
    · exact hf.no e
  · exact hf.no e

theorem binA_sound {h : H} {μ : Mu} (hr : HR h μ w) {op : BinOp} {t : TypeId} {xo yo : Operand} {x y : AV} {cx cy : Value} (hx : VR μ x cx) (hy : VR μ y cy) {c : KV} {r : R} (hf : Fin r)
    (e : binA P op t xo yo x y h c = r) :
    ∃ v cv, (do eqGuard op t xo yo cx cy; binOp op t cx cy : Sem Value).run P w = .ok cv w ∧ VR μ v cv ∧ c v h = r := by
  unfold binA at e
  split at e
  · cases hx; cases hy
    obtain ⟨v, cv, h1, h2, h3⟩ := binI_sound (P := P) (w := w) (μ := μ) t hf e
    refine ⟨v, cv, ?_, h2, h3⟩
    simp only [Sem.run_bind]
    rw [guard_other (fun e => by cases e) (fun _ _ e => by cases e), Result.andThen_ok, h1]
  · cases hx with | str s _ _ e1 e2 =>
    cases hy with | str u _ _ e3 e4 =>
    subst e1 e2 e3 e4
    obtain ⟨v, cv, h1, h2, h3⟩ := binS_sound (P := P) (w := w) (μ := μ) t hf e
    refine ⟨v, cv, ?_, h2, h3⟩
    simp only [Sem.run_bind]
    rw [guard_other (fun e => by cases e) (fun _ _ e => by cases e), Result.andThen_ok, h1]
  · cases hx; cases hy
    obtain ⟨v, cv, h1, h2, h3⟩ := binF_sound (P := P) (w := w) (μ := μ) t hf e
    refine ⟨v, cv, ?_, h2, h3⟩
    simp only [Sem.run_bind]
    rw [guard_other (fun e => by cases e) (fun _ _ e => by cases e), Result.andThen_ok, h1]
  · next h1 h2 h3 => exact binO_sound hr hx hy hf h1 h2 h3 e

end Go.Ev
