/- The abstract evaluator: entries of maps, iterators. -/
import Derived.Test.YtkmlcncemcaidaaGreatDoorEvL
import Derived.Maps.RangeRun
namespace Go.Ev
variable {P : Program} {w : World}

theorem modify_congr {α : Type} {f g : α → α} : ∀ {l : List α} {j : Nat} {m : α}, l[j]? = some m → f m = g m → l.modify j f = l.modify j g
  | [], j, m, h, _ => by simp at h
  | a :: l, 0, m, h, e => by simp at h; subst h; simp [e]
  | a :: l, j + 1, m, h, e => by
    simp only [List.modify_succ_cons]
    rw [modify_congr (by simpa using h) e]
theorem memB_iff {b : Nat} : ∀ {l : List Nat}, memB b l = true ↔ b ∈ l
  | [] => by simp [memB]
  | x :: l => by
    unfold memB
    cases hb : Nat.beq x b with
    | true => simp [Nat.eq_of_beq_eq_true hb]
    | false =>
      have : ¬ b = x := fun e => by subst e; simp at hb
      simp [memB_iff (l := l), this]
theorem nodB_nodup : ∀ {l : List Nat}, nodB l = true → l.Nodup
  | [], _ => .nil
  | x :: l, h => by
    unfold nodB at h
    cases hb : memB x l with
    | true => rw [hb] at h; cases h
    | false =>
      rw [hb] at h
      refine List.nodup_cons.2 ⟨fun hm => ?_, nodB_nodup h⟩
      rw [memB_iff.2 hm] at hb; cases hb
theorem bIdx_get {b : Nat} : ∀ {ms : List MapEntry}, memB b (ms.map (·.born)) = true → ∃ m, ms[bIdx b (ms.map (·.born))]? = some m ∧ m.born = b
  | [], h => by cases h
  | m :: ms, h => by
    simp only [List.map_cons] at h ⊢
    unfold memB at h
    unfold bIdx
    cases hb : Nat.beq m.born b with
    | true => exact ⟨m, rfl, Nat.eq_of_beq_eq_true hb⟩
    | false =>
      rw [hb] at h
      simpa using bIdx_get h
theorem bIdx_find {b : Nat} : ∀ {ms : List MapEntry}, memB b (ms.map (·.born)) = true → ms.findIdx? (fun e => (e.born : Int) == (b : Int)) = some (bIdx b (ms.map (·.born)))
  | [], h => by cases h
  | m :: ms, h => by
    simp only [List.map_cons] at h ⊢
    unfold memB at h
    unfold bIdx
    rw [List.findIdx?_cons]
    cases hb : Nat.beq m.born b with
    | true =>
      have : (((m.born : Int) == (b : Int))) = true := by rw [Nat.eq_of_beq_eq_true hb]; simp
      simp [this]
    | false =>
      rw [hb] at h
      have hne : m.born ≠ b := fun e => by subst e; simp at hb
      have : (((m.born : Int) == (b : Int))) = false := by rw [beq_eq_false_iff_ne]; omega
      simp [this, bIdx_find h]
theorem findA (ms : Array MapEntry) (p : MapEntry → Bool) : ms.findIdx? p = ms.toList.findIdx? p := by
  obtain ⟨l⟩ := ms
  simp
theorem put_VRs {μ : Mu} {v : AV} {cv : Value} (hv : VR μ v cv) : ∀ (i : Nat) (es : List (AV × AV)) (ms : List MapEntry), VRs μ (es.map (·.1)) (ms.map (·.key)) → VRs μ (es.map (·.2)) (ms.map (·.val)) →
    VRs μ ((mpPut v i es).map (·.1)) ((ms.modify i fun e => { e with val := cv }).map (·.key)) ∧ VRs μ ((mpPut v i es).map (·.2)) ((ms.modify i fun e => { e with val := cv }).map (·.val))
  | i, [], ms, h1, h2 => by
    have : ms = [] := by have := h1.length; simp at this; exact List.length_eq_zero_iff.1 this.symm
    subst this
    cases i <;> exact ⟨.nil, .nil⟩
  | i, (a, x) :: es, [], h1, h2 => by have := h1.length; simp at this
  | 0, (a, x) :: es, m :: ms, h1, h2 => by
    simp only [List.map_cons] at h1 h2
    cases h1 with | cons _ _ _ _ ha h1 =>
    cases h2 with | cons _ _ _ _ hx h2 =>
    exact ⟨.cons _ _ _ _ ha h1, .cons _ _ _ _ hv h2⟩
  | i + 1, (a, x) :: es, m :: ms, h1, h2 => by
    simp only [List.map_cons] at h1 h2
    cases h1 with | cons _ _ _ _ ha h1 =>
    cases h2 with | cons _ _ _ _ hx h2 =>
    obtain ⟨q1, q2⟩ := put_VRs hv i es ms h1 h2
    simp only [mpPut, List.modify_succ_cons, List.map_cons]
    exact ⟨.cons _ _ _ _ ha q1, .cons _ _ _ _ hx q2⟩
theorem mentA_sound {h : H} {μ : Mu} (hr : HR h μ w) {t : TypeId} {m k : AV} {cm ck : Value} (hm : VR μ m cm) (hk : VR μ k ck) {c : KV} {r : R} (hf : Fin r) (e : mentA P t m k h c = r) : Out P (Instr.mapEntry t cm ck) h μ w c r := by
  unfold mentA at e
  split at e
  · next kt el b hmt =>
    have hu := mapT_inv hmt
    obtain ⟨hko, e1⟩ := cond_fail hf e
    clear e
    split at e1
    · next es bs cl hg =>
      cases hm with | map _ l hl =>
      obtain ⟨l', h0, hlt, ms, hB, hk1, hk2, hk3⟩ := hr.blk _ _ hg
      rw [hl] at h0; cases h0
      obtain ⟨d, hd, hck⟩ := keyOk_check (P := P) (w := w) hk hko false
      split at e1
      · next v hfd =>
        rcases find_sound hk hko hd es ms.toList 0 _ hk1 hk2 hfd with ⟨r1, _, _⟩ | ⟨v', j, m', r1, r2, r3, r4, r5, r6, r7, r8, r9, r10⟩
        · cases r1
        · cases r1
          have hfk : (Instr.findKey kt ck ms.toList).run P w = .ok (some (0 + j, m'.val)) w := by simp [Instr.findKey, run_underlying hd, r5]
          have hj : ms[j]? = some m' := by simpa using r2
          split at e1
          · next b' hb' =>
            have hbb : b' = m'.born := by
              rw [r9, ← hk3, List.getElem?_map, r2] at hb'
              simpa using hb'.symm
            subst hbb
            obtain ⟨s1, s2⟩ := r6 v m'.val r3
            have hmc : ms.toList.modify j (fun e => { e with key := ck }) = ms.toList.modify j (fun e => { e with key := ck, val := m'.val }) := modify_congr r2 rfl
            refine ⟨_, .tuple #[m'.val, goInt m'.born], _, _, _, ?_, Ext.map hr hg hl (ms.modify j fun e => { e with key := ck }) ?_ ?_ ?_, .tup _ _ (.cons _ _ _ _ r3 (.cons _ _ _ _ (.int _ _) .nil)), e1⟩
            · simp only [Instr.mapEntry, Sem.run_bind, run_underlying hu, Result.andThen_ok, run_getObj hB, hck, hfk, Nat.zero_add, hj, Option.map_some, Option.getD_some, Instr.keyThatStays, r4, if_true, Sem.run_pure, run_setObj hB]
            · rw [Array.toList_modify, hmc]; exact s1
            · rw [Array.toList_modify, hmc]; exact s2
            · rw [Array.toList_modify, modify_born (f := fun e => { e with key := ck }) (fun _ => rfl)]; exact hk3
          · exact hf.no e1
      · next hfd =>
        rcases find_sound hk hko hd es ms.toList 0 _ hk1 hk2 hfd with ⟨r1, r2, r3⟩ | ⟨v', j, m', r1, _⟩
        · have hfk : (Instr.findKey kt ck ms.toList).run P w = .ok none w := by simp [Instr.findKey, run_underlying hd, r2]
          split at e1
          · next z hz =>
            obtain ⟨cv, hzr, hzv⟩ := zv_inv (P := P) (w := w) hz μ
            refine ⟨_, .tuple #[cv, goInt cl], _, _, _, ?_, Ext.map hr hg hl (ms.push { key := ck, val := cv, born := cl }) ?_ ?_ ?_, .tup _ _ (.cons _ _ _ _ hzv (.cons _ _ _ _ (.int _ _) .nil)), e1⟩
            · simp only [Instr.mapEntry, Sem.run_bind, run_underlying hu, Result.andThen_ok, run_getObj hB, hck, hfk, hzr, run_setObj hB, Sem.run_pure]
            · simp only [List.map_append, Array.toList_push, List.map_cons, List.map_nil]; exact hk1.append (.cons _ _ _ _ hk .nil)
            · simp only [List.map_append, Array.toList_push, List.map_cons, List.map_nil]; exact hk2.append (.cons _ _ _ _ hzv .nil)
            · simp only [List.map_append, Array.toList_push, List.map_cons, List.map_nil, hk3]
          · exact hf.no e1
        · cases r1
      · exact hf.no e1
    · exact hf.no e1
  · exact hf.no e
theorem mstoA_sound {h : H} {μ : Mu} (hr : HR h μ w) {t : TypeId} {m s v : AV} {cm cs cv : Value} (hm : VR μ m cm) (hs : VR μ s cs) (hv : VR μ v cv) {c : KV} {r : R} (hf : Fin r) (e : mstoA m s v h c = r) :
    ∃ w' h', (Instr.entryStore t cm cs cv).run P w = .ok () w' ∧ Ext h μ w h' μ w' ∧ c (.tup []) h' = r := by
  unfold mstoA at e
  split at e
  · next b k n =>
    split at e
    · next es bs cl hg =>
      obtain ⟨hmb, e1⟩ := cond_fail hf e
      cases hm with | map _ l hl =>
      cases hs
      obtain ⟨l', h0, hlt, ms, hB, hk1, hk2, hk3⟩ := hr.blk _ _ hg
      rw [hl] at h0; cases h0
      rw [← hk3] at hmb
      have hfi := bIdx_find hmb
      have hfi' : ms.findIdx? (fun e => (e.born : Int) == (n : Int)) = some (bIdx n (ms.toList.map (·.born))) := by
        rw [← hfi, findA]
      obtain ⟨q1, q2⟩ := put_VRs hv (bIdx n (ms.toList.map (·.born))) es ms.toList hk1 hk2
      rw [hk3] at hfi' q1 q2
      refine ⟨_, _, ?_, Ext.map hr hg hl (ms.modify (bIdx n bs) fun e => { e with val := cv }) ?_ ?_ ?_, e1⟩
      · unfold Instr.entryStore
        simp [Sem.run_bind, Result.andThen_ok, run_getObj hB, asInt, asIntOf, hfi', run_setObj hB]
      · rw [Array.toList_modify]; exact q1
      · rw [Array.toList_modify]; exact q2
      · rw [Array.toList_modify, modify_born (f := fun e => { e with val := cv }) (fun _ => rfl)]; exact hk3
    · exact hf.no e
  · exact hf.no e
theorem rangeA_sound {h : H} {μ : Mu} (hr : HR h μ w) {t : TypeId} {x : AV} {cx : Value} (hx : VR μ x cx) {c : KV} {r : R} (hf : Fin r) (e : rangeA P t x h c = r) : Out P (Instr.range t cx) h μ w c r := by
  unfold rangeA at e
  split at e
  · next mt hmt =>
    obtain ⟨kt, el⟩ := mt
    have hu := mapT_inv hmt
    cases hx
    have hxn := Ext.new hr (.mapIter none 0 #[] 0) (.it none 0 [] 0) ⟨w.heap.size, 0, 0, 0⟩ rfl ⟨rfl, none, alloc_get w _, fun _ => rfl, fun r h => by cases h⟩
    refine ⟨_, _, _, _, _, ?_, hxn, .ptr h.next 0 _ (upd_same _ _ _), e⟩
    simp [Instr.range, run_underlying hu]
  · next mt b hmt =>
    obtain ⟨kt, el⟩ := mt
    have hu := mapT_inv hmt
    split at e
    · next es bs cl ro hg =>
      cases hx with | map _ l hl =>
      obtain ⟨l', h0, hlt, ms, hB, hk1, hk2, hk3⟩ := hr.blk _ _ hg
      rw [hl] at h0; cases h0
      have hne : b ≠ h.next := fun e => by rw [e, hr.fresh _ (Nat.le_refl _)] at hl; cases hl
      have hxn := Ext.new hr (.mapIter (some l.B) cl #[] cl) (.it (some b) cl [] cl) ⟨w.heap.size, 0, 0, 0⟩ rfl ⟨rfl, some l.B, alloc_get w _, (fun h => by cases h), fun r h => by
        cases h
        exact ⟨l, by rw [upd_ne _ _ _ hne]; exact hl, rfl⟩⟩
      refine ⟨_, _, _, _, _, ?_, hxn, .ptr h.next 0 _ (upd_same _ _ _), e⟩
      simp [Instr.range, run_underlying hu, run_getObj hB]
    · exact hf.no e
  · exact hf.no e

/-! every order -/
theorem eqLs_eq {f : AV → AV → Bool} (hf : ∀ x y, f x y = true → x = y) : ∀ (l m : List AV), eqLs f l m = true → l = m
  | [], [], _ => rfl
  | a :: l, b :: m, h => by
    unfold eqLs at h
    cases hb : f a b with
    | false => rw [hb] at h; cases h
    | true => rw [hb] at h; rw [hf a b hb, eqLs_eq hf l m h]
  | [], _ :: _, h => by cases h
  | _ :: _, [], h => by cases h
theorem eqI_eq' {a b : Int} (h : eqI a b = true) : a = b := by
  cases a <;> cases b
  · exact congrArg _ (Nat.eq_of_beq_eq_true h)
  · cases h
  · cases h
  · exact congrArg _ (Nat.eq_of_beq_eq_true h)
theorem eqN_eq : ∀ (n : Nat) (x y : AV), eqN n x y = true → x = y
  | 0, _, _, h => by cases h
  | n + 1, x, y, h => by
    unfold eqN at h
    split at h
    · rfl
    · next a b => have : a = b := by simpa using h
                  rw [this]
    · next k a k' b =>
      obtain ⟨h1, h2⟩ := an_true h
      have h1 : k = k' := by simpa using h1
      rw [h1, eqI_eq' h2]
    · rw [Nat.eq_of_beq_eq_true h]
    · obtain ⟨h1, h2⟩ := an_true h
      rw [Nat.eq_of_beq_eq_true h1, Nat.eq_of_beq_eq_true h2]
    · rfl
    · obtain ⟨h1, h2⟩ := an_true h
      rw [Nat.eq_of_beq_eq_true h1, Nat.eq_of_beq_eq_true h2]
    · obtain ⟨h1, h2⟩ := an_true h
      obtain ⟨h2, h3⟩ := an_true h2
      obtain ⟨h3, h4⟩ := an_true h3
      rw [Nat.eq_of_beq_eq_true h1, Nat.eq_of_beq_eq_true h2, Nat.eq_of_beq_eq_true h3, Nat.eq_of_beq_eq_true h4]
    · obtain ⟨h1, h2⟩ := an_true h
      obtain ⟨h2, h3⟩ := an_true h2
      obtain ⟨h3, h4⟩ := an_true h3
      rw [Nat.eq_of_beq_eq_true h1, Nat.eq_of_beq_eq_true h2, Nat.eq_of_beq_eq_true h3, Nat.eq_of_beq_eq_true h4]
    · rfl
    · rw [Nat.eq_of_beq_eq_true h]
    · rfl
    · obtain ⟨h1, h2⟩ := an_true h
      obtain ⟨h2, h3⟩ := an_true h2
      rw [Nat.eq_of_beq_eq_true h1, eqLs_eq (eqN_eq n) _ _ h2, eqLs_eq (eqN_eq n) _ _ h3]
    · rfl
    · obtain ⟨h1, h2⟩ := an_true h
      rw [Nat.eq_of_beq_eq_true h1, eqN_eq n _ _ h2]
    · rfl
    · rw [eqLs_eq (eqN_eq n) _ _ h]
    · rw [eqLs_eq (eqN_eq n) _ _ h]
    · cases h
theorem eqR_eq {a b : R} (h : eqR a b = true) : a = b := by
  unfold eqR at h
  split at h
  · obtain ⟨h1, h2⟩ := an_true h
    rw [Nat.eq_of_beq_eq_true h1, eqN_eq 20 _ _ h2]
  · cases h
theorem allR_eq {r : R} : ∀ {l : List R}, allR r l = true → ∀ x ∈ l, r = x
  | [], _, x, hx => by cases hx
  | y :: l, h, x, hx => by
    unfold allR at h
    cases hb : eqR r y with
    | false => rw [hb] at h; cases h
    | true =>
      rw [hb] at h
      rcases List.mem_cons.1 hx with e | e
      · rw [e]; exact eqR_eq hb
      · exact allR_eq h x e
theorem mrgR_mem {l : List R} {r : R} (hf : Fin r) (e : mrgR l = r) : ∀ x ∈ l, x = r := by
  intro x hx
  match l, e, hx with
  | [], e, hx => cases hx
  | [y], e, hx =>
    rw [List.mem_singleton.1 hx]; exact e
  | y :: z :: l, e, hx =>
    change (bif allR y (z :: l) then y else .fail "orders differ") = r at e
    obtain ⟨h1, h2⟩ := cond_fail hf e
    rcases List.mem_cons.1 hx with e3 | e3
    · rw [e3]; exact h2
    · rw [← allR_eq h1 x e3]; exact h2
theorem nxKs_mem {b r since : Nat} {seen : List Nat} {cl : Nat} {h : H} {c : KV} : ∀ {l : List (Nat × AV × AV)} {x : Nat × AV × AV}, x ∈ l → nxK b r since seen cl h c x ∈ nxKs b r since seen cl h c l
  | y :: l, x, hx => by
    rcases List.mem_cons.1 hx with e | e
    · subst e; simp [nxKs]
    · simp [nxKs, nxKs_mem e]
theorem entL_mem {μ : Mu} : ∀ {es : List (AV × AV)} {ms : List MapEntry}, VRs μ (es.map (·.1)) (ms.map (·.key)) → VRs μ (es.map (·.2)) (ms.map (·.val)) →
    (∀ m ∈ ms, ∃ k v, (m.born, k, v) ∈ entL es (ms.map (·.born)) ∧ VR μ k m.key ∧ VR μ v m.val) ∧ ∀ x ∈ entL es (ms.map (·.born)), ∃ m ∈ ms, m.born = x.1
  | [], [], _, _ => ⟨(by simp), by simp [entL]⟩
  | [], m :: ms, h, _ => by have := h.length; simp at this
  | p :: es, [], h, _ => by have := h.length; simp at this
  | (k, v) :: es, m :: ms, h1, h2 => by
    simp only [List.map_cons] at h1 h2
    cases h1 with | cons _ _ _ _ ha h1 =>
    cases h2 with | cons _ _ _ _ hx h2 =>
    obtain ⟨q1, q2⟩ := entL_mem h1 h2
    simp only [List.map_cons, entL]
    refine ⟨fun m' hm' => ?_, fun x hx' => ?_⟩
    · rcases List.mem_cons.1 hm' with e | e
      · subst e; exact ⟨k, v, by simp, ha, hx⟩
      · obtain ⟨k', v', s1, s2, s3⟩ := q1 m' e
        exact ⟨k', v', by simp [s1], s2, s3⟩
    · rcases List.mem_cons.1 hx' with e | e
      · subst e; exact ⟨m, by simp, rfl⟩
      · obtain ⟨m', s1, s2⟩ := q2 x e
        exact ⟨m', by simp [s1], s2⟩
theorem leftL_iff {seen : List Nat} {x : Nat × AV × AV} : ∀ {l : List (Nat × AV × AV)}, x ∈ leftL seen l ↔ x ∈ l ∧ memB x.1 seen = false
  | [] => by simp [leftL]
  | y :: l => by
    unfold leftL
    cases hb : memB y.1 seen with
    | true =>
      simp only [cond_true, leftL_iff (l := l), List.mem_cons]
      constructor
      · exact fun h => ⟨.inr h.1, h.2⟩
      · rintro ⟨h1 | h1, h2⟩
        · subst h1; rw [hb] at h2; cases h2
        · exact ⟨h1, h2⟩
    | false =>
      simp only [cond_false, List.mem_cons, leftL_iff (l := l)]
      constructor
      · rintro (h | h)
        · subst h; exact ⟨.inl rfl, hb⟩
        · exact ⟨.inr h.1, h.2⟩
      · rintro ⟨h1 | h1, h2⟩
        · exact .inl h1
        · exact .inr ⟨h1, h2⟩
theorem allLt_spec {n : Nat} : ∀ {l : List Nat}, allLt n l = true → ∀ x ∈ l, x < n
  | [], _, x, hx => by cases hx
  | y :: l, h, x, hx => by
    unfold allLt at h
    cases hb : Nat.blt y n with
    | false => rw [hb] at h; cases h
    | true =>
      rw [hb] at h
      rcases List.mem_cons.1 hx with e | e
      · subst e; exact Nat.le_of_ble_eq_true hb
      · exact allLt_spec h x e
theorem nextA_sound {h : H} {μ : Mu} (hr : HR h μ w) {ty : TypeId} {x : AV} {cx : Value} (hx : VR μ x cx) {c : KV} {r : R} (hf : Fin r) (e : nextA x h c = r) : Out P (Instr.next cx false ty) h μ w c r := by
  unfold nextA at e
  split at e
  · next b =>
    split at e
    · next since seen last hg =>
      cases hx with | ptr _ _ l hl =>
      obtain ⟨l', h0, hlt, hδ, m', hB, hm0, _⟩ := hr.blk _ _ hg
      rw [hl] at h0; cases h0
      rw [hm0 rfl] at hB
      rw [hδ]
      refine Out.same hr (v := .tup [.bool false]) (cv := .tuple #[.bool false]) ?_ (.tup _ _ (.cons _ _ _ _ (.bool false) .nil)) e
      simp [Instr.next, getObj, Sem.run, hB]
    · next rm since seen last hg =>
      split at e
      · next es bs cl ro hgm =>
        obtain ⟨hc, e2⟩ := cond_fail hf e
        clear e
        have e := e2
        clear e2
        obtain ⟨hlt, hsl⟩ := an_true hc
        have hsl : since ≤ last := Nat.le_of_ble_eq_true hsl
        cases hx with | ptr _ _ l hl =>
        obtain ⟨l', h0, hlb, hδ, m', hB, _, hms⟩ := hr.blk _ _ hg
        rw [hl] at h0; cases h0
        rw [hδ]
        obtain ⟨lr, hlr, rfl⟩ := hms rm rfl
        obtain ⟨lr', h0, hlm, ms, hBm, hk1, hk2, hk3⟩ := hr.blk _ _ hgm
        rw [hlr] at h0; cases h0
        obtain ⟨em1, em2⟩ := entL_mem hk1 hk2
        rw [hk3] at em1 em2
        have hold : ∀ x ∈ ms.toList, x.born < since := fun x hx => allLt_spec hlt x.born (by rw [← hk3]; exact List.mem_map.2 ⟨x, hx, rfl⟩)
        have hcont : ∀ n, (¬ n ∈ seen ↔ memB n seen = false) := fun n => by
          rw [← memB_iff]
          cases memB n seen <;> simp
        have hleft : ∀ x : MapEntry, x ∈ (leftOf ms seen.toArray).toList ↔ x ∈ ms.toList ∧ memB x.born seen = false := fun x => by
          simp [leftOf, hcont]
        rcases run_next_at (P := P) w ty l.B lr.B since last seen.toArray ms cl hB hBm hold hsl with ⟨hz, hrun⟩ | ⟨en, hen, w1, hw1, hrun⟩
        · split at e
          · exact Out.same hr (v := .tup [.bool false]) (cv := .tuple #[.bool false]) hrun (.tup _ _ (.cons _ _ _ _ (.bool false) .nil)) e
          · next y ys hly =>
            exfalso
            have hy : y ∈ leftL seen (entL es bs) := by rw [hly]; simp
            obtain ⟨hy1, hy2⟩ := leftL_iff.1 hy
            obtain ⟨m, hm1, hm2⟩ := em2 y hy1
            have : m ∈ (leftOf ms seen.toArray).toList := (hleft m).2 ⟨hm1, by rw [hm2]; exact hy2⟩
            have hz' : (leftOf ms seen.toArray).toList = [] := List.length_eq_zero_iff.1 (by simpa using hz)
            rw [hz'] at this; cases this
        · obtain ⟨hen1, hen2⟩ := (hleft en).1 hen
          obtain ⟨k, v, s1, s2, s3⟩ := em1 en hen1
          have hy : (en.born, k, v) ∈ leftL seen (entL es bs) := leftL_iff.2 ⟨s1, hen2⟩
          split at e
          · next hly => rw [hly] at hy; cases hy
          · next y ys hly =>
            rw [← hly] at e
            have e1 := mrgR_mem hf e _ (nxKs_mem (b := b) (r := rm) (since := since) (seen := seen) (cl := cl) (h := h) (c := c) hy)
            unfold nxK at e1
            have hwh : w1.heap = w.heap := by rcases hw1 with rfl | rfl <;> rfl
            have hwo : w1.os = w.os ∧ w1.output = w.output := by rcases hw1 with rfl | rfl <;> exact ⟨rfl, rfl⟩
            have hx2 : Ext h μ w ⟨h.next, h.m.set b (.it (some rm) since (seen ++ [en.born]) cl)⟩ μ (ChangeMaps.setBlock w1 l.B (.mapIter (some lr.B) since (seen.toArray.push en.born) cl)) := by
              refine Ext.upd hr hg rfl hl ⟨by simp [ChangeMaps.setBlock, hwh], hwo.1, hwo.2⟩ (fun B hB' => ?_) ⟨hδ, some lr.B, ?_, (fun h => by cases h), fun r hr' => by cases hr'; exact ⟨lr, hlr, rfl⟩⟩
              · show (w1.heap.setIfInBounds l.B _)[B]? = _
                rw [Array.getElem?_setIfInBounds_ne (Ne.symm hB'), hwh]
              · show (w1.heap.setIfInBounds l.B _)[l.B]? = _
                rw [hwh, Array.getElem?_setIfInBounds_self_of_lt hlb]
                simp
            exact ⟨_, .tuple #[.bool true, en.key, en.val], _, _, _, hrun, hx2, .tup _ _ (.cons _ _ _ _ (.bool true) (.cons _ _ _ _ s2 (.cons _ _ _ _ s3 .nil))), e1⟩
      · exact hf.no e
    · exact hf.no e
  · exact hf.no e
theorem lastN_spec : ∀ {l : List Nat} {s : Nat}, lastN l = some s → ∃ l', l = l' ++ [s]
  | [x], s, h => by cases h; exact ⟨[], rfl⟩
  | x :: y :: l, s, h => by
    obtain ⟨l', h1⟩ := lastN_spec (l := y :: l) h
    exact ⟨x :: l', by rw [h1]; rfl⟩
theorem entA_sound {h : H} {μ : Mu} (hr : HR h μ w) {x : AV} {cx : Value} (hx : VR μ x cx) {c : KV} {r : R} (hf : Fin r) (e : entA x h c = r) : Out P (Instr.entry cx) h μ w c r := by
  unfold entA at e
  split at e
  · next b =>
    split at e
    · next rm since seen last hg =>
      split at e
      · next es bs cl ro s hgm hla =>
        obtain ⟨hc, e2⟩ := cond_fail hf e
        clear e
        have e := e2
        clear e2
        obtain ⟨hcl, hc⟩ := an_true hc
        obtain ⟨hnd, hmb⟩ := an_true hc
        have hcl : cl = last := Nat.eq_of_beq_eq_true hcl
        subst hcl
        cases hx with | ptr _ _ l hl =>
        obtain ⟨l', h0, hlb, hδ, m', hB, _, hms⟩ := hr.blk _ _ hg
        rw [hl] at h0; cases h0
        rw [hδ]
        obtain ⟨lr, hlr, rfl⟩ := hms rm rfl
        obtain ⟨lr', h0, hlm, ms, hBm, hk1, hk2, hk3⟩ := hr.blk _ _ hgm
        rw [hlr] at h0; cases h0
        obtain ⟨seen', rfl⟩ := lastN_spec hla
        rw [← hk3] at hmb hnd e
        obtain ⟨en, q1, q2⟩ := bIdx_get hmb
        split at e
        · next k v hkv =>
          have hB' : w.heap[l.B]? = some (.mapIter (some lr.B) since (seen'.toArray.push en.born) cl) := by rw [hB, q2]; simp
          have hrun := run_entry_at (P := P) w l.B lr.B since seen'.toArray ms cl en hB' hBm (List.mem_of_getElem? q1) (nodB_nodup hnd)
          have s2 : VR μ k en.key := by
            obtain ⟨cx, h1, h2⟩ := hk1.get _ k (by rw [List.getElem?_map, hkv]; rfl)
            rw [List.getElem?_map, q1] at h1
            cases h1; exact h2
          have s3 : VR μ v en.val := by
            obtain ⟨cx, h1, h2⟩ := hk2.get _ v (by rw [List.getElem?_map, hkv]; rfl)
            rw [List.getElem?_map, q1] at h1
            cases h1; exact h2
          exact Out.same hr (v := .tup [k, v]) (cv := .tuple #[en.key, en.val]) hrun (.tup _ _ (.cons _ _ _ _ s2 (.cons _ _ _ _ s3 .nil))) e
        · exact hf.no e
      · exact hf.no e
    · exact hf.no e
  · exact hf.no e

end Go.Ev
