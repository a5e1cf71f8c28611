/- The abstract evaluator: copy, len, maps. -/
import Derived.Test.YtkmlcncemcaidaaGreatDoorEvK
namespace Go.Ev
variable {P : Program} {w : World}

theorem copyA_sound {h : H} {μ : Mu} (hr : HR h μ w) {ts : Array TypeId} {ty : TypeId} {d x : AV} {cd cx : Value} (hd : VR μ d cd) (hx : VR μ x cx) {c : KV} {r : R} (hf : Fin r) (e : copyA P ts d x h c = r) :
    Out P (Builtin.copy_ ts ty #[cd, cx]) h μ w c r := by
  unfold copyA at e
  split at e
  · next t rest hts =>
    split at e
    · next z l hsz hdl =>
      obtain ⟨el, inf, ht, hi, hz, hz0⟩ := slSz_inv hsz
      have hinf : inf.size = z := by rw [← hz]; simp [szOf, hi]
      obtain ⟨N, new, news, hlen, e1, hnv, hnl, hn1, hfc⟩ := srcA_sound (P := P) hr hx hf e
      clear e
      have ht0 : ts[0]? = some t := by
        have : ts.toList[0]? = some t := by rw [hts]; rfl
        simpa using this
      have hfc := hfc w rfl
      have hnew := hnv.length
      have hmin : cutTo (some l) N = Nat.min N l := rfl
      unfold copyK at e1
      split at e1
      · cases hd
        cases hdl
        have h0 : cutTo (some 0) N = 0 := by rw [hmin]; exact Nat.min_zero _
        refine Out.same hr (v := .int .i64 0) (cv := .int .i64 0) ?_ (.int _ _) e1
        rw [h0] at hfc
        simp [Builtin.copy_, ht0, run_underlying ht, sizeOf, typeInfo, hi, hinf, hlen, hfc, goInt]
      · next b o l' cp =>
        cases hd with | slice _ _ _ _ lo hl =>
        cases hdl
        obtain ⟨w', h', hrun, hex, hk⟩ := stn_sound (P := P) hr hf e1 (by show new.length = _ * z; omega) hl hnv hn1
        refine ⟨_, _, w', μ, h', ?_, hex, .int .i64 _, hk⟩
        have hlp : Nat.min N l = cutTo (some l) N := rfl
        simp [Builtin.copy_, ht0, run_underlying ht, sizeOf, typeInfo, hi, hinf, hlen, hlp, hfc, hrun, goInt]
      · next b k l' z' =>
        cases hd with | sliceU _ _ _ lo a hl hk' ha =>
        cases hdl
        obtain ⟨w', h', hrun, hex, hk⟩ := stn_sound (P := P) hr hf e1 (by show new.length = _ * z; omega) hl hnv hn1
        have hrun : (storeCells ⟨lo.B, lo.δ + k * lo.sz, none⟩ news).run P w = .ok () w' := hrun
        have hrun' : (storeCells a news).run P w = .ok () w' := by
          rcases ha with ha | ha
          · have hl0 : l = 0 := by omega
            have hn0 : news = [] := List.length_eq_zero_iff.1 (by rw [hnl, hmin, hl0]; simp)
            subst hn0
            exact hrun
          · rw [ha]; exact hrun
        refine ⟨_, _, w', μ, h', ?_, hex, .int .i64 _, hk⟩
        have hlp : Nat.min N l = cutTo (some l) N := rfl
        simp [Builtin.copy_, ht0, run_underlying ht, sizeOf, typeInfo, hi, hinf, hlen, hlp, hfc, hrun', goInt]
      · exact hf.no e1
    · exact hf.no e
  · exact hf.no e

theorem lenA_sound {h : H} {μ : Mu} (hr : HR h μ w) {ts : Array TypeId} {t ty : TypeId} (hts : ts[0]? = some t) {x : AV} {cx : Value} (hx : VR μ x cx) {c : KV} {r : R} (hf : Fin r) (e : lenA P t x h c = r) :
    Out P (Builtin.len_ ts ty #[cx]) h μ w c r := by
  unfold lenA at e
  split at e
  · next hd =>
    cases hx with | str s _ _ e1 e2 =>
    subst e1 e2
    refine Out.same hr ?_ (.int .i64 _) e
    simp [Builtin.len_, hts, run_underlying (desc_eq hd (by simp)), goInt]
  · next hd =>
    cases hx
    refine Out.same hr ?_ (.int .i64 _) e
    simp [Builtin.len_, hts, run_underlying (desc_eq hd (by simp)), goInt]
  · next hd =>
    cases hx
    refine Out.same hr ?_ (.int .i64 _) e
    simp [Builtin.len_, hts, run_underlying (desc_eq hd (by simp)), goInt]
  · next hd =>
    cases hx
    refine Out.same hr ?_ (.int .i64 _) e
    simp [Builtin.len_, hts, run_underlying (desc_eq hd (by simp)), goInt]
  · next hd =>
    cases hx
    refine Out.same hr ?_ (.int .i64 _) e
    simp [Builtin.len_, hts, run_underlying (desc_eq hd (by simp)), goInt]
  · next hd =>
    split at e
    · next es bs cl ro hg =>
      cases hx with | map _ l hl =>
      obtain ⟨l', h1, h2, ms, h3, h4, h5, h6⟩ := hr.blk _ _ hg
      rw [hl] at h1; cases h1
      have hlen := h4.length
      refine Out.same hr ?_ (.int .i64 _) e
      simp [Builtin.len_, hts, run_underlying (desc_eq hd (by simp)), goInt, getObj, Sem.run, h3]
      simp at hlen; omega
    · exact hf.no e
  · next hd =>
    refine Out.same hr ?_ (.int .i64 _) e
    simp [Builtin.len_, hts, run_underlying (desc_eq hd (by simp)), goInt]
  · exact hf.no e
theorem capA_sound {h : H} {μ : Mu} (hr : HR h μ w) {ts : Array TypeId} {t ty : TypeId} (hts : ts[0]? = some t) {x : AV} {cx : Value} (hx : VR μ x cx) {c : KV} {r : R} (hf : Fin r) (e : capA P t x h c = r) :
    Out P (Builtin.cap_ ts ty #[cx]) h μ w c r := by
  unfold capA at e
  split at e
  · next hd =>
    cases hx
    refine Out.same hr ?_ (.int .i64 _) e
    simp [Builtin.cap_, hts, run_underlying (desc_eq hd (by simp)), goInt]
  · next hd =>
    cases hx
    refine Out.same hr ?_ (.int .i64 _) e
    simp [Builtin.cap_, hts, run_underlying (desc_eq hd (by simp)), goInt]
  · exact hf.no e

theorem foldMax_sound {μ : Mu} (k : IntKind) : ∀ {l : List AV} {cs : List Value} (a n : Int), VRs μ l cs → foldMax true a l = some n → (cs.foldlM Builtin.max2 (.int k a)).run P w = .ok (.int k n) w
  | _, _, a, n, .nil, e => by cases e; rfl
  | _, _, a, n, .cons v c l cs h hs, e => by
    cases h with
    | int k' b =>
      have e : foldMax true (bif (bif true then nt (leI b a) else nt (leI a b)) then b else a) l = some n := e
      have ih := foldMax_sound k _ n hs e
      simp only [List.foldlM_cons, Sem.run_bind, Builtin.max2, Sem.run_pure, Result.andThen_ok]
      rw [← ih]
      congr 3
      rw [cond_true, nt_eq, leI_eq]
      by_cases hba : b > a
      · rw [if_pos hba, decide_eq_false (by omega)]; rfl
      · rw [if_neg hba, decide_eq_true (by omega)]; rfl
    | _ => cases e
theorem foldMin_sound {μ : Mu} (k : IntKind) : ∀ {l : List AV} {cs : List Value} (a n : Int), VRs μ l cs → foldMax false a l = some n → (cs.foldlM Builtin.min2 (.int k a)).run P w = .ok (.int k n) w
  | _, _, a, n, .nil, e => by cases e; rfl
  | _, _, a, n, .cons v c l cs h hs, e => by
    cases h with
    | int k' b =>
      have e : foldMax false (bif (bif false then nt (leI b a) else nt (leI a b)) then b else a) l = some n := e
      have ih := foldMin_sound k _ n hs e
      simp only [List.foldlM_cons, Sem.run_bind, Builtin.min2, Sem.run_pure, Result.andThen_ok]
      rw [← ih]
      congr 3
      rw [cond_false, nt_eq, leI_eq]
      by_cases hba : b < a
      · rw [if_pos hba, decide_eq_false (by omega)]; rfl
      · rw [if_neg hba, decide_eq_true (by omega)]; rfl
    | _ => cases e

/-! maps -/
theorem keyEq_now {μ : Mu} {a b : AV} {ca cb : Value} {r : Bool} (ha : VR μ a ca) (hb : VR μ b cb) {t : TypeId} {d : TypeDesc} (hk : keyOk P t a = true) (hd : P.underlying t = some d) (e : keyEq a b = some r) :
    Instr.sameNow d ca cb = some r ∧ (r = true → Instr.sameBits 10000 cb ca = true) := by
  have hdd : desc P t = d := by simp [desc, hd]
  unfold keyEq at e
  split at e
  · cases ha; cases hb
    split at e
    · next hkk =>
      cases e; subst hkk
      unfold keyOk at hk
      simp only [hdd] at hk
      split at hk
      · exact ⟨by simp [Instr.sameNow, eqI_eq], fun h => by rw [eqI_eq] at h; have := eq_of_beq h; subst this; simp [Instr.sameBits]⟩
      · cases hk
    · cases e
  · cases ha with | str s _ _ e1 e2 =>
    cases hb with | str u _ _ e3 e4 =>
    subst e1 e2 e3 e4
    cases e
    unfold keyOk at hk
    simp only [hdd] at hk
    split at hk
    · rw [strEq_pk]
      have hb : ∀ x y : ByteArray, (x == y) = (x.data.toList == y.data.toList) := fun x y => by rw [beq_toListBytes, ByteArray.toList_eq, ByteArray.toList_eq]
      refine ⟨by simp [Instr.sameNow, hb], fun h => ?_⟩
      have h := eq_of_beq h
      simp [Instr.sameBits, hb, h]
    · cases hk
  · cases ha; cases hb
    cases e
    unfold keyOk at hk
    simp only [hdd] at hk
    split at hk
    · exact ⟨by simp [Instr.sameNow], fun h => by have := eq_of_beq h; subst this; simp [Instr.sameBits]⟩
    · cases hk
  · cases e
theorem keyOk_check {μ : Mu} {a : AV} {ca : Value} (ha : VR μ a ca) {t : TypeId} (hk : keyOk P t a = true) (b : Bool) : ∃ d, P.underlying t = some d ∧ (Instr.checkKey b 10000 t ca).run P w = .ok () w := by
  unfold keyOk at hk
  split at hk
  · split at hk
    · next hd => cases ha; exact ⟨_, desc_eq hd (by simp), by unfold Instr.checkKey; simp only [Sem.run_bind, run_underlying (desc_eq hd (by simp)), Result.andThen_ok]; rfl⟩
    · cases hk
  · split at hk
    · next hd => cases ha; exact ⟨_, desc_eq hd (by simp), by unfold Instr.checkKey; simp only [Sem.run_bind, run_underlying (desc_eq hd (by simp)), Result.andThen_ok]; rfl⟩
    · cases hk
  · split at hk
    · next hd => cases ha; exact ⟨_, desc_eq hd (by simp), by unfold Instr.checkKey; simp only [Sem.run_bind, run_underlying (desc_eq hd (by simp)), Result.andThen_ok]; rfl⟩
    · cases hk
  · cases hk
/- what is found, and what becomes of the entries -/
theorem find_sound {μ : Mu} {k : AV} {ck : Value} (hkv : VR μ k ck) {t : TypeId} {d : TypeDesc} (hk : keyOk P t k = true) (hd : P.underlying t = some d) :
    ∀ (es : List (AV × AV)) (ms : List MapEntry) (i : Nat) (res : Option AV), VRs μ (es.map (·.1)) (ms.map (·.key)) → VRs μ (es.map (·.2)) (ms.map (·.val)) → mpFind k es = some res →
      (res = none ∧ Instr.findNow d ck ms i = some none ∧ ∀ v, mpSet k v es = es ++ [(k, v)]) ∨
      (∃ v j m, res = some v ∧ ms[j]? = some m ∧ VR μ v m.val ∧ Instr.sameBits 10000 m.key ck = true ∧ Instr.findNow d ck ms i = some (some (i + j, m.val)) ∧
        (∀ v' cv', VR μ v' cv' → VRs μ ((mpSet k v' es).map (·.1)) ((ms.modify j fun e => { e with key := ck, val := cv' }).map (·.key)) ∧ VRs μ ((mpSet k v' es).map (·.2)) ((ms.modify j fun e => { e with key := ck, val := cv' }).map (·.val))) ∧
        VRs μ ((mpDel k es).map (·.1)) ((ms.eraseIdx j).map (·.key)) ∧ VRs μ ((mpDel k es).map (·.2)) ((ms.eraseIdx j).map (·.val)) ∧ mpIdx k es = j ∧ ∀ bs : List Nat, bs.length = es.length → bsDel k es bs = bs.eraseIdx j)
  | [], ms, i, res, h1, h2, e => by
    have : ms = [] := by have := h1.length; simp at this; exact List.length_eq_zero_iff.1 this.symm
    subst this
    cases e
    exact .inl ⟨rfl, rfl, fun v => rfl⟩
  | (a, x) :: es, ms, i, res, h1, h2, e => by
    cases ms with
    | nil => have := h1.length; simp at this
    | cons m ms =>
      simp only [List.map_cons] at h1 h2
      cases h1 with | cons _ _ _ _ ha h1 =>
      cases h2 with | cons _ _ _ _ hx h2 =>
      unfold mpFind at e
      split at e
      · next heq =>
        cases e
        obtain ⟨hn, hb⟩ := keyEq_now hkv ha hk hd heq
        refine .inr ⟨x, 0, m, rfl, rfl, hx, hb rfl, by simp [Instr.findNow, hn], fun v' cv' hv' => ?_, ?_, ?_, ?_, ?_⟩
        · simp only [mpSet, heq, List.modify_cons, if_true, List.map_cons]
          exact ⟨.cons _ _ _ _ hkv h1, .cons _ _ _ _ hv' h2⟩
        · simp only [mpDel, heq]; exact h1
        · simp only [mpDel, heq]; exact h2
        · simp only [mpIdx, heq]
        · intro bs hbs
          cases bs with
          | nil => simp at hbs
          | cons b bs => simp only [bsDel, heq]; rfl
      · next heq =>
        obtain ⟨hn, _⟩ := keyEq_now hkv ha hk hd heq
        rcases find_sound hkv hk hd es ms (i + 1) res h1 h2 e with ⟨r1, r2, r3⟩ | ⟨v, j, m', r1, r2, r3, r4, r5, r6, r7, r8, r9, r10⟩
        · exact .inl ⟨r1, by simp [Instr.findNow, hn, r2], fun v => by simp [mpSet, heq, r3]⟩
        · refine .inr ⟨v, j + 1, m', r1, by simpa using r2, r3, r4, by simp [Instr.findNow, hn, r5]; omega, fun v' cv' hv' => ?_, ?_, ?_, ?_, ?_⟩
          · obtain ⟨s1, s2⟩ := r6 v' cv' hv'
            simp only [mpSet, heq, List.map_cons, List.modify_succ_cons]
            exact ⟨.cons _ _ _ _ ha s1, .cons _ _ _ _ hx s2⟩
          · simp only [mpDel, heq, List.map_cons, List.eraseIdx_cons_succ]; exact .cons _ _ _ _ ha r7
          · simp only [mpDel, heq, List.map_cons, List.eraseIdx_cons_succ]; exact .cons _ _ _ _ hx r8
          · simp only [mpIdx, heq]; rw [r9]
          · intro bs hbs
            cases bs with
            | nil => simp at hbs
            | cons b bs =>
              simp only [bsDel, heq, List.eraseIdx_cons_succ]
              rw [r10 bs (by simpa using hbs)]
      · cases e

theorem mapT_inv {t kt e : TypeId} (h : mapT P t = some (kt, e)) : P.underlying t = some (.map kt e) := by
  unfold mapT at h
  split at h
  · next hd => cases h; exact desc_eq hd (by simp)
  · cases h
theorem run_getObj {B : Nat} {ms : Array MapEntry} {cl : Nat} (h : w.heap[B]? = some (.map ms cl)) : (getObj B).run P w = .ok (.map ms cl) w := by
  simp [getObj, Sem.run, h]
theorem run_setObj {B : Nat} {ms ms' : Array MapEntry} {cl cl' : Nat} (h : w.heap[B]? = some (.map ms cl)) : (setObj B (.map ms' cl')).run P w = .ok () { w with heap := w.heap.setIfInBounds B (.map ms' cl') } := by
  simp [setObj, Sem.run, h]
/- a map's entries change -/
theorem Ext.map {h : H} {μ : Mu} (hr : HR h μ w) {b : Nat} {es es' : List (AV × AV)} {bs bs' : List Nat} {cl cl' : Nat} {l : Loc} (hg : h.m.get b = some (.mp es bs cl false)) (hl : μ b = some l) (ms : Array MapEntry)
    (h1 : VRs μ (es'.map (·.1)) (ms.toList.map (·.key))) (h2 : VRs μ (es'.map (·.2)) (ms.toList.map (·.val))) (h3 : ms.toList.map (·.born) = bs') :
    Ext h μ w ⟨h.next, h.m.set b (.mp es' bs' cl' false)⟩ μ { w with heap := w.heap.setIfInBounds l.B (.map ms cl') } := by
  obtain ⟨l', h0, hlt, _⟩ := hr.blk _ _ hg
  rw [hl] at h0; cases h0
  refine Ext.upd hr hg rfl hl ⟨by simp, rfl, rfl⟩ (fun B hB => ?_) ⟨ms, ?_, h1, h2, h3⟩
  · show (w.heap.setIfInBounds l.B _)[B]? = _
    rw [Array.getElem?_setIfInBounds_ne (Ne.symm hB)]
  · show (w.heap.setIfInBounds l.B _)[l.B]? = _
    rw [Array.getElem?_setIfInBounds_self_of_lt hlt]
theorem zv_inv {t : TypeId} {z : AV} (h : zv P t = some z) (μ : Mu) : ∃ v, (zeroValue t).run P w = .ok v w ∧ VR μ z v := by
  unfold zv at h
  split at h
  · next i hi =>
    split at h
    · next v hv => cases h; exact ⟨v, by simp [zeroValue, run_typeInfo hi, hv], ofV_VR μ v⟩
    · cases h
  · cases h

/- what looking a key up gives -/
theorem look_sound {h : H} {μ : Mu} {kt el : TypeId} {i : AV} {ci : Value} (hi : VR μ i ci) (hk : keyOk P kt i = true) {ok : Bool} {c : KV} {r : R} (hf : Fin r) {es : List (AV × AV)} {ms : Array MapEntry}
    (h1 : VRs μ (es.map (·.1)) (ms.toList.map (·.key))) (h2 : VRs μ (es.map (·.2)) (ms.toList.map (·.val)))
    (e : (match mpFind i es with
      | none => R.fail "lookup key"
      | some (some v) => c (bif ok then .tup [v, .bool true] else v) h
      | some none => (match zv P el with | some z => c (bif ok then .tup [z, .bool false] else z) h | none => .fail "lookup zero")) = r) :
    (Instr.checkKey ms.isEmpty 10000 kt ci).run P w = .ok () w ∧ ∃ v cv fk b, (Instr.findKey kt ci ms.toList).run P w = .ok fk w ∧ (fk = none → (zeroValue el).run P w = .ok cv w ∧ b = false) ∧ (∀ j x, fk = some (j, x) → x = cv ∧ b = true) ∧
      VR μ v cv ∧ c (bif ok then .tup [v, .bool b] else v) h = r := by
  obtain ⟨d, hd, hck⟩ := keyOk_check (P := P) (w := w) hi hk ms.isEmpty
  refine ⟨hck, ?_⟩
  split at e
  · exact hf.no e
  · next v hfd =>
    rcases find_sound hi hk hd es ms.toList 0 _ h1 h2 hfd with ⟨r1, _, _⟩ | ⟨v', j, m, r1, r2, r3, r4, r5, r6, r7, r8, r9, r10⟩
    · cases r1
    · cases r1
      exact ⟨v, m.val, some (0 + j, m.val), true, by simp [Instr.findKey, run_underlying hd, r5], (fun h => by cases h), (fun j x h => by cases h; exact ⟨rfl, rfl⟩), r3, e⟩
  · next hfd =>
    rcases find_sound hi hk hd es ms.toList 0 _ h1 h2 hfd with ⟨r1, r2, _⟩ | ⟨v', j, m, r1, _⟩
    · split at e
      · next z hz =>
        obtain ⟨cv, hzr, hzv⟩ := zv_inv (P := P) (w := w) hz μ
        exact ⟨z, cv, none, false, by simp [Instr.findKey, run_underlying hd, r2], (fun _ => ⟨hzr, rfl⟩), (fun j x h => by cases h), hzv, e⟩
      · exact hf.no e
    · cases r1
theorem lookA_sound {h : H} {μ : Mu} (hr : HR h μ w) {t : TypeId} {ok : Bool} {x i : AV} {cx ci : Value} (hx : VR μ x cx) (hi : VR μ i ci) {c : KV} {r : R} (hf : Fin r) (e : lookA P t ok x i h c = r) :
    Out P (Instr.lookup t cx ci ok) h μ w c r := by
  unfold lookA at e
  split at e
  · exact hf.no e
  · next kt el hm =>
    have hu := mapT_inv hm
    obtain ⟨hk, e1⟩ := cond_fail hf e
    clear e
    unfold onMap at e1
    split at e1
    · cases hx
      obtain ⟨hck, v, cv, fk, b, hfk, hz, hs, hv, he⟩ := look_sound (P := P) (w := w) hi hk hf (es := []) (ms := #[]) .nil .nil e1
      have hck : (Instr.checkKey true 10000 kt ci).run P w = .ok () w := hck
      have hfk : (Instr.findKey kt ci []).run P w = .ok fk w := hfk
      cases ok with
      | true =>
        refine Out.same hr (v := .tup [v, .bool b]) (cv := .tuple #[cv, .bool b]) ?_ (.tup _ _ (.cons _ _ _ _ hv (.cons _ _ _ _ (.bool b) .nil))) he
        cases fk with
        | none => obtain ⟨h1, rfl⟩ := hz rfl; simp [Instr.lookup, run_underlying hu, hck, hfk, h1]
        | some p => obtain ⟨j, x⟩ := p; obtain ⟨rfl, rfl⟩ := hs j x rfl; simp [Instr.lookup, run_underlying hu, hck, hfk]
      | false =>
        refine Out.same hr (v := v) (cv := cv) ?_ hv he
        cases fk with
        | none => obtain ⟨h1, rfl⟩ := hz rfl; simp [Instr.lookup, run_underlying hu, hck, hfk, h1]
        | some p => obtain ⟨j, x⟩ := p; obtain ⟨rfl, rfl⟩ := hs j x rfl; simp [Instr.lookup, run_underlying hu, hck, hfk]
    · split at e1
      · next es bs cl ro hg =>
        cases hx with | map _ l hl =>
        obtain ⟨l', h0, hlt, ms, hB, hk1, hk2, hk3⟩ := hr.blk _ _ hg
        rw [hl] at h0; cases h0
        obtain ⟨hck, v, cv, fk, b, hfk, hz, hs, hv, he⟩ := look_sound (P := P) (w := w) hi hk hf (es := es) (ms := ms) hk1 hk2 e1
        cases ok with
        | true =>
          refine Out.same hr (v := .tup [v, .bool b]) (cv := .tuple #[cv, .bool b]) ?_ (.tup _ _ (.cons _ _ _ _ hv (.cons _ _ _ _ (.bool b) .nil))) he
          cases fk with
          | none => obtain ⟨h1, rfl⟩ := hz rfl; simp [Instr.lookup, run_underlying hu, run_getObj hB, hck, hfk, h1]
          | some p => obtain ⟨j, x⟩ := p; obtain ⟨rfl, rfl⟩ := hs j x rfl; simp [Instr.lookup, run_underlying hu, run_getObj hB, hck, hfk]
        | false =>
          refine Out.same hr (v := v) (cv := cv) ?_ hv he
          cases fk with
          | none => obtain ⟨h1, rfl⟩ := hz rfl; simp [Instr.lookup, run_underlying hu, run_getObj hB, hck, hfk, h1]
          | some p => obtain ⟨j, x⟩ := p; obtain ⟨rfl, rfl⟩ := hs j x rfl; simp [Instr.lookup, run_underlying hu, run_getObj hB, hck, hfk]
      · exact hf.no e1
    · exact hf.no e1

theorem modify_born {f : MapEntry → MapEntry} (h : ∀ e, (f e).born = e.born) : ∀ (l : List MapEntry) (j : Nat), (l.modify j f).map (·.born) = l.map (·.born)
  | [], j => by cases j <;> rfl
  | a :: l, 0 => by simp [h a]
  | a :: l, j + 1 => by simp only [List.modify_succ_cons, List.map_cons, modify_born h l j]
theorem updA_sound {h : H} {μ : Mu} (hr : HR h μ w) {t : TypeId} {m k v : AV} {cm ck cv : Value} (hm : VR μ m cm) (hk : VR μ k ck) (hv : VR μ v cv) {c : KV} {r : R} (hf : Fin r) (e : updA P t m k v h c = r) :
    ∃ w' h', (Instr.mapUpdate t cm ck cv).run P w = .ok () w' ∧ Ext h μ w h' μ w' ∧ c (.tup []) h' = r := by
  unfold updA at e
  split at e
  · next kt el b hmt =>
    have hu := mapT_inv hmt
    obtain ⟨hko, e1⟩ := cond_fail hf e
    clear e
    split at e1
    · next es bs cl hg =>
      cases hm with | map _ l hl =>
      obtain ⟨l', h0, hlt, ms, hB, hk1, hk2, hk3⟩ := hr.blk _ _ hg
      rw [hl] at h0; cases h0
      obtain ⟨d, hd, hck⟩ := keyOk_check (P := P) (w := w) hk hko false
      split at e1
      · next x hfd =>
        rcases find_sound hk hko hd es ms.toList 0 _ hk1 hk2 hfd with ⟨r1, r2, r3⟩ | ⟨v', j, m', r1, r2, r3, r4, r5, r6, r7, r8, r9, r10⟩
        · cases r1
        · have hfk : (Instr.findKey kt ck ms.toList).run P w = .ok (some (0 + j, m'.val)) w := by simp [Instr.findKey, run_underlying hd, r5]
          have hj : ms[j]? = some m' := by simpa using r2
          obtain ⟨s1, s2⟩ := r6 v cv hv
          refine ⟨_, _, ?_, Ext.map hr hg hl (ms.modify j fun e => { e with key := ck, val := cv }) ?_ ?_ ?_, e1⟩
          · simp only [Instr.mapUpdate, Sem.run_bind, run_underlying hu, Result.andThen_ok, run_getObj hB, hck, hfk, Nat.zero_add, hj, Option.map_some, Option.getD_some, Instr.keyThatStays, r4, if_true, Sem.run_pure]
            exact run_setObj hB
          · rw [Array.toList_modify]; exact s1
          · rw [Array.toList_modify]; exact s2
          · rw [Array.toList_modify, modify_born (f := fun e => { e with key := ck, val := cv }) (fun _ => rfl)]; exact hk3
      · next hfd =>
        rcases find_sound hk hko hd es ms.toList 0 _ hk1 hk2 hfd with ⟨r1, r2, r3⟩ | ⟨v', j, m', r1, r2, r3, r4, r5, r6, r7, r8, r9, r10⟩
        · have hfk : (Instr.findKey kt ck ms.toList).run P w = .ok none w := by simp [Instr.findKey, run_underlying hd, r2]
          rw [r3] at e1
          refine ⟨_, _, ?_, Ext.map hr hg hl (ms.push { key := ck, val := cv, born := cl }) ?_ ?_ ?_, e1⟩
          · simp only [Instr.mapUpdate, Sem.run_bind, run_underlying hu, Result.andThen_ok, run_getObj hB, hck, hfk]
            exact run_setObj hB
          · simp only [List.map_append, Array.toList_push, List.map_cons, List.map_nil]; exact hk1.append (.cons _ _ _ _ hk .nil)
          · simp only [List.map_append, Array.toList_push, List.map_cons, List.map_nil]; exact hk2.append (.cons _ _ _ _ hv .nil)
          · simp only [List.map_append, Array.toList_push, List.map_cons, List.map_nil, hk3]
        · cases r1
      · exact hf.no e1
    · exact hf.no e1
  · exact hf.no e

theorem erase_map {α β : Type} (f : α → β) : ∀ (l : List α) (j : Nat), (l.eraseIdx j).map f = (l.map f).eraseIdx j
  | [], j => by simp
  | a :: l, 0 => by simp
  | a :: l, j + 1 => by simp [erase_map f l j]
theorem Ext.mapSame {h : H} {μ : Mu} (hr : HR h μ w) {l : Loc} {ms : Array MapEntry} {cl : Nat} (hB : w.heap[l.B]? = some (.map ms cl)) : Ext h μ w h μ { w with heap := w.heap.setIfInBounds l.B (.map ms cl) } := by
  have hsame : ({ w with heap := w.heap.setIfInBounds l.B (.map ms cl) } : World) = w := by
    have : w.heap.setIfInBounds l.B (.map ms cl) = w.heap := by
      apply Array.ext_getElem?
      intro i
      rw [Array.getElem?_setIfInBounds]
      split
      · next e => subst e; split
                  · exact hB.symm
                  · next hn => rw [Array.getElem?_eq_none (by omega)]
      · rfl
    rw [this]
  rw [hsame]
  exact .refl hr
theorem delA_sound {h : H} {μ : Mu} (hr : HR h μ w) {ts : Array TypeId} {ty : TypeId} {m k : AV} {cm ck : Value} (hm : VR μ m cm) (hk : VR μ k ck) {c : KV} {r : R} (hf : Fin r) (e : delA P ts m k h c = r) :
    Out P (Builtin.delete_ ts ty #[cm, ck]) h μ w c r := by
  unfold delA at e
  split at e
  · next t rest hts =>
    have ht0 : ts[0]? = some t := by
      have : ts.toList[0]? = some t := by rw [hts]; rfl
      simpa using this
    split at e
    · next kt el b hmt =>
      have hu := mapT_inv hmt
      obtain ⟨hko, e1⟩ := cond_fail hf e
      clear e
      split at e1
      · next es bs cl hg =>
        cases hm with | map _ l hl =>
        obtain ⟨l', h0, hlt, ms, hB, hk1, hk2, hk3⟩ := hr.blk _ _ hg
        rw [hl] at h0; cases h0
        obtain ⟨d, hd, hck⟩ := keyOk_check (P := P) (w := w) hk hko ms.isEmpty
        split at e1
        · next x hfd =>
          rcases find_sound hk hko hd es ms.toList 0 _ hk1 hk2 hfd with ⟨r1, r2, r3⟩ | ⟨v', j, m', r1, r2, r3, r4, r5, r6, r7, r8, r9, r10⟩
          · cases r1
          · have hfk : (Instr.findKey kt ck ms.toList).run P w = .ok (some (0 + j, m'.val)) w := by simp [Instr.findKey, run_underlying hd, r5]
            rw [Nat.zero_add] at hfk
            have hbl : bs.length = es.length := by
              have q1 := congrArg List.length hk3
              have q2 := hk1.length
              simp at q1 q2
              omega
            refine ⟨_, _, _, _, _, ?_, Ext.map hr hg hl (ms.eraseIdxIfInBounds j) (by rw [Array.toList_eraseIdxIfInBounds]; exact r7) (by rw [Array.toList_eraseIdxIfInBounds]; exact r8) (by rw [Array.toList_eraseIdxIfInBounds, erase_map, hk3, r10 bs hbl]), .tup [] #[] .nil, e1⟩
            simp [Builtin.delete_, ht0, run_underlying hu, run_getObj hB, hck, hfk, run_setObj hB]
        · next hfd =>
          rcases find_sound hk hko hd es ms.toList 0 _ hk1 hk2 hfd with ⟨r1, r2, r3⟩ | ⟨v', j, m', r1, r2, r3, r4, r5, r6, r7, r8, r9, r10⟩
          · have hfk : (Instr.findKey kt ck ms.toList).run P w = .ok none w := by simp [Instr.findKey, run_underlying hd, r2]
            refine ⟨_, _, _, _, _, ?_, Ext.mapSame hr hB, .tup [] #[] .nil, e1⟩
            simp [Builtin.delete_, ht0, run_underlying hu, run_getObj hB, hck, hfk, run_setObj hB]
          · cases r1
        · exact hf.no e1
      · exact hf.no e1
    · next kt el hmt =>
      have hu := mapT_inv hmt
      obtain ⟨hko, e1⟩ := cond_fail hf e
      cases hm
      obtain ⟨d, hd, hck⟩ := keyOk_check (P := P) (w := w) hk hko true
      refine Out.same hr ?_ (.tup [] #[] .nil) e1
      simp [Builtin.delete_, ht0, run_underlying hu, hck]
    · exact hf.no e
  · exact hf.no e

end Go.Ev
