/- The abstract evaluator: slices.Sorted at what maps.Keys handed back (keys of int's kind): what stands for it. -/
import Derived.Test.YtkmlcncemcaidaaGreatDoorEvQ
import Derived.Lib.SlKeysI
import Derived.Below
namespace Go.Ev
open Go.WideElems (Fit rd rg)
open Go.RowKit (Below)
variable {P : Program}

noncomputable def insI (x : Int) : List Int → List Int
  | [] => [x]
  | y :: l => bif Ev.leI x y then x :: y :: l else y :: insI x l
noncomputable def sortI : List Int → List Int
  | [] => []
  | x :: l => insI x (sortI l)
def keysI : List (AV × AV) → Option (List Int)
  | [] => some []
  | (.int .i64 n, _) :: l => (match keysI l with | some r => some (n :: r) | none => none)
  | _ :: _ => none
noncomputable def wfI : List Int → Bool
  | [] => true
  | n :: l => an (Lit.int .i64 n).wf (wfI l)
noncomputable def memI (x : Int) : List Int → Bool
  | [] => false
  | y :: l => bif eqI x y then true else memI x l
noncomputable def nodI : List Int → Bool
  | [] => true
  | x :: l => bif memI x l then false else nodI l
def intVs (l : List Int) : List AV := l.map fun n => .int .i64 n
noncomputable def sortedK (e : Nat) (h : H) : List Int → R
  | [] => .ok .nilslice h
  | x :: l => .ok (.sliceU h.next 0 (x :: l).length 1) (h.new (.cells e (x :: l).length [] (listTr (intVs (sortI (x :: l)))) 0 false))
noncomputable def sortedM (e r : Nat) (h : H) : R := match h.m.get r with
  | some (.mp es bs cl _) => (match keysI es with
    | some kl => bif an (wfI kl) (an (nodI kl) (an (nodB bs) (an (allLt cl bs) (Nat.ble kl.length 100000)))) then sortedK e h kl else .fail "sorted: keys"
    | none => .fail "sorted: keys")
  | _ => .fail "sorted: no entries"
noncomputable def sortedC (e : Nat) (h : H) (x : AV) : R := match x with
  | .nilmap => .ok .nilslice h
  | .map r => sortedM e r h
  | _ => .fail "sorted: no map"
noncomputable def sortedG (g e : Nat) : List AV → H → R := fun args h => match args with
  | [.func (.func f) [] [.ptr c 0]] => bif Nat.beq f g then onBlk h c (fun _ m d t _ ex => bif an ex (Nat.blt 0 m) then sortedC e h (cellAt d t 0) else .fail "sorted: cell") else .fail "sorted: closure"
  | _ => .fail "sorted: arguments"

theorem insI_perm (x : Int) : ∀ l : List Int, (insI x l).Perm (x :: l)
  | [] => .refl _
  | y :: l => by
    unfold insI
    cases Ev.leI x y with
    | true => exact .refl _
    | false => exact ((insI_perm x l).cons y).trans (.swap x y l)
theorem sortI_perm : ∀ l : List Int, (sortI l).Perm l
  | [] => .refl _
  | x :: l => (insI_perm x _).trans ((sortI_perm l).cons x)
theorem insI_pw (x : Int) : ∀ l : List Int, l.Pairwise (fun a b => a ≤ b) → (insI x l).Pairwise (fun a b => a ≤ b)
  | [], _ => by simp [insI]
  | y :: l, h => by
    have h' := h
    rw [List.pairwise_cons] at h
    unfold insI
    cases hb : Ev.leI x y with
    | true =>
      have hxy : x ≤ y := by rw [Ev.leI_eq] at hb; simpa using hb
      refine List.pairwise_cons.2 ⟨fun z hz => ?_, h'⟩
      rcases List.mem_cons.1 hz with e | e
      · subst e; exact hxy
      · exact Int.le_trans hxy (h.1 z e)
    | false =>
      have hxy : ¬ x ≤ y := by rw [Ev.leI_eq] at hb; simpa using hb
      refine List.pairwise_cons.2 ⟨fun z hz => ?_, insI_pw x l h.2⟩
      rcases List.mem_cons.1 ((insI_perm x l).mem_iff.1 hz) with e | e
      · subst e; omega
      · exact h.1 z e
theorem sortI_pw : ∀ l : List Int, (sortI l).Pairwise (fun a b => a ≤ b)
  | [] => List.Pairwise.nil
  | x :: l => insI_pw x _ (sortI_pw l)
theorem sortI_merge {ss kl : List Int} (h : ss.Perm kl) : ss.mergeSort (fun x y => decide (x ≤ y)) = sortI kl := by
  have h1 : ss.mergeSort (fun x y => decide (x ≤ y)) = (sortI kl).mergeSort (fun x y => decide (x ≤ y)) := mergeSort_of_perm_i (h.trans (sortI_perm kl).symm)
  rw [h1]
  have tr : ∀ a b c : Int, decide (a ≤ b) = true → decide (b ≤ c) = true → decide (a ≤ c) = true := fun a b c h1 h2 => by simp only [decide_eq_true_eq] at *; exact Int.le_trans h1 h2
  have to : ∀ a b : Int, (decide (a ≤ b) || decide (b ≤ a)) = true := fun a b => by simp only [Bool.or_eq_true, decide_eq_true_eq]; exact Int.le_total a b
  refine List.Perm.eq_of_pairwise (le := fun a b : Int => decide (a ≤ b) = true) (fun a b _ _ h1 h2 => ?_) (List.pairwise_mergeSort tr to _) ((sortI_pw kl).imp fun {a b} h => by simpa using h) (List.mergeSort_perm _ _)
  simp only [decide_eq_true_eq] at h1 h2
  exact Int.le_antisymm h1 h2
theorem insert_perm {H : Type} (x : Lit × DataW H) : ∀ l : List (Lit × DataW H), (DataW.insert x l).Perm (x :: l)
  | [] => .refl _
  | y :: l => by
    unfold DataW.insert
    split
    · exact .refl _
    · exact ((insert_perm x l).cons y).trans (.swap x y l)
theorem foldr_perm {H : Type} : ∀ l : List (Lit × DataW H), (l.foldr DataW.insert []).Perm l
  | [] => .refl _
  | x :: l => (insert_perm x _).trans ((foldr_perm l).cons x)
theorem keysI_spec {μ : Mu} : ∀ {es : List (AV × AV)} {kl : List Int} {vs : List Value}, keysI es = some kl → VRs μ (es.map (·.1)) vs → vs = kl.map encZ
  | [], _, _, h, hv => by cases h; cases hv; rfl
  | (a, b) :: es, kl, vs, h, hv => by
    simp only [List.map_cons] at hv
    cases hv with | cons _ c _ cs h1 h2 =>
    cases a with
    | int k n =>
      cases k with
      | i64 =>
        simp only [keysI] at h
        split at h
        · next r hr =>
          cases h
          cases h1
          rw [keysI_spec hr h2]; rfl
        · cases h
      | _ => cases h
    | _ => cases h
theorem memI_iff {x : Int} : ∀ {l : List Int}, memI x l = true ↔ x ∈ l
  | [] => by simp [memI]
  | y :: l => by
    unfold memI
    cases hb : Ev.eqI x y with
    | true => rw [Ev.eqI_eq] at hb; have hb := eq_of_beq hb; subst hb; simp
    | false =>
      rw [Ev.eqI_eq] at hb
      have hb : ¬ x = y := by simpa using hb
      simp only [cond_false]
      rw [memI_iff]; simp [hb]
theorem nodI_nodup : ∀ {l : List Int}, nodI l = true → l.Nodup
  | [], _ => List.nodup_nil
  | x :: l, h => by
    unfold nodI at h
    cases hb : memI x l with
    | true => rw [hb] at h; cases h
    | false =>
      rw [hb] at h
      exact List.nodup_cons.2 ⟨fun hm => (by rw [memI_iff.2 hm] at hb; cases hb), nodI_nodup h⟩
def anyR : Value → Option (DataW Unit × List MemPlace) := fun _ => some (.nil, [])
theorem rg_spec {kt : TypeId} (hk : P.underlying kt = some (.int .i64)) : ∀ {ms : List MapEntry} {kl : List Int}, ms.map (·.key) = kl.map encZ → wfI kl = true →
    (∀ x ∈ ms, ∃ y, rd P kt anyR x = some y) ∧ ms.map (rg P kt anyR) = kl.map fun n => (Lit.int .i64 n, DataW.nil)
  | [], [], _, _ => ⟨by simp, rfl⟩
  | [], _ :: _, h, _ => by simp at h
  | _ :: _, [], h, _ => by simp at h
  | m :: ms, n :: kl, h, hw => by
    unfold wfI at hw
    obtain ⟨hw1, hw2⟩ := an_true hw
    simp only [List.map_cons, List.cons.injEq] at h
    obtain ⟨h1, h2⟩ := rg_spec hk h.2 hw2
    have hr : rd P kt anyR m = some (Lit.int .i64 n, DataW.nil) := by simp [rd, h.1, keyOf, mapKey, hk, hw1, anyR]
    refine ⟨fun x hx => ?_, by simp only [List.map_cons, h2, rg, hr, Option.getD_some]⟩
    rcases List.mem_cons.1 hx with e | e
    · subst e; exact ⟨_, hr⟩
    · exact h1 x e

/- what lies behind the blocks that there were -/
theorem Ext.junk {h : H} {μ : Mu} {w w' : World} (hr : HR h μ w) (hb : Below w.heap.size w w') : Ext h μ w h μ w' :=
  ⟨.refl _, ⟨fun x bx hx => let ⟨l, h1, h2, h3⟩ := hr.blk x bx hx; ⟨l, h1, Nat.lt_of_lt_of_le h2 hb.size, h3.congr (.refl _) (hb.block _ h2)⟩, hr.inj, hr.fresh, hr.gm⟩, hb.size, fun B hB _ => hb.block B hB, fun _ h => .inl h, fun _ h => .inl h, Nat.le_refl _, fun _ _ => rfl, hb.os, hb.output⟩
theorem Ext.alien {h : H} {μ : Mu} {w w' : World} (hr : HR h μ w) (hbe : Below w.heap.size w w') {blk : Blk} {l : Loc} (hl : w.heap.size ≤ l.B) (hl' : l.B < w'.heap.size) (hb : BR (Ev.upd μ h.next l) w' l blk) : Ext h μ w (h.new blk) (Ev.upd μ h.next l) w' := by
  have hle := upd_le (μ := μ) l (hr.fresh h.next (Nat.le_refl _))
  have old : ∀ x bx, x ≠ h.next → (h.new blk).m.get x = some bx → h.m.get x = some bx := fun x bx hx e => by
    simp only [H.new, Tr.get_set, if_neg hx] at e; exact e
  have mu : ∀ x bx lx, h.m.get x = some bx → Ev.upd μ h.next l x = some lx → μ x = some lx := fun x bx lx hx e => by
    rw [upd_ne] at e
    · exact e
    · intro he; subst he; rw [hr.next_none] at hx; cases hx
  refine ⟨hle, ⟨?_, ?_, ?_, hr.gm.mono hle⟩, hbe.size, fun B hB _ => hbe.block B hB, ?_, ?_, Nat.le_succ _, fun b hb => upd_ne _ _ _ (Nat.ne_of_lt hb), hbe.os, hbe.output⟩
  · intro x bx hx
    by_cases hxn : x = h.next
    · subst hxn
      simp only [H.new, Tr.get_set, if_true] at hx
      cases hx
      exact ⟨l, upd_same _ _ _, hl', hb⟩
    · obtain ⟨lx, h1, h2, h3⟩ := hr.blk x bx (old x bx hxn hx)
      exact ⟨lx, hle _ _ h1, Nat.lt_of_lt_of_le h2 hbe.size, h3.congr hle (hbe.block _ h2)⟩
  · intro x y bx by_ lx ly hx hy h1 h2 he
    by_cases hxn : x = h.next <;> by_cases hyn : y = h.next
    · rw [hxn, hyn]
    · exfalso
      subst hxn
      rw [upd_same] at h1; cases h1
      have hy' := old y by_ hyn hy
      obtain ⟨l', h3, h4, _⟩ := hr.blk y by_ hy'
      rw [mu y by_ ly hy' h2] at h3; cases h3; omega
    · exfalso
      subst hyn
      rw [upd_same] at h2; cases h2
      have hx' := old x bx hxn hx
      obtain ⟨l', h3, h4, _⟩ := hr.blk x bx hx'
      rw [mu x bx lx hx' h1] at h3; cases h3; omega
    · exact hr.inj x y bx by_ lx ly (old x bx hxn hx) (old y by_ hyn hy) (mu x bx lx (old x bx hxn hx) h1) (mu y by_ ly (old y by_ hyn hy) h2) he
  · intro b hb'
    simp only [H.new] at hb'
    rw [upd_ne]
    · exact hr.fresh b (by omega)
    · omega
  · intro B ⟨x, bx, lx, h1, h0, h2, h3⟩
    by_cases hxn : x = h.next
    · subst hxn; rw [upd_same] at h2; cases h2; exact .inr (by omega)
    · exact .inl ⟨x, bx, lx, old x bx hxn h1, h0, mu x bx lx (old x bx hxn h1) h2, h3⟩
  · intro B ⟨x, bx, lx, h1, h2, h3⟩
    by_cases hxn : x = h.next
    · subst hxn; rw [upd_same] at h2; cases h2; exact .inr (by omega)
    · exact .inl ⟨x, bx, lx, old x bx hxn h1, mu x bx lx (old x bx hxn h1) h2, h3⟩

/- what the kit's contracts say of it -/
structure SortedI (P : Program) (f g : FuncId) (kt et : TypeId) : Prop where
  ent : fk P f = 0
  key : P.underlying kt = some (.int .i64)
  atMap : ∀ (w : World) (Bm b nn : Nat) (D0 : DataW Unit), Bm < w.heap.size → w.cell? ⟨Bm, 0, none⟩ = some (.map (some b)) → w.ownsMap P kt anyR b nn D0 → Maps.size D0 ≤ 100000 →
    Calls P f #[.func (.func g) #[] #[.pointer (some ⟨Bm, 0, none⟩)]] w fun e w' => ∃ (v : Value) (ss : List Int), e = .returned v ∧ ss.Perm (intKeys D0) ∧
      w'.ownsRow w.heap.size et 1 v ss.length ((ss.mergeSort (fun x y => decide (x ≤ y))).map encZ) ∧ (v = .slice none 0 0 ↔ ss = []) ∧ Below w.heap.size w w'
  atNil : ∀ (w : World) (Bm : Nat), Bm < w.heap.size → w.cell? ⟨Bm, 0, none⟩ = some (.map none) →
    Calls P f #[.func (.func g) #[] #[.pointer (some ⟨Bm, 0, none⟩)]] w fun e w' => e = .returned (.slice none 0 0) ∧ Below w.heap.size w w'
theorem VRs.inv0 {μ : Mu} {cs : Array Value} (h : VRs μ [] cs.toList) : cs = #[] := by
  generalize hc : cs.toList = l at h
  cases h
  apply Array.ext'; simpa using hc
theorem sorted_callR {f g : FuncId} {kt et : TypeId} (C : SortedI P f g kt et) : CallR P f (sortedG g et) := by
  intro args h μ w cargs r hr hv e hf
  unfold sortedG at e
  split at e
  · next f' c' =>
    obtain ⟨hfg, e1⟩ := cond_fail hf e
    clear e
    have e := e1
    clear e1
    have hfg := Nat.eq_of_beq_eq_true hfg
    subst hfg
    obtain ⟨cv, rfl, hv1⟩ := hv.inv1
    cases hv1 with | func _ _ _ fs cs hv1 hv2 =>
    obtain rfl := hv1.inv0
    obtain ⟨pc, rfl, hp⟩ := hv2.inv1
    cases hp with | ptr _ _ lo hlo =>
    obtain ⟨ty, m, d, t, fz, ex, hg, e⟩ := onBlk_eq hf e
    obtain ⟨hc, e⟩ := cond_fail hf e
    obtain ⟨hex, hm⟩ := an_true hc
    obtain ⟨l', c, fr, R⟩ := hr.row hg
    have hll : l' = lo := Option.some.inj (R.mu.symm.trans hlo)
    subst hll
    obtain ⟨hδ, hcs⟩ := R.hex hex
    obtain ⟨x, hx, hxv⟩ := R.cell 0 (Nat.le_of_ble_eq_true hm)
    have ha : (⟨l'.B, l'.δ + 0, none⟩ : Addr) = ⟨l'.B, 0, none⟩ := by rw [hδ]
    have hcell : w.cell? ⟨l'.B, 0, none⟩ = some x := by rw [cell_of R.heap]; simpa [hδ] using hx
    rw [enter_run C.ent, ha]
    refine ⟨rfl, ?_⟩
    unfold sortedC at e
    split at e
    · next hn =>
      rw [hn] at hxv
      cases hxv
      refine (C.atNil w l'.B R.lt hcell).mono fun e' w' he => ?_
      obtain ⟨rfl, hb⟩ := he
      exact ⟨.nilslice, h, μ, e.symm, Ext.junk hr hb, .nilslice⟩
    · next q hn =>
      rw [hn] at hxv
      cases hxv with | map _ lr hlr =>
      unfold sortedM at e
      split at e
      · next es bs cl ro hgr =>
        split at e
        · next kl hkl =>
          obtain ⟨hck, e⟩ := cond_fail hf e
          obtain ⟨hw, hck⟩ := an_true hck
          obtain ⟨hnd, hck⟩ := an_true hck
          obtain ⟨hnb, hck⟩ := an_true hck
          obtain ⟨hlt, hsz⟩ := an_true hck
          have hsz := Nat.le_of_ble_eq_true hsz
          obtain ⟨l2, q1, q2, ms, s1, s2, _, s4⟩ := hr.blk _ _ hgr
          rw [hlr] at q1; cases q1
          have hmk : ms.toList.map (·.key) = kl.map encZ := keysI_spec hkl s2
          obtain ⟨hrd, hrg⟩ := rg_spec C.key hmk hw
          have hlen : ms.size = kl.length := by have := congrArg List.length hmk; simpa using this
          have hperm := foldr_perm (kl.map fun n => (Lit.int .i64 n, (DataW.nil : DataW Unit)))
          have hown : w.ownsMap P kt anyR lr.B ms.size (.map ((ms.toList.map (rg P kt anyR)).foldr DataW.insert [])) := by
            refine ⟨ms, cl, s1, ⟨by rw [hlen]; unfold maxLen; omega, ⟨fun x hx => ?_, ?_, ?_⟩, hrd⟩, Nat.le_refl _, rfl⟩
            · exact allLt_spec hlt x.born (by rw [← s4]; exact List.mem_map.2 ⟨x, hx, rfl⟩)
            · rw [s4]; exact nodB_nodup hnb
            · rw [hmk]
              exact List.pairwise_map.2 ((nodI_nodup hnd).imp fun {a b} hne he => hne (encZ_inj he))
          rw [hrg] at hown
          have hkp : (intKeys (.map ((kl.map fun n => (Lit.int .i64 n, (DataW.nil : DataW Unit))).foldr DataW.insert []))).Perm kl := by
            have := hperm.map (fun p => Go.intOf p.1)
            rw [List.map_map] at this
            have hid : kl.map ((fun p : Lit × DataW Unit => Go.intOf p.1) ∘ fun n => (Lit.int .i64 n, DataW.nil)) = kl := by
              conv => rhs; rw [← List.map_id kl]
              rfl
            rw [hid] at this
            exact this
          refine (C.atMap w l'.B lr.B _ _ R.lt hcell hown (by rw [Maps.size_eq, hperm.length_eq]; simpa using hsz)).mono fun e' w' he => ?_
          obtain ⟨v, ss, rfl, hp, hrow, hnil, hb⟩ := he
          have hpk := hp.trans hkp
          rw [sortI_merge hpk] at hrow
          have hll := hpk.length_eq
          cases kl with
          | nil =>
            have hss : ss = [] := List.length_eq_zero_iff.1 (by simpa using hll)
            obtain rfl := hnil.2 hss
            exact ⟨.nilslice, h, μ, e.symm, Ext.junk hr hb, .nilslice⟩
          | cons k0 kl =>
            rcases hrow.2 with ⟨hv0, _⟩ | ⟨gb, cap, cur, rfl, hbase, hgb, r1, r2, r3, r4⟩
            · have := hnil.1 hv0
              subst this
              simp at hll
            · have hsl : (sortI (k0 :: kl)).length = (k0 :: kl).length := (sortI_perm _).length_eq
              have hcur : ∀ i (hi : i < (sortI (k0 :: kl)).length), cur[i]? = Option.some (encZ ((sortI (k0 :: kl))[i])) := fun i hi => by
                have h1 := congrArg (fun l => l[i]?) r4
                simp only [List.getElem?_map, List.getElem?_eq_getElem hi, Option.map_some] at h1
                rw [List.getElem?_take, if_pos (by omega)] at h1
                simpa using h1
              refine ⟨_, _, _, e.symm, Ext.alien (l := ⟨gb, 0, cap, 1⟩) hr hb hbase (Array.getElem?_eq_some_iff.1 hgb).1 ⟨cur, (0, 0), hgb, ?_, ?_, (fun h => by cases h), fun i hi => ?_, fun i hi x hx => ?_, fun _ => rfl, fun j _ _ => by simp⟩, ?_⟩
              · show 0 + (k0 :: kl).length ≤ cur.size
                omega
              · show 0 + cap * 1 ≤ cur.size
                omega
              · refine ⟨_, by rw [show (⟨gb, 0, cap, 1⟩ : Loc).δ + i = i from Nat.zero_add i]; exact hcur i (by omega), ?_⟩
                rw [cellAt_list (by unfold intVs; rw [List.length_map]; omega)]
                simp only [intVs, List.getElem_map]
                exact .int _ _
              · have hi : i < (sortI (k0 :: kl)).length := by have hi : i < 0 + (k0 :: kl).length := hi; omega
                rw [hcur i hi] at hx
                cases hx; rfl
              · rw [hll]
                exact .sliceU h.next 0 (k0 :: kl).length ⟨gb, 0, cap, 1⟩ ⟨gb, 0, Option.none⟩ (upd_same _ _ _) (by show 0 + (k0 :: kl).length ≤ cap; omega) (.inr (by simp))
        · exact hf.no e
      · exact hf.no e
    · exact hf.no e
  · exact hf.no e

end Go.Ev
