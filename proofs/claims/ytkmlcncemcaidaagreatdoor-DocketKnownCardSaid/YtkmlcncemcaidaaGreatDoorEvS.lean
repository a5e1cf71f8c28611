/- The abstract evaluator: how heaps change. -/
import Derived.Test.YtkmlcncemcaidaaGreatDoorEvR
import Derived.Laws.Cells
import Derived.Laws.World
namespace Go.Ev

theorem add_none (B o j : Nat) : Addr.add ⟨B, o, none⟩ j = ⟨B, o + j, none⟩ := by
  unfold Addr.add; split
  · next h => subst h; rfl
  · rfl

def upd (μ : Mu) (b : Nat) (l : Loc) : Mu := fun x => if x = b then some l else μ x
theorem upd_same (μ : Mu) (b : Nat) (l : Loc) : upd μ b l b = some l := by simp [upd]
theorem upd_ne (μ : Mu) (b : Nat) (l : Loc) {x : Nat} (h : x ≠ b) : upd μ b l x = μ x := by simp [upd, h]
theorem upd_le {μ : Mu} {b : Nat} (l : Loc) (h : μ b = none) : μ.Le (upd μ b l) := fun x y e => by
  rw [upd_ne]; exact e; intro he; subst he; rw [h] at e; cases e

theorem BR.congr {μ μ' : Mu} {w w' : World} {l : Loc} {blk : Blk} (hle : μ.Le μ') (hw : w'.heap[l.B]? = w.heap[l.B]?) (h : BR μ w l blk) : BR μ' w' l blk := by
  cases blk with
  | cells ty n d t fz ex =>
    obtain ⟨c, fr, h1, h2, h3, h4, h5, h6, h7, h8⟩ := h
    exact ⟨c, fr, hw ▸ h1, h2, h3, h4, fun i hi => let ⟨x, e, v⟩ := h5 i hi; ⟨x, e, v.mono hle⟩, h6, h7, h8⟩
  | mp es bs cl ro =>
    obtain ⟨ms, h1, h2, h3, h4⟩ := h
    exact ⟨ms, hw ▸ h1, h2.mono hle, h3.mono hle, h4⟩
  | it m since seen last =>
    obtain ⟨h0, m', h1, h2, h3⟩ := h
    exact ⟨h0, m', hw ▸ h1, h2, fun r hr => let ⟨lr, h4, h5⟩ := h3 r hr; ⟨lr, hle _ _ h4, h5⟩⟩

/- a block less -/
theorem Ext.del {h : H} {μ : Mu} {w : World} (hr : HR h μ w) (b : Nat) : Ext h μ w ⟨h.next, h.m.del b⟩ μ w where
  le := .refl _
  hr := {
    blk := fun x blk hx => by
      rw [Tr.get_del] at hx; split at hx
      · cases hx
      · exact hr.blk x blk hx
    inj := fun x y bx by_ lx ly hx hy h1 h2 he => by
      rw [Tr.get_del] at hx hy
      split at hx
      · cases hx
      · split at hy
        · cases hy
        · exact hr.inj x y bx by_ lx ly hx hy h1 h2 he
    fresh := hr.fresh
    gm := hr.gm }
  sz := Nat.le_refl _
  keep := fun _ _ _ => rfl
  foot := fun B ⟨x, blk, l, h1, h0, h2, h3⟩ => by
    rw [Tr.get_del] at h1; split at h1
    · cases h1
    · exact .inl ⟨x, blk, l, h1, h0, h2, h3⟩
  own := fun B ⟨x, blk, l, h1, h2, h3⟩ => by
    rw [Tr.get_del] at h1; split at h1
    · cases h1
    · exact .inl ⟨x, blk, l, h1, h2, h3⟩
  nx := Nat.le_refl _
  dom := fun _ _ => rfl
  io := ⟨rfl, rfl⟩

/- a new block -/
theorem HR.next_none {h : H} {μ : Mu} {w : World} (hr : HR h μ w) : h.m.get h.next = none := by
  cases hg : h.m.get h.next with
  | none => rfl
  | some blk =>
    obtain ⟨l, h1, _⟩ := hr.blk _ _ hg
    rw [hr.fresh _ (Nat.le_refl _)] at h1; cases h1
theorem Ext.new {h : H} {μ : Mu} {w : World} (hr : HR h μ w) (o : Obj) (blk : Blk) (l : Loc) (hl : l.B = w.heap.size)
    (hb : BR (upd μ h.next l) (w.alloc o) l blk) : Ext h μ w (h.new blk) (upd μ h.next l) (w.alloc o) := by
  have hle := upd_le (μ := μ) l (hr.fresh h.next (Nat.le_refl _))
  have hold : ∀ B, B < w.heap.size → (w.alloc o).heap[B]? = w.heap[B]? := fun B hB => by
    show (w.heap.push o)[B]? = _
    rw [Array.getElem?_push, if_neg (Nat.ne_of_lt hB)]
  have old : ∀ x bx, x ≠ h.next → (h.new blk).m.get x = some bx → h.m.get x = some bx := fun x bx hx e => by
    simp only [H.new, Tr.get_set, if_neg hx] at e; exact e
  have mu : ∀ x bx lx, h.m.get x = some bx → upd μ h.next l x = some lx → μ x = some lx := fun x bx lx hx e => by
    rw [upd_ne] at e
    · exact e
    · intro he; subst he; rw [hr.next_none] at hx; cases hx
  refine ⟨hle, ⟨?_, ?_, ?_, hr.gm.mono hle⟩, by simp, fun B hB _ => hold B hB, ?_, ?_, Nat.le_succ _, fun b hb => upd_ne _ _ _ (Nat.ne_of_lt hb), rfl, rfl⟩
  · intro x bx hx
    by_cases hxn : x = h.next
    · subst hxn
      simp only [H.new, Tr.get_set, if_true] at hx
      cases hx
      exact ⟨l, upd_same _ _ _, by simp [hl], hb⟩
    · obtain ⟨lx, h1, h2, h3⟩ := hr.blk x bx (old x bx hxn hx)
      exact ⟨lx, hle _ _ h1, by simp; omega, h3.congr hle (hold _ h2)⟩
  · intro x y bx by_ lx ly hx hy h1 h2 he
    by_cases hxn : x = h.next <;> by_cases hyn : y = h.next
    · rw [hxn, hyn]
    · exfalso
      subst hxn
      rw [upd_same] at h1; cases h1
      have hy' := old y by_ hyn hy
      obtain ⟨l', h3, h4, _⟩ := hr.blk y by_ hy'
      rw [mu y by_ ly hy' h2] at h3; cases h3; omega
    · exfalso
      subst hyn
      rw [upd_same] at h2; cases h2
      have hx' := old x bx hxn hx
      obtain ⟨l', h3, h4, _⟩ := hr.blk x bx hx'
      rw [mu x bx lx hx' h1] at h3; cases h3; omega
    · exact hr.inj x y bx by_ lx ly (old x bx hxn hx) (old y by_ hyn hy) (mu x bx lx (old x bx hxn hx) h1) (mu y by_ ly (old y by_ hyn hy) h2) he
  · intro b hb'
    simp only [H.new] at hb'
    rw [upd_ne]
    · exact hr.fresh b (by omega)
    · omega
  · intro B ⟨x, bx, lx, h1, h0, h2, h3⟩
    by_cases hxn : x = h.next
    · subst hxn; rw [upd_same] at h2; cases h2; exact .inr (by omega)
    · exact .inl ⟨x, bx, lx, old x bx hxn h1, h0, mu x bx lx (old x bx hxn h1) h2, h3⟩
  · intro B ⟨x, bx, lx, h1, h2, h3⟩
    by_cases hxn : x = h.next
    · subst hxn; rw [upd_same] at h2; cases h2; exact .inr (by omega)
    · exact .inl ⟨x, bx, lx, old x bx hxn h1, mu x bx lx (old x bx hxn h1) h2, h3⟩

structure SIO (w w' : World) : Prop where
  sz : w'.heap.size = w.heap.size
  os : w'.os = w.os
  out : w'.output = w.output
theorem SIO.trans {a b c : World} (h : SIO a b) (h' : SIO b c) : SIO a c := ⟨h'.sz.trans h.sz, h'.os.trans h.os, h'.out.trans h.out⟩
/- a block that changes in its place -/
theorem Ext.upd {h : H} {μ : Mu} {w w' : World} (hr : HR h μ w) {b : Nat} {blk blk' : Blk} {l : Loc} (hg : h.m.get b = some blk) (hro : RO blk = false) (hl : μ b = some l)
    (hs : SIO w w') (hk : ∀ B, B ≠ l.B → w'.heap[B]? = w.heap[B]?) (hb : BR μ w' l blk') : Ext h μ w ⟨h.next, h.m.set b blk'⟩ μ w' := by
  have old : ∀ x bx, x ≠ b → (h.m.set b blk').get x = some bx → h.m.get x = some bx := fun x bx hx e => by
    rw [Tr.get_set, if_neg hx] at e; exact e
  have any : ∀ x bx, (h.m.set b blk').get x = some bx → ∃ by_, h.m.get x = some by_ := fun x bx e => by
    by_cases hx : x = b
    · subst hx; exact ⟨blk, hg⟩
    · exact ⟨bx, old x bx hx e⟩
  refine ⟨.refl _, ⟨?_, ?_, hr.fresh, hr.gm⟩, by have := hs.sz; omega, ?_, ?_, ?_, Nat.le_refl _, fun _ _ => rfl, hs.os, hs.out⟩
  · intro x bx hx
    by_cases hxb : x = b
    · subst hxb
      rw [Tr.get_set, if_pos rfl] at hx; cases hx
      obtain ⟨l', h1, h2, _⟩ := hr.blk x blk hg
      rw [hl] at h1; cases h1
      exact ⟨l, hl, by have := hs.sz; omega, hb⟩
    · obtain ⟨lx, h1, h2, h3⟩ := hr.blk x bx (old x bx hxb hx)
      refine ⟨lx, h1, by have := hs.sz; omega, h3.congr (.refl _) (hk _ fun he => hxb ?_)⟩
      exact hr.inj x b bx blk lx l (old x bx hxb hx) hg h1 hl he
  · intro x y bx by_ lx ly hx hy h1 h2 he
    obtain ⟨bx', hx'⟩ := any x bx hx
    obtain ⟨by', hy'⟩ := any y by_ hy
    exact hr.inj x y bx' by' lx ly hx' hy' h1 h2 he
  · intro B hB hF
    exact hk B fun he => hF ⟨b, blk, l, hg, hro, hl, he.symm⟩
  · intro B ⟨x, bx, lx, h1, h0, h2, h3⟩
    by_cases hxb : x = b
    · subst hxb; exact .inl ⟨x, blk, lx, hg, hro, h2, h3⟩
    · exact .inl ⟨x, bx, lx, old x bx hxb h1, h0, h2, h3⟩
  · intro B ⟨x, bx, lx, h1, h2, h3⟩
    obtain ⟨bx', hx'⟩ := any x bx h1
    exact .inl ⟨x, bx', lx, hx', h2, h3⟩

/- a block that goes on under a new number -/
theorem Ext.move {h : H} {μ : Mu} {w w' : World} (hr : HR h μ w) {b : Nat} {blk blk' : Blk} {l l' : Loc} (hg : h.m.get b = some blk) (hro : RO blk = false) (hl : μ b = some l) (hB : l'.B = l.B)
    (hs : SIO w w') (hk : ∀ B, B ≠ l.B → w'.heap[B]? = w.heap[B]?) (hb : BR (Ev.upd μ h.next l') w' l' blk') :
    Ext h μ w ⟨Nat.succ h.next, (h.m.del b).set h.next blk'⟩ (Ev.upd μ h.next l') w' := by
  have hle := upd_le (μ := μ) l' (hr.fresh h.next (Nat.le_refl _))
  have hbn : b ≠ h.next := fun e => by rw [e, hr.next_none] at hg; cases hg
  have old : ∀ x bx, x ≠ h.next → ((h.m.del b).set h.next blk').get x = some bx → x ≠ b ∧ h.m.get x = some bx := fun x bx hx e => by
    rw [Tr.get_set, if_neg hx, Tr.get_del] at e
    split at e
    · cases e
    · next hxb => exact ⟨hxb, e⟩
  have mu : ∀ x bx lx, h.m.get x = some bx → Ev.upd μ h.next l' x = some lx → μ x = some lx := fun x bx lx hx e => by
    rw [upd_ne] at e
    · exact e
    · intro he; subst he; rw [hr.next_none] at hx; cases hx
  obtain ⟨l₀, h0, hlt, _⟩ := hr.blk b blk hg
  rw [hl] at h0; cases h0
  refine ⟨hle, ⟨?_, ?_, ?_, hr.gm.mono hle⟩, by have := hs.sz; omega, ?_, ?_, ?_, Nat.le_succ _, fun b hb => upd_ne _ _ _ (Nat.ne_of_lt hb), hs.os, hs.out⟩
  · intro x bx hx
    by_cases hxn : x = h.next
    · subst hxn
      rw [Tr.get_set, if_pos rfl] at hx; cases hx
      exact ⟨l', upd_same _ _ _, by have := hs.sz; omega, hb⟩
    · obtain ⟨hxb, hx'⟩ := old x bx hxn hx
      obtain ⟨lx, h1, h2, h3⟩ := hr.blk x bx hx'
      refine ⟨lx, hle _ _ h1, by have := hs.sz; omega, h3.congr hle (hk _ fun he => hxb ?_)⟩
      exact hr.inj x b bx blk lx l hx' hg h1 hl he
  · intro x y bx by_ lx ly hx hy h1 h2 he
    by_cases hxn : x = h.next <;> by_cases hyn : y = h.next
    · rw [hxn, hyn]
    · exfalso
      subst hxn
      rw [upd_same] at h1; cases h1
      obtain ⟨hyb, hy'⟩ := old y by_ hyn hy
      exact hyb (hr.inj y b by_ blk ly l hy' hg (mu y by_ ly hy' h2) hl (by omega))
    · exfalso
      subst hyn
      rw [upd_same] at h2; cases h2
      obtain ⟨hxb, hx'⟩ := old x bx hxn hx
      exact hxb (hr.inj x b bx blk lx l hx' hg (mu x bx lx hx' h1) hl (by omega))
    · obtain ⟨_, hx'⟩ := old x bx hxn hx
      obtain ⟨_, hy'⟩ := old y by_ hyn hy
      exact hr.inj x y bx by_ lx ly hx' hy' (mu x bx lx hx' h1) (mu y by_ ly hy' h2) he
  · intro c hc
    simp only at hc
    rw [upd_ne]
    · exact hr.fresh c (by omega)
    · omega
  · intro B hB' hF
    exact hk B fun he => hF ⟨b, blk, l, hg, hro, hl, he.symm⟩
  · intro B ⟨x, bx, lx, h1, h0, h2, h3⟩
    by_cases hxn : x = h.next
    · subst hxn; rw [upd_same] at h2; cases h2; exact .inl ⟨b, blk, l, hg, hro, hl, by omega⟩
    · obtain ⟨_, hx'⟩ := old x bx hxn h1
      exact .inl ⟨x, bx, lx, hx', h0, mu x bx lx hx' h2, h3⟩
  · intro B ⟨x, bx, lx, h1, h2, h3⟩
    by_cases hxn : x = h.next
    · subst hxn; rw [upd_same] at h2; cases h2; exact .inl ⟨b, blk, l, hg, hl, by omega⟩
    · obtain ⟨_, hx'⟩ := old x bx hxn h1
      exact .inl ⟨x, bx, lx, hx', mu x bx lx hx' h2, h3⟩

/-! cells read and written in the world -/
variable {P : Program}
theorem cell_of {w : World} {B : Nat} {c : Array Value} {ty : TypeId} {fr : Nat × Nat} (h : w.heap[B]? = some (.cells c ty fr)) (o : Nat) : w.cell? ⟨B, o, none⟩ = c[o]? := by
  simp [World.cell?, h]
theorem run_load_cell {w : World} {a : Addr} {v : Value} (h : w.cell? a = some v) : (load a).run P w = .ok v w := by
  simp [load, Sem.run, h]
theorem run_loads {w : World} {B o n : Nat} {c : Array Value} {ty : TypeId} {fr : Nat × Nat} (h : w.heap[B]? = some (.cells c ty fr)) (hn : o + n ≤ c.size) :
    (loadCells ⟨B, o, none⟩ n).run P w = .ok ((c.toList.drop o).take n).toArray w := by
  have hl : ((c.toList.drop o).take n).length = n := by simp; omega
  have := run_loadCells_list (P := P) (w := w) ⟨B, o, none⟩ ((c.toList.drop o).take n) (fun j v e => by
    rw [add_none, cell_of h]
    rw [List.getElem?_take] at e
    split at e
    · rw [List.getElem?_drop] at e; simpa using e
    · cases e)
  rw [hl] at this
  exact this

theorem run_store1 {w : World} {B o : Nat} {c : Array Value} {ty : TypeId} {fr : Nat × Nat} (h : w.heap[B]? = some (.cells c ty fr)) (ho : o < c.size)
    (hf : ¬ (fr.1 ≤ o ∧ o < fr.2)) {v : Value} (hv : one v = true) :
    ∃ w', (store ⟨B, o, none⟩ v).run P w = .ok () w' ∧ SIO w w' ∧ (∀ B', B' ≠ B → w'.heap[B']? = w.heap[B']?) ∧
      w'.heap[B]? = some (.cells (c.setIfInBounds o v) ty fr) := by
  have hc : w.cell? ⟨B, o, none⟩ = some c[o] := by rw [cell_of h]; simp [ho]
  have hfz : w.frozen? ⟨B, o, none⟩ = false := by
    obtain ⟨lo, hi⟩ := fr
    simp only [World.frozen?, h]
    simp only at hf
    by_cases h1 : lo ≤ o
    · by_cases h2 : o < hi
      · exact absurd ⟨h1, h2⟩ hf
      · simp [h1, h2]
    · simp [h1]
  refine ⟨w.setCell ⟨B, o, none⟩ v, ?_, ⟨by simp, rfl, rfl⟩, ?_, ?_⟩
  · cases v <;> first
      | (simp [one] at hv; done)
      | simp [store, Sem.run, hc, hfz]
  · intro B' hB'
    simp only [World.setCell]
    rw [Array.getElem?_modify]
    simp [Ne.symm hB']
  · simp only [World.setCell]
    rw [Array.getElem?_modify]
    simp [h]

theorem run_stores : ∀ (vs : List Value) (i : Nat) {w : World} {B o : Nat} {c : Array Value} {ty : TypeId} {fr : Nat × Nat}, w.heap[B]? = some (.cells c ty fr) →
    o + i + vs.length ≤ c.size → (∀ j, o + i ≤ j → j < c.size → ¬ (fr.1 ≤ j ∧ j < fr.2)) → (∀ v ∈ vs, one v = true) →
    ∃ w' c', (storeCells ⟨B, o, none⟩ vs i).run P w = .ok () w' ∧ SIO w w' ∧ (∀ B', B' ≠ B → w'.heap[B']? = w.heap[B']?) ∧
      w'.heap[B]? = some (.cells c' ty fr) ∧ c'.size = c.size ∧ ∀ j, c'[j]? = if o + i ≤ j ∧ j < o + i + vs.length then vs[j - (o + i)]? else c[j]? := by
  intro vs
  induction vs with
  | nil => intro i w B o c ty fr h _ _ _; exact ⟨w, c, rfl, ⟨rfl, rfl, rfl⟩, fun _ _ => rfl, h, rfl, fun j => by simp; omega⟩
  | cons v vs ih =>
    intro i w B o c ty fr h hn hf hv
    simp only [List.length_cons] at hn
    obtain ⟨w1, hr1, hs1, hk1, hb1⟩ := run_store1 (P := P) h (o := o + i) (by omega) (hf _ (Nat.le_refl _) (by omega)) (hv v (by simp))
    obtain ⟨w2, c2, hr2, hs2, hk2, hb2, hz2, he2⟩ := ih (i + 1) (o := o) hb1 (by simp; omega) (fun j hj hj' => hf j (by omega) (by simpa using hj')) (fun u hu => hv u (by simp [hu]))
    refine ⟨w2, c2, ?_, hs1.trans hs2, fun B' hB' => by rw [hk2 B' hB', hk1 B' hB'], hb2, by simpa using hz2, ?_⟩
    · simp only [storeCells, Sem.run_bind, add_none, hr1, Result.andThen_ok, hr2]
    · intro j
      rw [he2 j]
      simp only [List.length_cons]
      by_cases h1 : o + (i + 1) ≤ j ∧ j < o + (i + 1) + vs.length
      · rw [if_pos h1, if_pos (by omega)]
        have : j - (o + i) = (j - (o + (i + 1))) + 1 := by omega
        rw [this]; simp
      · rw [if_neg h1]
        by_cases h2 : j = o + i
        · subst h2
          rw [if_pos (by omega), Nat.sub_self, Array.getElem?_setIfInBounds_self_of_lt (by omega)]
          rfl
        · rw [if_neg (by omega)]
          rw [Array.getElem?_setIfInBounds_ne (by omega)]

end Go.Ev
