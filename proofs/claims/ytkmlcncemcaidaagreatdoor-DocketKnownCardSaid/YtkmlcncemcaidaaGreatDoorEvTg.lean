/- The abstract evaluator: the parser of a region's operations. -/
import Derived.Test.YtkmlcncemcaidaaGreatDoorEvTf
namespace Go.Ev
variable {K : Nat} {gt : Nat → Option Tmp}

def SK (K : Nat) (gt : Nat → Option Tmp) (st : List (Gd × TE)) : Prop := ∀ p ∈ st, ∃ o, WN K gt p.1 p.2 o
def flatS : List (Gd × TE) → List Oper
  | [] => []
  | p :: r => flatS r ++ flat p.2
theorem WN.dstOf {g : Gd} {t : TE} {o : Oper} (h : WN K gt g t o) : Ev.dstOf t = o.dst := by cases h <;> rfl
theorem sameGd_eq {g g' : Gd} (h : sameGd g g' = true) : g = g' := by
  unfold sameGd at h
  split at h
  · rfl
  · simp only [Bool.and_eq_true, beq_iff_eq] at h
    rw [Nat.eq_of_beq_eq_true h.1, h.2]
  · cases h
theorem popArg_spec {g : Gd} {x : Operand} {st st' : List (Gd × TE)} {t : TE} (hs : SK K gt st) (h : popArg K gt g x st = (t, st')) : SK K gt st' ∧ flatS st = flatS st' ++ flat t ∧ WT K gt g t x := by
  have leaf : (TE.lf x, st) = (t, st') → SK K gt st' ∧ flatS st = flatS st' ++ flat t ∧ WT K gt g t x := by
    intro e; cases e; exact ⟨hs, by simp [flat], .lf⟩
  unfold popArg at h
  split at h
  · next d g' t' rest =>
    cases hb : (tmpIs (dstOf t') d && !(Nat.beq (Nat.land (Nat.shiftRight K d) 1) 1)) with
    | false => rw [hb] at h; exact leaf h
    | true =>
      rw [hb] at h
      simp only [cond_true] at h
      simp only [Bool.and_eq_true, Bool.not_eq_true'] at hb
      obtain ⟨o, ho⟩ := hs (g', t') (by simp)
      have hd : o.dst = some d := by
        have h1 := hb.1
        have h2 : dstOf t' = o.dst := ho.dstOf
        unfold tmpIs at h1
        split at h1
        · next a hh => rw [h2] at hh; rw [hh, Nat.eq_of_beq_eq_true h1]
        · cases h1
      have hbit : bit K d = false := hb.2
      have hs' : SK K gt rest := fun p hp => hs p (by simp [hp])
      cases hg : sameGd g g' with
      | true =>
        rw [hg] at h
        cases h
        have := sameGd_eq hg
        subst this
        exact ⟨hs', rfl, .node ho hd hbit⟩
      | false =>
        rw [hg] at h
        simp only [cond_false] at h
        split at h
        · next j w =>
          split at h
          · next d' hj => cases h; exact ⟨hs', rfl, .gd hj ho hd hbit⟩
          · exact leaf h
        · exact leaf h
  · exact leaf h
theorem popArgs_spec {g : Gd} : ∀ (xs : List Operand) (acc : TE) (ys : List Operand) (st st' : List (Gd × TE)) (t : TE), SK K gt st → WL K gt g acc ys → popArgs K gt g xs acc st = (t, st') →
    SK K gt st' ∧ flatS st ++ flat acc = flatS st' ++ flat t ∧ WL K gt g t (xs.reverse ++ ys)
  | [], acc, ys, st, st', t, hs, ha, h => by
    cases h; exact ⟨hs, rfl, ha⟩
  | x :: xs, acc, ys, st, st', t, hs, ha, h => by
    simp only [popArgs] at h
    generalize hp : popArg K gt g x st = p at h
    obtain ⟨t1, st1⟩ := p
    obtain ⟨h1, h2, h3⟩ := popArg_spec hs hp
    obtain ⟨h4, h5, h6⟩ := popArgs_spec xs (.cons t1 acc) (x :: ys) st1 st' t h1 (.cons h3 ha) h
    refine ⟨h4, ?_, by simpa using h6⟩
    rw [h2, List.append_assoc]
    exact h5
theorem arity_al {op : Op} {l : List Operand} (h : arity op = .al l) : l = op.operands.toList := by
  unfold arity at h
  split at h <;> first | cases h; done | (cases h; rfl)
theorem node_spec {o : Oper} {st st' : List (Gd × TE)} {t : TE} (hs : SK K gt st) (h : node K gt o st = (t, st')) : SK K gt st' ∧ flatS st ++ [o] = flatS st' ++ flat t ∧ WN K gt o.guard t o := by
  unfold node at h
  split at h
  · next ha => cases h; exact ⟨hs, rfl, .n0 ha rfl⟩
  · next x ha =>
    generalize hp : popArg K gt o.guard x st = p at h
    obtain ⟨t1, st1⟩ := p
    obtain ⟨h1, h2, h3⟩ := popArg_spec hs hp
    cases h
    exact ⟨h1, by rw [h2, List.append_assoc]; rfl, .n1 ha rfl h3⟩
  · next x y ha =>
    generalize hp : popArg K gt o.guard y st = p at h
    obtain ⟨t1, st1⟩ := p
    obtain ⟨h1, h2, h3⟩ := popArg_spec hs hp
    simp only at h
    generalize hq : popArg K gt o.guard x st1 = q at h
    obtain ⟨t2, st2⟩ := q
    obtain ⟨h4, h5, h6⟩ := popArg_spec h1 hq
    cases h
    exact ⟨h4, by rw [h2, h5]; simp [flat, List.append_assoc], .n2 ha rfl h6 h3⟩
  · next x y z ha =>
    generalize hp : popArg K gt o.guard z st = p at h
    obtain ⟨t1, st1⟩ := p
    obtain ⟨h1, h2, h3⟩ := popArg_spec hs hp
    simp only at h
    generalize hq : popArg K gt o.guard y st1 = q at h
    obtain ⟨t2, st2⟩ := q
    obtain ⟨h4, h5, h6⟩ := popArg_spec h1 hq
    simp only at h
    generalize hr : popArg K gt o.guard x st2 = q at h
    obtain ⟨t3, st3⟩ := q
    obtain ⟨h7, h8, h9⟩ := popArg_spec h4 hr
    cases h
    exact ⟨h7, by rw [h2, h5, h8]; simp [flat, List.append_assoc], .n3 ha rfl h9 h6 h3⟩
  · next l ha =>
    generalize hp : popArgs K gt o.guard l.reverse .nil st = p at h
    obtain ⟨t1, st1⟩ := p
    obtain ⟨h1, h2, h3⟩ := popArgs_spec l.reverse .nil [] st st1 t1 hs .nil hp
    cases h
    refine ⟨h1, ?_, .nl (by rw [← arity_al ha]) rfl (by simpa using h3)⟩
    simp only [flat, List.append_nil] at h2
    rw [h2, List.append_assoc]; rfl
theorem step_spec {o : Oper} {st : List (Gd × TE)} (hs : SK K gt st) : SK K gt (stepO K gt st o) ∧ flatS (stepO K gt st o) = flatS st ++ [o] := by
  unfold stepO
  generalize hp : node K gt o st = p
  obtain ⟨t, st'⟩ := p
  obtain ⟨h1, h2, h3⟩ := node_spec hs hp
  refine ⟨fun p hp => ?_, by simp only [flatS]; exact h2.symm⟩
  simp only [List.mem_cons] at hp
  rcases hp with rfl | hp
  · exact ⟨o, h3⟩
  · exact h1 p hp
theorem fold_spec : ∀ (l : List Oper) (st : List (Gd × TE)), SK K gt st → SK K gt (l.foldl (stepO K gt) st) ∧ flatS (l.foldl (stepO K gt) st) = flatS st ++ l
  | [], st, hs => ⟨hs, by simp⟩
  | o :: l, st, hs => by
    obtain ⟨h1, h2⟩ := step_spec (o := o) hs
    obtain ⟨h3, h4⟩ := fold_spec l _ h1
    exact ⟨h3, by rw [List.foldl_cons, h4, h2]; simp⟩

end Go.Ev
