/- The abstract evaluator: one operation each; calls. -/
import Derived.Test.YtkmlcncemcaidaaGreatDoorEvTa
namespace Go.Ev
variable {P : Program} {w : World}

/-! what calls come to -/
def RetR (h : H) (μ : Mu) (w : World) (r : R) : Ending → World → Prop
  | .returned cv, w' => ∃ v h' μ', r = .ok v h' ∧ Ext h μ w h' μ' w' ∧ VR μ' v cv
  | .panicked chain, w' => ∃ v cv h' μ', r = .pan v h' ∧ chain = [{ v := cv, recovered := false }] ∧ Ext h μ w h' μ' w' ∧ VR μ' v cv
  | .outgrown, _ => False
def NextR (P : Program) (h : H) (μ : Mu) (w : World) (r : R) : Result Next → Prop
  | .ok (.value cv) w' => ∃ v h' μ', r = .ok v h' ∧ Ext h μ w h' μ' w' ∧ VR μ' v cv
  | .ok (.enter f args) w' => w' = w ∧ Calls P f args w (RetR h μ w r)
  | _ => False
def CallR (P : Program) (f : FuncId) (g : List AV → H → R) : Prop := ∀ args h μ w (cargs : Array Value) r, HR h μ w → VRs μ args cargs.toList → g args h = r → Fin r → NextR P h μ w r ((callFunc f cargs).run P w)
def CallOK (P : Program) (g : Call) : Prop := ∀ f args h μ w (cargs : Array Value) r, HR h μ w → VRs μ args cargs.toList → g f args h = r → Fin r → Calls P f cargs w (RetR h μ w r)
def OvOK (P : Program) (ov : Nat → Option (List AV → H → R)) : Prop := ∀ f g, ov f = some g → CallR P f g

/-! an operation's outcome -/
section
variable {o : Oper} {a : Act} {next : Act → World → Prop} {Q : Exit → Act → World → Prop}
/- what goes on with the value, what with a panic -/
def KOK (h : H) (μ : Mu) (w : World) (o : Oper) (a : Act) (next : Act → World → Prop) (k : KV) (r : R) : Prop :=
  ∀ v cv w' μ' h', Ext h μ w h' μ' w' → VR μ' v cv → k v h' = r → next (a.put o.dst cv) w'
def POK (h : H) (μ : Mu) (w : World) (cx : Cx) (fr : Fr) (a : Act) (Q : Exit → Act → World → Prop) (r : R) : Prop :=
  ∀ v cv w' μ' h', Ext h μ w h' μ' w' → VR μ' v cv → cx.hp v fr h' = r → Q (.panic [{ v := cv, recovered := false }]) a w'

theorem Out.wp {s : Sem Value} {h : H} {μ : Mu} {k : KV} {r : R} (ho : Out P s h μ w k r) (hk : KOK h μ w o a next k r) (he : execOp a.eval o = (do pure (.value (← s)))) : o.wp P a w next Q := by
  obtain ⟨v, cv, w', μ', h', h1, h2, h3, h4⟩ := ho
  unfold Oper.wp
  rw [he]
  simp only [Sem.run_bind, h1, Result.andThen, Sem.run_pure]
  exact hk v cv w' μ' h' h2 h3 h4
theorem val_wp {s : Sem Value} {h : H} {μ : Mu} {k : KV} {r : R} (hr : HR h μ w) (ho : ∃ v cv, s.run P w = .ok cv w ∧ VR μ v cv ∧ k v h = r) (hk : KOK h μ w o a next k r) (he : execOp a.eval o = (do pure (.value (← s)))) : o.wp P a w next Q := by
  obtain ⟨v, cv, h1, h2, h3⟩ := ho
  exact Out.wp (.same hr h1 h2 h3) hk he
theorem unit_wp {s : Sem Unit} {h : H} {μ : Mu} {k : KV} {r : R} (ho : ∃ w' h' μ', s.run P w = .ok () w' ∧ Ext h μ w h' μ' w' ∧ k (.tup []) h' = r) (hk : KOK h μ w o a next k r) (he : execOp a.eval o = (do s; pure .skip)) : o.wp P a w next Q := by
  obtain ⟨w', h', μ', h1, h2, h3⟩ := ho
  unfold Oper.wp
  rw [he]
  simp only [Sem.run_bind, h1, Result.andThen, Sem.run_pure]
  exact hk (.tup []) undef w' μ' h' h2 (.tup [] #[] .nil) h3

theorem next_upon {h : H} {μ : Mu} {cx : Cx} {fr : Fr} {k : KV} {r r' : R} {n : Result Next} (hn : NextR P h μ w r' n) (e : toP (hpK cx fr) k r' = r) (hk : KOK h μ w o a next k r) (hp : POK h μ w cx fr a Q r) :
    o.upon P a next Q n := by
  cases n with
  | halt x w' => exact hn.elim
  | ok n w' =>
    cases n with
    | value cv =>
      obtain ⟨v, h', μ', rfl, h2, h3⟩ := hn
      exact hk v cv w' μ' h' h2 h3 e
    | enter f args =>
      obtain ⟨rfl, hc⟩ := hn
      rw [Oper.upon_enter]
      refine hc.mono fun en w'' he => ?_
      cases en with
      | returned cv =>
        obtain ⟨v, h', μ', rfl, h2, h3⟩ := he
        exact hk v cv w'' μ' h' h2 h3 e
      | panicked chain =>
        obtain ⟨v, cv, h', μ', rfl, rfl, h2, h3⟩ := he
        exact hp v cv w'' μ' h' h2 h3 e
      | outgrown => exact he.elim
    | _ => exact hn.elim

theorem callF_sound {h : H} {μ : Mu} (hr : HR h μ w) {cx : Cx} (hc : CallOK P cx.call) (ho : OvOK P cx.ov) {fr : Fr} {f : FuncId} {args : List AV} {cargs : Array Value} (hv : VRs μ args cargs.toList) {k : KV} {r : R} (hf : Fin r)
    (e : callF P cx fr f args h k = r) (hk : KOK h μ w o a next k r) (hp : POK h μ w cx fr a Q r) : o.upon P a next Q ((callFunc f cargs).run P w) := by
  unfold callF at e
  have fin : ∀ r', toP (hpK cx fr) k r' = r → Fin r' := fun r' e s hs => by subst hs; exact hf.no e
  cases hov : cx.ov f with
  | some g =>
    rw [hov] at e
    exact next_upon (ho f g hov args h μ w cargs _ hr hv rfl (fin _ e)) e hk hp
  | none =>
    rw [hov] at e
    change callN cx fr f args h k (fk P f) = r at e
    cases hfk : fk P f with
    | succ m => rw [hfk] at e; exact hf.no e
    | zero =>
      rw [hfk] at e
      change toP (hpK cx fr) k (cx.call f args h) = r at e
      have hrun : (callFunc f cargs).run P w = .ok (.enter f cargs) w := by
        unfold fk at hfk
        split at hfk
        · cases hfk
        · next fn hfn =>
          split at hfk
          · cases hfk
          · next hname =>
            split at hfk
            · next c hb => simp [callFunc, hfn, hname, hb]
            · cases hfk
      rw [hrun]
      exact next_upon (r' := cx.call f args h) ⟨rfl, hc f args h μ w cargs _ hr hv rfl (fin _ e)⟩ e hk hp

theorem callV_sound {h : H} {μ : Mu} (hr : HR h μ w) {cx : Cx} (hc : CallOK P cx.call) (ho : OvOK P cx.ov) {fr : Fr} {fv : AV} {cf : Value} (hfv : VR μ fv cf) {args : List AV} {cargs : Array Value} (hv : VRs μ args cargs.toList) {k : KV} {r : R} (hf : Fin r)
    (e : callV P cx fr fv args h k = r) (hk : KOK h μ w o a next k r) (hp : POK h μ w cx fr a Q r) :
    o.upon P a next Q ((do let d ← Deferred.ofValue cf cargs; invoke d.target d.args : Sem Next).run P w) := by
  unfold callV at e
  split at e
  · next f first cap =>
    cases hfv with | func _ _ _ first' cap' h1 h2 =>
    have : (do let d ← Deferred.ofValue (.func (.func f) first' cap') cargs; invoke d.target d.args : Sem Next) = callFunc f (first' ++ cargs ++ cap') := rfl
    rw [this]
    exact callF_sound hr hc ho (cargs := first' ++ cargs ++ cap') (by
      rw [Array.toList_append, Array.toList_append, List.append_assoc]
      exact h1.append (hv.append h2)) hf e hk hp
  · exact hf.no e

theorem recvOf_find {t : TypeId} {name : String} {f : FuncId} {b : Bool} {e : Option TypeId} (h : recvOf P t name = some (f, b, e)) :
    ∃ i m, P.info? t = some i ∧ i.methods.find? (·.name == name) = some m ∧ m.path = #[] ∧ m.func = some (f, b) ∧ P.underlying t = some (desc P t) ∧
      ((e = none ∧ (b = true ∧ (∃ el, desc P t = .pointer el) ∨ b = false ∧ ∀ el, desc P t ≠ .pointer el)) ∨ (∃ el, e = some el ∧ b = false ∧ desc P t = .pointer el)) := by
  unfold recvOf at h
  split at h
  · next i hi =>
    split at h
    · next m hm =>
      cases hp : m.path.isEmpty with
      | false => rw [hp] at h; simp at h
      | true =>
        rw [hp] at h
        simp only [if_true] at h
        have hp : m.path = #[] := by simpa using hp
        split at h
        · next f' hf =>
          split at h
          · next el hd =>
            cases h
            exact ⟨i, m, hi, hm, hp, hf, by rw [hd]; exact desc_eq hd (by simp), .inl ⟨rfl, .inl ⟨rfl, el, hd⟩⟩⟩
          · cases h
        · next f' hf =>
          split at h
          · next el hd =>
            cases h
            exact ⟨i, m, hi, hm, hp, hf, by rw [hd]; exact desc_eq hd (by simp), .inr ⟨el, rfl, rfl, hd⟩⟩
          · cases h
          · next h1 h2 =>
            cases h
            exact ⟨i, m, hi, hm, hp, hf, desc_eq rfl h2, .inl ⟨rfl, .inr ⟨rfl, h1⟩⟩⟩
        · cases h
    · cases h
  · cases h
theorem run_method {t : TypeId} {name : String} {f : FuncId} {b : Bool} {v rv : Value} {i : TypeInfo} {m : Method} (hi : P.info? t = some i) (hm : i.methods.find? (·.name == name) = some m) (hp : m.path = #[]) (hf : m.func = some (f, b))
    (hr : ∀ s, (receiverAt t (.val v) b (some s)).run P w = .ok rv w) (n : Nat) : (method (n + 1) t v name).run P w = .ok (f, rv) w := by
  simp [method, run_typeInfo hi, hm, hp, follow, hf, hr]
theorem invA_sound {h : H} {μ : Mu} (hr : HR h μ w) {cx : Cx} (hc : CallOK P cx.call) (ho : OvOK P cx.ov) {fr : Fr} {name : String} {rv : AV} {crv : Value} (hrv : VR μ rv crv) {args : List AV} {cargs : Array Value} (hv : VRs μ args cargs.toList) {k : KV} {r : R} (hf : Fin r)
    (e : invA P cx fr name rv args h k = r) (hk : KOK h μ w o a next k r) (hp : POK h μ w cx fr a Q r) :
    o.upon P a next Q ((callMethod crv name cargs).run P w) := by
  unfold invA at e
  split at e
  · next t v =>
    cases hrv with | iface _ _ cv hcv =>
    have go : ∀ (f : FuncId) (b : Bool) (i : TypeInfo) (m : Method) (x : AV) (xv : Value), P.info? t = some i → i.methods.find? (·.name == name) = some m → m.path = #[] → m.func = some (f, b) →
        (∀ s, (receiverAt t (.val cv) b (some s)).run P w = .ok xv w) → VR μ x xv → callF P cx fr f (x :: args) h k = r →
        o.upon P a next Q ((callMethod (.iface t cv) name cargs).run P w) := by
      intro f b i m x xv hi hm hpa hfu hrun hx e
      have := run_method (P := P) (w := w) (v := cv) hi hm hpa hfu hrun
      have hd0 : 0 < Made.depth := by decide
      obtain ⟨n, hn⟩ : ∃ n, P.types.size + Made.depth = n + 1 := ⟨P.types.size + Made.depth - 1, by omega⟩
      have h2 := this n
      rw [← hn] at h2
      have : (callMethod (.iface t cv) name cargs).run P w = (callFunc f (#[xv] ++ cargs)).run P w := by
        simp [callMethod, h2]
      rw [this]
      exact callF_sound hr hc ho (cargs := #[xv] ++ cargs) (by
        rw [Array.toList_append]
        exact .cons _ _ _ _ hx hv) hf e hk hp
    split at e
    · next f b hrec =>
      obtain ⟨i, m, hi, hm, hpa, hfu, hu, hcase⟩ := recvOf_find hrec
      rcases hcase with ⟨_, ⟨rfl, el, hd⟩ | ⟨rfl, hd⟩⟩ | ⟨_, h0, _⟩
      · exact go f _ i m v cv hi hm hpa hfu (fun s => by rw [hd] at hu; simp [receiverAt, run_underlying hu, Place.get]) hcv e
      · refine go f _ i m v cv hi hm hpa hfu (fun s => ?_) hcv e
        simp only [receiverAt, Sem.run_bind, run_underlying hu, Result.andThen]
        cases hdd : desc P t <;> first | exact absurd hdd (hd _) | simp [Place.get]
      · cases h0
    · next f b el hrec =>
      obtain ⟨i, m, hi, hm, hpa, hfu, hu, hcase⟩ := recvOf_find hrec
      rcases hcase with ⟨h0, _⟩ | ⟨el', h0, rfl, hd⟩
      · cases h0
      · cases h0
        obtain ⟨b', of, rfl, e⟩ := onPtr_eq hf e
        obtain ⟨L, hL, rfl⟩ := hcv.ptr_inv
        obtain ⟨x, xv, h1, h2, h3⟩ := ldT_sound (P := P) hr hf e hL
        refine go f _ i m x xv hi hm hpa hfu (fun s => ?_) h2 h3
        rw [hd] at hu
        have hw : ∀ (ad : Addr) (s : String), Builtin.ssaWrapNilChk_ #[t] t #[.pointer (some ad), strVal "", strVal s] = pure (.pointer (some ad)) := fun _ _ => rfl
        simp [receiverAt, run_underlying hu, Place.get, hw, asAddr, h1]
    · exact hf.no e
  · exact hf.no e
end
end Go.Ev
