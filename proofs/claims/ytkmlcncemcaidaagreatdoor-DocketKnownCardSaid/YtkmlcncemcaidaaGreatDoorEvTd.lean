/- The abstract evaluator: operations on a list of operands. -/
import Derived.Test.YtkmlcncemcaidaaGreatDoorEvTc
namespace Go.Ev
variable {P : Program} {w : World} {o : Oper} {a : Act} {next : Act → World → Prop} {Q : Exit → Act → World → Prop}

theorem OutN.wp {s : Sem Next} {h : H} {μ : Mu} {k : KV} {r : R} (ho : OutN P s h μ w k r) (hk : KOK h μ w o a next k r) : o.upon P a next Q (s.run P w) := by
  obtain ⟨v, cv, w', μ', h', h1, h2, h3, h4⟩ := ho
  rw [h1]
  exact hk v cv w' μ' h' h2 h3 h4

theorem slice_ops {μ : Mu} {ρ : Operand → Value} {x : Operand} {lo hi mx : Option Operand} {l : List AV} (hv : VRs μ l (((#[x] ++ lo.toArray ++ hi.toArray ++ mx.toArray : Array Operand).toList).map ρ)) :
    VRs μ l (ρ x :: (lo.toList.map ρ ++ hi.toList.map ρ ++ mx.toList.map ρ)) := by
  cases lo <;> cases hi <;> cases mx <;> simpa using hv

theorem aSlice_sound {cx : Cx} {fr : Fr} {h : H} {μ : Mu} (hr : HR h μ w) {t : TypeId} {x : Operand} {lo hi mx : Option Operand} {l : List AV} (hv : VRs μ l (a.eval x :: (lo.toList.map a.eval ++ hi.toList.map a.eval ++ mx.toList.map a.eval))) {k : KV} {r : R} (hf : Fin r)
    (e : aSlice t x lo hi mx o P cx fr l h k = r) : Out P (Instr.sliceAt t (a.eval x) (lo.map a.eval) (hi.map a.eval) (mx.map a.eval)) h μ w k r := by
  unfold aSlice at e
  split at e
  · cases hv with | cons _ _ _ _ h0 hs =>
    exact sliceA_sound hr h0 .none .none .none (fun _ => rfl) hf e
  · cases hv with | cons _ _ _ _ h0 hs =>
    cases hs with | cons _ _ _ _ h1 hs =>
    exact sliceA_sound hr h0 (.some h1) .none .none (fun _ => rfl) hf e
  · cases hv with | cons _ _ _ _ h0 hs =>
    cases hs with | cons _ _ _ _ h1 hs =>
    exact sliceA_sound hr h0 .none (.some h1) .none (fun _ => rfl) hf e
  · cases hv with | cons _ _ _ _ h0 hs =>
    cases hs with | cons _ _ _ _ h1 hs =>
    cases hs with | cons _ _ _ _ h2 hs =>
    exact sliceA_sound hr h0 (.some h1) (.some h2) .none (fun _ => rfl) hf e
  · cases hv with | cons _ _ _ _ h0 hs =>
    cases hs with | cons _ _ _ _ h1 hs =>
    cases hs with | cons _ _ _ _ h2 hs =>
    exact sliceA_sound hr h0 .none (.some h1) (.some h2) (fun h => by cases h) hf e
  · cases hv with | cons _ _ _ _ h0 hs =>
    cases hs with | cons _ _ _ _ h1 hs =>
    cases hs with | cons _ _ _ _ h2 hs =>
    cases hs with | cons _ _ _ _ h3 hs =>
    exact sliceA_sound hr h0 (.some h1) (.some h2) (.some h3) (fun h => by cases h) hf e
  · exact hf.no e

theorem opL_sound {cx : Cx} (hc : CallOK P cx.call) (ho : OvOK P cx.ov) {fr : Fr} {h : H} {μ : Mu} (hr : HR h μ w) {l : List AV} (hv : VRs μ l (o.op.operands.toList.map a.eval)) {k : KV} {r : R} (hf : Fin r) (e : opL o.op o P cx fr l h k = r)
    (hk : KOK h μ w o a next k r) (hp : POK h μ w cx fr a Q r) : o.wp P a w next Q := by
  cases hop : o.op <;> rw [hop] at e hv <;> first | exact hf.no e | skip
  · next t ps =>
    change aBuild t ps o P cx fr l h k = r at e
    have hv' : VRs μ l (ps.toList.map fun p => a.eval p.2) := by
      have h2 := hv
      simp [Op.operands, List.map_map] at h2
      exact h2
    exact (build_sound (P := P) (ρ := a.eval) hr hv' hf e).wp hk (by unfold execOp; rw [hop])
  · next t n ps =>
    change aBuildSlice t n ps o P cx fr l h k = r at e
    have hv' : VRs μ l (ps.toList.map fun p => a.eval p.2) := by
      have h2 := hv
      simp [Op.operands, List.map_map] at h2
      exact h2
    exact (buildSlice_sound (P := P) (ρ := a.eval) hr hv' hf e).wp hk (by unfold execOp; rw [hop])
  · next fn fi ca =>
    change aMkF fn fi ca o P cx fr l h k = r at e
    unfold aMkF at e
    split at e
    · next f =>
      have hv' : VRs μ l (fi.toList.map a.eval ++ ca.toList.map a.eval) := by simpa [Op.operands] using hv
      have hlen : (fi.toList.map a.eval).length = fi.size := by simp
      have h1 := hv'.take fi.size
      have h2 := hv'.drop fi.size
      rw [← hlen] at h1 h2
      rw [List.take_left] at h1
      rw [List.drop_left] at h2
      rw [hlen] at h1 h2
      exact Out.wp (s := Instr.makeFunc (.func f) (fi.map a.eval) (ca.map a.eval)) (.same hr rfl (.func _ _ _ _ _ (by simpa using h1) (by simpa using h2)) e) hk (by unfold execOp; rw [hop])
    · exact hf.no e
  · next t x lo hi mx =>
    change aSlice t x lo hi mx o P cx fr l h k = r at e
    exact (aSlice_sound (P := P) hr (slice_ops hv) hf e).wp hk (by unfold execOp; rw [hop])
  · next c =>
    change aCall c o P cx fr l h k = r at e
    unfold Oper.wp
    have hex : execOp a.eval o = (do let d ← resolve a.eval c o.type; invoke d.target d.args) := by unfold execOp; rw [hop]
    rw [hex]
    unfold aCall at e
    obtain ⟨callee, args, ats⟩ : Go.Call := c
    change VRs μ l ((Call.operands ⟨callee, args, ats⟩).toList.map a.eval) at hv
    unfold Call.operands at hv
    cases callee with
    | value f =>
      change cV f args ats o P cx fr l h k = r at e
      simp only [Array.toList_append, List.map_cons, List.singleton_append] at hv
      cases hv with | cons fv _ l _ h0 hs =>
      change callV P cx fr fv l h k = r at e
      exact callV_sound (cargs := args.map a.eval) hr hc ho h0 (by simpa using hs) hf e hk hp
    | invoke rv m =>
      change cI rv m args ats o P cx fr l h k = r at e
      simp only [Array.toList_append, List.map_cons, List.singleton_append] at hv
      cases hv with | cons fv _ l _ h0 hs =>
      change invA P cx fr m fv l h k = r at e
      have : (do let d ← resolve a.eval ⟨.invoke rv m, args, ats⟩ o.type; invoke d.target d.args : Sem Next) = callMethod (a.eval rv) m (((#[a.eval rv] ++ args.map a.eval).extract 1 (#[a.eval rv] ++ args.map a.eval).size)) := by
        have h0 : (#[a.eval rv] ++ args.map a.eval)[0]? = some (a.eval rv) := by
          rw [Array.getElem?_append_left (by simp)]
          simp
        simp [resolve, invoke, h0]
      rw [this]
      have h2 : (#[a.eval rv] ++ args.map a.eval).extract 1 (#[a.eval rv] ++ args.map a.eval).size = args.map a.eval := by
        apply Array.ext'
        simp
        exact List.take_of_length_le (by simp)
      rw [h2]
      exact invA_sound (cargs := args.map a.eval) hr hc ho h0 (by simpa using hs) hf e hk hp
    | builtin b =>
      change cB b args ats o P cx fr l h k = r at e
      have hv' : VRs μ l (args.map a.eval).toList := by simpa using hv
      have hrun : (do let d ← resolve a.eval ⟨.builtin b, args, ats⟩ o.type; invoke d.target d.args : Sem Next) = builtin b ats o.type (args.map fun | .const _ => true | _ => false) (args.map a.eval) := rfl
      rw [hrun]
      unfold cB at e
      split at e
      · next v =>
        split at e
        · next t x =>
          obtain ⟨cv, hcv, hx⟩ := hv'.inv1
          rw [hcv]
          generalize hcc : cv = c' at hx
          cases hx with | iface _ _ c'' h3 =>
          have : (builtin .panic ats o.type (args.map fun | .const _ => true | _ => false) #[Value.iface t c'']).run P w = .halt (.panic (.iface t c'')) w := rfl
          rw [this]
          exact hp _ _ w μ h (.refl hr) (.iface t x c'' h3) e
        · exact hf.no e
      · exact OutN.wp (builtA_sound (P := P) hr hv' hf e) hk

end Go.Ev
