/- The abstract evaluator: draw regions, one operation; what leaves the heap as it is. -/
import Derived.Test.YtkmlcncemcaidaaGreatDoorEvU
namespace Go.Ev
variable {P : Program} {cx : Cx} {K nt : Nat} {r : R} {ops : Array Oper} {o : Oper} {h : H}

def Same (h : H) (r : R) : Prop := ∀ v h', r = .ok v h' → h'.next = h.next → h' = h
theorem Same.fail {s : String} : Same h (.fail s) := by intro v h' e; cases e
theorem Same.pan {v : AV} {g : H} : Same h (.pan v g) := by intro v h' e; cases e
theorem Same.ok {v : AV} : Same h (.ok v h) := by intro v' h' e _; cases e; rfl
theorem Same.new {v : AV} {b : Blk} : Same h (.ok v (h.new b)) := by
  intro v' h' e hn; cases e
  simp only [H.new] at hn
  omega
theorem Same.bool {a b : R} {c : Bool} (h1 : Same h a) (h2 : Same h b) : Same h (Bool.rec a b c) := by cases c <;> first | exact h1 | exact h2
theorem Same.cnd {a b : R} {c : Bool} (h1 : Same h a) (h2 : Same h b) : Same h (bif c then a else b) := by cases c <;> first | exact h2 | exact h1
theorem Same.opt {α : Type} {g : α → R} {s : String} {x : Option α} (h1 : ∀ x, Same h (g x)) : Same h (Option.rec (.fail s) g x) := by cases x <;> first | exact .fail | exact h1 _
theorem Same.onPtr {k : Nat → Nat → R} {a : AV} (h1 : ∀ b o, Same h (k b o)) : Same h (onPtr k a) := by
  unfold Ev.onPtr; split <;> first | exact h1 _ _ | exact .fail
theorem Same.onBlk {k : KB} {b : Nat} {g : H} (h1 : ∀ ty n d t fz ex, Same h (k ty n d t fz ex)) : Same h (onBlk g b k) := by
  unfold Ev.onBlk
  refine .opt fun x => ?_
  cases x with
  | cells ty n d t fz ex => exact h1 ty n d t fz ex
  | mp es bs cl ro => exact .fail
  | it m since seen last => exact .fail
theorem Same.onRow {k : List AV → R} {b o n : Nat} {g : H} (h1 : ∀ l, Same h (k l)) : Same h (onRow g b o n k) :=
  .onBlk fun _ _ _ _ _ _ => .bool .fail (h1 _)
theorem Same.onNat {k : Nat → R} {a : AV} (h1 : ∀ i, Same h (k i)) : Same h (onNat k a) := by
  unfold Ev.onNat
  split
  · next n => cases n <;> first | exact h1 _ | exact .fail
  · exact .fail
theorem Same.ldT {t : TypeId} {b o : Nat} : Same h (ldT P t h okK b o) := by
  unfold Ev.ldT
  generalize tk P t = m
  match m with
  | 0 => exact .fail
  | 1 => exact .onBlk fun _ _ _ _ _ _ => .bool .fail .ok
  | _ + 2 => exact .onBlk fun _ _ _ _ _ _ => .bool .fail .ok
theorem same_a1 {x : Operand} {args : List AV} (h1 : ∀ a, Same h (op1 o.op o P cx fr0 a h okK)) : Same h (runAr P cx o args h (.a1 x)) := by
  unfold runAr
  match args with
  | [] => exact .fail
  | [a] => exact h1 a
  | _ :: _ :: _ => exact .fail
theorem same_a2 {x y : Operand} {args : List AV} (h1 : ∀ a b, Same h (op2 o.op o P cx fr0 a b h okK)) : Same h (runAr P cx o args h (.a2 x y)) := by
  unfold runAr
  match args with
  | [] => exact .fail
  | [_] => exact .fail
  | [a, b] => exact h1 a b
  | _ :: _ :: _ :: _ => exact .fail
theorem same_a3 {x y z : Operand} {args : List AV} (h1 : ∀ a b c, Same h (op3 o.op o P cx fr0 a b c h okK)) : Same h (runAr P cx o args h (.a3 x y z)) := by
  unfold runAr
  match args with
  | [] => exact .fail
  | [_] => exact .fail
  | [_, _] => exact .fail
  | [a, b, c] => exact h1 a b c
  | _ :: _ :: _ :: _ :: _ => exact .fail
theorem same_al {xs : List Operand} {args : List AV} (h1 : ∀ l, Same h (opL o.op o P cx fr0 l h okK)) : Same h (runAr P cx o args h (.al xs)) := by
  unfold runAr
  match args with
  | [] => exact h1 _
  | [_] => exact h1 _
  | [_, _] => exact h1 _
  | [_, _, _] => exact h1 _
  | _ :: _ :: _ :: _ :: _ => exact h1 _
theorem same_binI {op : BinOp} {k : IntKind} {a b : Int} : Same h (binI op k a b h okK) := by
  cases op
  case quo => exact .bool .ok .fail
  case rem => exact .bool .ok .fail
  case shl => exact .bool .fail .ok
  case shr => exact .bool .fail .ok
  all_goals exact .ok
theorem same_fltO {x : Option Nat} : Same h (fltO x h okK) := by cases x <;> first | exact .fail | exact .ok
theorem same_binA {op : BinOp} {t : TypeId} {x y : Operand} {a b : AV} : Same h (binA P op t x y a b h okK) := by
  unfold binA
  split
  · exact .cnd same_binI .fail
  · cases op
    case add => exact .bool .fail .ok
    all_goals first | exact .ok | exact .fail
  · cases op <;> first | exact same_fltO | exact .ok | exact .fail
  · cases op
    case eql => unfold binO; simp only; split <;> first | exact .ok | exact .fail
    case neq => unfold binO; simp only; split <;> first | exact .ok | exact .fail
    all_goals exact .fail
theorem same_unA {op : UnOp} {a : AV} : Same h (unA op a h okK) := by
  unfold unA; split <;> first | exact .ok | exact .fail
theorem same_b2s {l : List AV} : Same h (b2s l h okK) := by
  unfold b2s; split <;> first | exact .ok | exact .fail
theorem same_convA {s d : TypeId} {a : AV} : Same h (convA P s d a h okK) := by
  unfold convA
  split
  · exact .ok
  · exact .ok
  · split
    · split <;> first | exact .ok | exact .fail
    · exact .fail
  · exact .ok
  · split <;> first | exact .new | exact .fail
  · split <;> first | exact .ok | exact .fail
  · split <;> first | exact .onRow fun _ => same_b2s | exact .fail
  · split <;> first | exact .onRow fun _ => same_b2s | exact .fail
  · exact .cnd .fail (.onBlk fun _ _ _ _ _ _ => .bool .fail .ok)
  · exact .onBlk fun _ _ _ _ _ _ => .cnd .ok .fail
  · exact .fail
theorem same_fieldA {s : TypeId} {i : Nat} {a : AV} : Same h (fieldA P s i a h okK) := by
  unfold fieldA
  split
  · split
    · split <;> first | exact .ok | exact .fail
    · exact .fail
  · exact .fail
theorem same_ixS {z b o i l : Nat} : Same h (ixS z b o i l h okK) := .bool .fail .ok
theorem same_ixN {t : TypeId} {a : AV} {i : Nat} : Same h (ixN P t a h okK i) := by
  unfold ixN
  split
  · split <;> first | exact same_ixS | exact .fail
  · split <;> first | exact same_ixS | exact .fail
  · split <;> first | exact same_ixS | exact .fail
  · exact .fail
theorem same_ixV {t : TypeId} {a : AV} {i : Nat} : Same h (ixV P t a h okK i) := by
  unfold ixV
  split
  · split <;> first | exact .bool .fail .ok | exact .fail
  · split
    · refine .bool .fail ?_
      split <;> first | exact .ok | exact .fail
    · exact .fail
  · exact .fail
theorem same_sliceA {t : TypeId} {a : AV} {lo hi mx : Option AV} : Same h (sliceA P t a lo hi mx h okK) := by
  unfold sliceA
  split
  · split <;> first | exact .bool .fail .ok | exact .fail
  · split <;> first | exact .bool .fail .ok | exact .fail
  · split <;> first | exact .bool .fail .ok | exact .fail | (split <;> first | exact .bool .fail .ok | exact .fail)
  · split <;> first | exact .ok | exact .fail
  · split
    · split <;> first | exact .bool .fail .ok | exact .fail
    · exact .fail
  · exact .fail
theorem same_lenA {t : TypeId} {a : AV} : Same h (lenA P t a h okK) := by
  unfold lenA
  split <;> first | exact .ok | exact .fail | skip
  split <;> first | exact .ok | exact .fail
theorem r_same {args : List AV} (hc : clsOp P false o.op = .r) : Same h (runOp P cx o args h) := by
  unfold runOp
  cases hop : o.op <;> rw [hop] at hc <;> first | (cases hc; done) | skip
  case move x => exact same_a1 fun a => by rw [hop]; exact .ok
  case assign x => exact same_a1 fun a => by rw [hop]; exact .ok
  case load t x => exact same_a1 fun a => by rw [hop]; exact .onPtr fun _ _ => .ldT
  case nilCheck x =>
    refine same_a1 fun a => ?_
    rw [hop]
    show Same h (aNil x o P cx fr0 a h okK)
    unfold aNil
    split <;> first | exact .ok | exact .fail
  case unOp op t x => exact same_a1 fun a => by rw [hop]; exact same_unA
  case binOp op t x y u => exact same_a2 fun a b => by rw [hop]; exact same_binA
  case fieldAddr t x i => exact same_a1 fun a => by rw [hop]; exact .opt fun d => .onPtr fun _ _ => .ok
  case field t x i => exact same_a1 fun a => by rw [hop]; exact same_fieldA
  case index t x i => exact same_a2 fun a b => by rw [hop]; exact .onNat fun _ => same_ixV
  case indexAddr t x i => exact same_a2 fun a b => by rw [hop]; exact .onNat fun _ => same_ixN
  case extract x i =>
    refine same_a1 fun a => ?_
    rw [hop]
    show Same h (aEx x i o P cx fr0 a h okK)
    unfold aEx
    split
    · split <;> first | exact .ok | exact .fail
    · exact .fail
  case slice t x lo hi mx =>
    refine same_al fun l => ?_
    rw [hop]
    show Same h (aSlice t x lo hi mx o P cx fr0 l h okK)
    unfold aSlice
    split <;> first | exact same_sliceA | exact .fail
  case pick x y z =>
    refine same_a3 fun a b c => ?_
    rw [hop]
    show Same h (aPick x y z o P cx fr0 a b c h okK)
    unfold aPick
    split
    · exact .bool .ok .ok
    · exact .fail
  case makeInterface t x =>
    refine same_a1 fun a => ?_
    rw [hop]
    show Same h (aMkI t x o P cx fr0 a h okK)
    unfold aMkI
    split <;> first | exact .ok | exact .fail
  case convert s d x =>
    refine same_a1 fun a => ?_
    rw [hop]
    show Same h (aConv s d x o P cx fr0 a h okK)
    unfold aConv
    split
    · exact same_convA
    · exact .fail
  case call c =>
    obtain ⟨cl, as, ats⟩ := c
    cases cl <;> first | (cases hc; done) | skip
    next b =>
    cases b <;> first | (cases hc; done) | skip
    refine same_al fun l => ?_
    rw [hop]
    show Same h (cB .len as ats o P cx fr0 l h okK)
    unfold cB
    split
    · contradiction
    · unfold builtA
      split
      · unfold builtB
        split <;> first | exact same_lenA | exact .fail | contradiction
      · exact .fail

/-! what reads no memory -/
def Ind (F : H → R) : Prop := ∀ h1 h2 v h', F h1 = .ok v h' → F h2 = .ok v h2
theorem Ind.fail {s : String} : Ind fun _ => .fail s := by intro _ _ _ _ e; cases e
theorem Ind.ok {v : AV} : Ind fun h => .ok v h := by intro _ _ _ _ e; cases e; rfl
theorem Ind.bool {a b : H → R} {c : Bool} (h1 : Ind a) (h2 : Ind b) : Ind fun h => Bool.rec (a h) (b h) c := by cases c <;> first | exact h1 | exact h2
theorem Ind.onPtr {k : H → Nat → Nat → R} {a : AV} (h1 : ∀ b o, Ind fun h => k h b o) : Ind fun h => onPtr (k h) a := by
  cases a <;> first | exact h1 _ _ | exact .fail
theorem Ind.onNat {k : H → Nat → R} {a : AV} (h1 : ∀ i, Ind fun h => k h i) : Ind fun h => onNat (k h) a := by
  cases a
  case int kd n => cases n <;> first | exact h1 _ | exact .fail
  all_goals exact .fail
theorem ind_a1 {x : Operand} {args : List AV} (h1 : ∀ a, Ind fun h => op1 o.op o P cx fr0 a h okK) : Ind fun h => runAr P cx o args h (.a1 x) := by
  match args with
  | [] => exact .fail
  | [a] => exact h1 a
  | _ :: _ :: _ => exact .fail
theorem ind_a2 {x y : Operand} {args : List AV} (h1 : ∀ a b, Ind fun h => op2 o.op o P cx fr0 a b h okK) : Ind fun h => runAr P cx o args h (.a2 x y) := by
  match args with
  | [] => exact .fail
  | [_] => exact .fail
  | [a, b] => exact h1 a b
  | _ :: _ :: _ :: _ => exact .fail
theorem ind_a3 {x y z : Operand} {args : List AV} (h1 : ∀ a b c, Ind fun h => op3 o.op o P cx fr0 a b c h okK) : Ind fun h => runAr P cx o args h (.a3 x y z) := by
  match args with
  | [] => exact .fail
  | [_] => exact .fail
  | [_, _] => exact .fail
  | [a, b, c] => exact h1 a b c
  | _ :: _ :: _ :: _ :: _ => exact .fail
theorem ind_al {xs : List Operand} {args : List AV} (h1 : ∀ l, Ind fun h => opL o.op o P cx fr0 l h okK) : Ind fun h => runAr P cx o args h (.al xs) := by
  match args with
  | [] => exact h1 _
  | [_] => exact h1 _
  | [_, _] => exact h1 _
  | [_, _, _] => exact h1 _
  | _ :: _ :: _ :: _ :: _ => exact h1 _
theorem ind_unA {op : UnOp} {a : AV} : Ind fun h => unA op a h okK := by
  unfold unA
  split <;> first | exact .ok | exact .fail
theorem ind_fieldA {s : TypeId} {i : Nat} {a : AV} : Ind fun h => fieldA P s i a h okK := by
  unfold fieldA
  split
  · split
    · split <;> first | exact .ok | exact .fail
    · exact .fail
  · exact .fail
theorem ind_ixS {z b o i l : Nat} : Ind fun h => ixS z b o i l h okK := .bool .fail .ok
theorem ind_ixN {t : TypeId} {a : AV} {i : Nat} : Ind fun h => ixN P t a h okK i := by
  unfold ixN
  split
  · split <;> first | exact ind_ixS | exact .fail
  · split <;> first | exact ind_ixS | exact .fail
  · split <;> first | exact ind_ixS | exact .fail
  · exact .fail
theorem ind_ixV {t : TypeId} {a : AV} {i : Nat} : Ind fun h => ixV P t a h okK i := by
  unfold ixV
  split
  · split <;> first | exact .bool .fail .ok | exact .fail
  · split
    · refine .bool .fail ?_
      split <;> first | exact .ok | exact .fail
    · exact .fail
  · exact .fail
theorem ind_sliceA {t : TypeId} {a : AV} {lo hi mx : Option AV} : Ind fun h => sliceA P t a lo hi mx h okK := by
  unfold sliceA
  split
  · split <;> first | exact .bool .fail .ok | exact .fail
  · split <;> first | exact .bool .fail .ok | exact .fail
  · split <;> first | exact .bool .fail .ok | exact .fail | (split <;> first | exact .bool .fail .ok | exact .fail)
  · split <;> first | exact .ok | exact .fail
  · split
    · split <;> first | exact .bool .fail .ok | exact .fail
    · exact .fail
  · exact .fail
theorem pure_ind {args : List AV} (hc : pureOp o.op = true) : Ind fun h => runOp P cx o args h := by
  unfold runOp
  cases hop : o.op <;> rw [hop] at hc <;> first | (cases hc; done) | skip
  case move x => exact ind_a1 fun a => by rw [hop]; exact .ok
  case assign x => exact ind_a1 fun a => by rw [hop]; exact .ok
  case nilCheck x =>
    refine ind_a1 fun a => ?_
    rw [hop]
    show Ind fun h => aNil x o P cx fr0 a h okK
    unfold aNil
    split <;> first | exact .ok | exact .fail
  case unOp op t x => exact ind_a1 fun a => by rw [hop]; exact ind_unA
  case fieldAddr t x i =>
    refine ind_a1 fun a => ?_
    rw [hop]
    show Ind fun h => aFA t x i o P cx fr0 a h okK
    unfold aFA
    cases foff P t i with
    | none => exact .fail
    | some d => exact .onPtr fun _ _ => .ok
  case field t x i => exact ind_a1 fun a => by rw [hop]; exact ind_fieldA
  case index t x i => exact ind_a2 fun a b => by rw [hop]; exact .onNat fun _ => ind_ixV
  case indexAddr t x i => exact ind_a2 fun a b => by rw [hop]; exact .onNat fun _ => ind_ixN
  case extract x i =>
    refine ind_a1 fun a => ?_
    rw [hop]
    show Ind fun h => aEx x i o P cx fr0 a h okK
    unfold aEx
    split
    · split <;> first | exact .ok | exact .fail
    · exact .fail
  case slice t x lo hi mx =>
    refine ind_al fun l => ?_
    rw [hop]
    show Ind fun h => aSlice t x lo hi mx o P cx fr0 l h okK
    unfold aSlice
    split <;> first | exact ind_sliceA | exact .fail
  case pick x y z =>
    refine ind_a3 fun a b c => ?_
    rw [hop]
    show Ind fun h => aPick x y z o P cx fr0 a b c h okK
    unfold aPick
    split
    · exact .bool .ok .ok
    · exact .fail
  case makeInterface t x =>
    refine ind_a1 fun a => ?_
    rw [hop]
    show Ind fun h => aMkI t x o P cx fr0 a h okK
    unfold aMkI
    split <;> first | exact .ok | exact .fail

end Go.Ev
