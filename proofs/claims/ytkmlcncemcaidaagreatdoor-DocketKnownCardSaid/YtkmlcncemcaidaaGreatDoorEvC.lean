/- The abstract evaluator: operations as trees, code, calls. -/
import Derived.Test.YtkmlcncemcaidaaGreatDoorEvB
namespace Go.Ev

structure Cx where
  K : Nat
  call : Call
  ov : Nat → Option (List AV → H → R)
  lf : Nat
  hp : AV → Fr → H → R

noncomputable def bit (K t : Nat) : Bool := Nat.beq (Nat.land (Nat.shiftRight K t) 1) 1
noncomputable def fsC (t : Nat) (p : Nat × AV) (_ : List (Nat × AV)) (ih : AV) : AV := Bool.rec ih p.2 (Nat.beq p.1 t)
noncomputable def fs (t : Nat) (l : List (Nat × AV)) : AV := List.rec (motive := fun _ => AV) .bad (fsC t) l
noncomputable def optBad (o : Option AV) : AV := Option.rec (motive := fun _ => AV) .bad (fun v => v) o
noncomputable def getT (K : Nat) (f : Fr) (t : Nat) : AV := Bool.rec (fs t f.st) (optBad (f.t.get t)) (bit K t)
noncomputable def putB (f : Fr) (d : Nat) (v : AV) (b : Bool) : Fr := Bool.rec ⟨(d, v) :: f.st, f.t, f.d⟩ ⟨f.st, f.t.set d v, f.d⟩ b
noncomputable def putT (K : Nat) (f : Fr) (v : AV) (d : Nat) : Fr := putB f d v (bit K d)
noncomputable def put (K : Nat) (f : Fr) (d : Option Tmp) (v : AV) : Fr := Option.rec (motive := fun _ => Fr) f (putT K f v) d

noncomputable def xT (t : Nat) (K : Nat) (f : Fr) : AV := getT K f t
def xC (v : Value) (_ : Nat) (_ : Fr) : AV := ofV v
noncomputable def xG (g : Nat) (_ : Nat) (_ : Fr) : AV := Bool.rec .bad (.ptr g 0) (Nat.blt g 4096)
def xF (n : Nat) (_ : Nat) (_ : Fr) : AV := .func (.func n) [] []
noncomputable def evX (x : Operand) : Nat → Fr → AV := Operand.rec (motive := fun _ => Nat → Fr → AV) xT xC xG xF x

/- calls -/
/- has it a body of its own? (those without stand in the table of overrides) -/
def fk (P : Program) (f : FuncId) : Nat := match P.funcs[f]? with
  | none => 1
  | some fn => if fn.name = "runtime.NumGoroutine" then 1 else match fn.body with
    | some _ => 0
    | none => 1
noncomputable def findB (c : Nat) : List AV → Nat → Option Int
  | [], _ => some (.negSucc 0)
  | .int .u8 (.ofNat b) :: r, i => bif Nat.beq b c then some (.ofNat i) else findB c r (Nat.succ i)
  | _, _ => none
noncomputable def ixB (r : List AV) (c : Nat) (h : H) (k : KV) : R := bif Nat.blt c 256 then (match findB c r 0 with | some n => k (.int .i64 n) h | none => .fail "IndexByte") else .fail "IndexByte"
def mnzT (P : Program) (f : FuncId) : Option TypeId := match P.funcs[f]? with | some fn => (match fn.resultTypes.toList with | [t] => slOf P t | _ => none) | none => none
noncomputable def extA (P : Program) (f : FuncId) (n : Nat) (args : List AV) (h : H) (k : KV) : R :=
  match n, args with
  | 1, [.flt b] => k (.int .u64 (.ofNat b)) h
  | 2, [.int .u64 (.ofNat n)] => k (.flt n) h
  | 3, [v] => k v h
  | 4, [.str l n, .int .u8 (.ofNat c)] => ixB (strBytes l n) c h k
  | 5, [.int .u64 (.ofNat a), .int .u64 (.ofNat b), .int .u64 (.ofNat c)] =>
    bif Nat.ble c 1 then k (.tup [.int .u64 (.ofNat (Nat.mod (Nat.add (Nat.add a b) c) 18446744073709551616)), .int .u64 (.ofNat (Nat.div (Nat.add (Nat.add a b) c) 18446744073709551616))]) h else .fail "Add64"
  | 6, [.int .i64 (.ofNat n)] => (match mnzT P f with
    | some e => bif Nat.blt n 1099511627776 then k (.sliceU h.next 0 n 1) (h.new (.cells e n [.bad] .nil 0 false)) else .fail "MakeNoZero"
    | none => .fail "MakeNoZero")
  | 7, [.nilslice, .int .u8 (.ofNat _)] => k (.int .i64 (.negSucc 0)) h
  | 7, [.slice b o l _, .int .u8 (.ofNat c)] => onRow h b o l (fun r => ixB r c h k)
  | 7, [.sliceU b q l z, .int .u8 (.ofNat c)] => onRow h b (Nat.mul q z) l (fun r => ixB r c h k)
  | _, _ => .fail "extern"
/- a callee's panic goes to the frame's own handler -/
noncomputable def hpK (cx : Cx) (fr : Fr) : AV → H → R := fun v h => cx.hp v fr h
noncomputable def toP (hp : AV → H → R) (k : KV) (r : R) : R := R.rec (motive := fun _ => R) .fail k hp r
noncomputable def callN (cx : Cx) (fr : Fr) (f : FuncId) (args : List AV) (h : H) (k : KV) (n : Nat) : R := Nat.rec (motive := fun _ => R) (toP (hpK cx fr) k (cx.call f args h)) (fun _ _ => .fail "no body") n
noncomputable def callF (P : Program) (cx : Cx) (fr : Fr) (f : FuncId) (args : List AV) (h : H) (k : KV) : R :=
  Option.rec (motive := fun _ => R) (callN cx fr f args h k (fk P f)) (fun g => toP (hpK cx fr) k (g args h)) (cx.ov f)

noncomputable def callV (P : Program) (cx : Cx) (fr : Fr) (fv : AV) (args : List AV) (h : H) (k : KV) : R := match fv with
  | .func (.func f) first cap => callF P cx fr f (first ++ (args ++ cap)) h k
  | _ => .fail "call value"
def recvOf (P : Program) (t : TypeId) (name : String) : Option (FuncId × Bool × Option TypeId) := match P.info? t with
  | some i => (match i.methods.find? (·.name == name) with
    | some m => if m.path.isEmpty then (match m.func with
        | some (f, true) => (match desc P t with | .pointer _ => some (f, true, none) | _ => none)
        | some (f, false) => (match desc P t with | .pointer e => some (f, false, some e) | .invalid => none | _ => some (f, false, none))
        | none => none) else none
    | none => none)
  | none => none
noncomputable def invA (P : Program) (cx : Cx) (fr : Fr) (name : String) (recv : AV) (args : List AV) (h : H) (k : KV) : R := match recv with
  | .iface t v => (match recvOf P t name with
    | some (f, _, none) => callF P cx fr f (v :: args) h k
    | some (f, _, some e) => onPtr (ldT P e h (fun x h => callF P cx fr f (x :: args) h k)) v
    | none => .fail "method")
  | _ => .fail "invoke"

/- trees of operations: what an operation's operands are that were made just ahead of it, for it alone -/
inductive TE where
  | lf (x : Operand)
  | n0 (o : Oper)
  | n1 (o : Oper) (a : TE)
  | n2 (o : Oper) (a b : TE)
  | n3 (o : Oper) (a b c : TE)
  | nl (o : Oper) (l : TE)
  | nil
  | cons (a l : TE)
  | gd (d : Tmp) (want : Bool) (a : TE)

inductive RT where
  | rt (d : Option Tmp) (t : TE)
  | df (d : Option Tmp) (t : TE)

abbrev KT := Program → Cx → Fr → H → KV → R

/- operations by their kinds; closed alternatives -/
abbrev A0 := Oper → Program → Cx → Fr → H → KV → R
abbrev A1 := Oper → Program → Cx → Fr → AV → H → KV → R
abbrev A2 := Oper → Program → Cx → Fr → AV → AV → H → KV → R
abbrev A3 := Oper → Program → Cx → Fr → AV → AV → AV → H → KV → R
abbrev AL := Oper → Program → Cx → Fr → List AV → H → KV → R
def no {α : Sort _} (_ : α) : R := .fail "op"

noncomputable def aAlloc (e : TypeId) : A0 := fun _ P _ _ h k => Option.rec (motive := fun _ => R) (.fail "alloc") (fun t => k (.ptr h.next 0) (h.new (.cells e (szOf P e) [] t 0 true))) (zt P e)
def f0 : A0 := fun _ _ _ _ _ _ => .fail "op0"
def f1 : A1 := fun _ _ _ _ _ _ _ => .fail "op1"
def f2 : A2 := fun _ _ _ _ _ _ _ _ => .fail "op2"
def f3 : A3 := fun _ _ _ _ _ _ _ _ _ => .fail "op3"
def fl : AL := fun _ _ _ _ _ _ _ => .fail "opl"

def aMove (_ : Operand) : A1 := fun _ _ _ _ v h k => k v h
noncomputable def aBox (e : TypeId) (_ : Operand) : A1 := fun _ _ _ _ v h k => match cellsV v with | some l => k (.ptr h.next 0) (h.new (.cells e l.length [] (listTr l) 0 true)) | none => .fail "box"
noncomputable def aLoad (t : TypeId) (_ : Operand) : A1 := fun _ P _ _ v h k => onPtr (ldT P t h k) v
noncomputable def aNil (_ : Operand) : A1 := fun _ _ _ _ v h k => match v with
  | .ptr .. => k v h
  | .func (.func _) _ _ => k v h
  | .iface .. => k v h
  | _ => .fail "nilCheck"
noncomputable def aUn (op : UnOp) (_ : TypeId) (_ : Operand) : A1 := fun _ _ _ _ v h k => unA op v h k
noncomputable def aConv (s d : TypeId) (_ : Operand) : A1 := fun _ P _ _ v h k => match P.underlying s with | some _ => convA P s d v h k | none => .fail "conv"
noncomputable def aMkI (t : TypeId) (_ : Operand) : A1 := fun _ P _ _ v h k => match desc P t with | .interface _ => .fail "mkI" | .invalid => .fail "mkI" | _ => k (.iface t v) h
noncomputable def faK (d : Nat) (h : H) (k : KV) (b o : Nat) : R := k (.ptr b (Nat.add o d)) h
noncomputable def aFA (s : TypeId) (_ : Operand) (i : Nat) : A1 := fun _ P _ _ v h k => Option.rec (motive := fun _ => R) (.fail "fieldAddr") (fun d => onPtr (faK d h k) v) (foff P s i)
noncomputable def aFld (s : TypeId) (_ : Operand) (i : Nat) : A1 := fun _ P _ _ v h k => fieldA P s i v h k
noncomputable def aTA (_ : Operand) (_ t : TypeId) (ok : Bool) : A1 := fun _ P _ _ v h k => match desc P t, v with
  | .interface _, _ => .fail "typeAssert iface"
  | .invalid, _ => .fail "typeAssert"
  | _, .iface u x => bif Nat.beq u t then k (bif ok then .tup [x, .bool true] else x) h else bif ok then (match zv P t with | some z => k (.tup [z, .bool false]) h | none => .fail "zero") else .fail "typeAssert"
  | _, .niliface => bif ok then (match zv P t with | some z => k (.tup [z, .bool false]) h | none => .fail "zero") else .fail "typeAssert"
  | _, _ => .fail "typeAssert"
noncomputable def aEx (_ : Operand) (i : Nat) : A1 := fun _ _ _ _ v h k => match v with | .tup l => (match l[i]? with | some x => k x h | none => .fail "extract") | _ => .fail "extract"
noncomputable def aPanic (_ : Operand) : A1 := fun _ _ cx f v h _ => match v with | .iface .. => cx.hp v f h | _ => .fail "panic"
noncomputable def aMkM (_ : TypeId) (r : Option Operand) : A0 := fun _ _ _ _ h k => match r with | none => k (.map h.next) (h.new (.mp [] [] 0 false)) | _ => .fail "makeMap"

noncomputable def aStore (t : TypeId) (_ _ : Operand) : A2 := fun _ P _ _ a v h k => onPtr (stT P t h v k) a
noncomputable def aBin (op : BinOp) (t : TypeId) (x y : Operand) (_ : TypeId) : A2 := fun _ P _ _ a b h k => binA P op t x y a b h k
noncomputable def aMkS (t : TypeId) (_ _ : Operand) : A2 := fun _ P _ _ l c h k => match slOf P t, natOf l, natOf c with
    | some e, some l, some c => (match zcells P e with
      | some z => bif an (Nat.ble l c) (an (appOk P e c) (Nat.blt 0 z.length)) then k (.slice h.next 0 l c) (h.new (.cells e (Nat.mul c (szOf P e)) z .nil 0 true)) else .fail "makeSlice"
      | none => .fail "makeSlice")
    | _, _, _ => .fail "makeSlice"
noncomputable def aIA (t : TypeId) (_ _ : Operand) : A2 := fun _ P _ _ x i h k => onNat (ixN P t x h k) i
noncomputable def aIx (t : TypeId) (_ _ : Operand) : A2 := fun _ P _ _ x i h k => onNat (ixV P t x h k) i
noncomputable def aLk (t : TypeId) (_ _ : Operand) (ok : Bool) : A2 := fun _ P _ _ x i h k => lookA P t ok x i h k

noncomputable def pickB (a b : AV) (h : H) (k : KV) (t : Bool) : R := Bool.rec (k b h) (k a h) t
noncomputable def aPick (_ _ _ : Operand) : A3 := fun _ _ _ _ c a b h k => match c with | .bool t => pickB a b h k t | _ => .fail "pick"
noncomputable def aMU (t : TypeId) (_ _ _ : Operand) : A3 := fun _ P _ _ m x v h k => updA P t m x v h k

noncomputable def fillL (pl : Nat → Option (Nat × Nat)) (tot : Nat) : List (Nat × Operand) → List AV → Tr AV → Option (Tr AV)
  | [], [], c => some c
  | (i, _) :: r, v :: l, c => match pl i, cellsV v with
    | some (o, n), some cs => bif an (Nat.beq cs.length n) (Nat.ble (Nat.add o n) tot) then fillL pl tot r l (stCells cs c o) else none
    | _, _ => none
  | _, _, _ => none
noncomputable def plS (P : Program) (fs : Array Field) (i : Nat) : Option (Nat × Nat) := match fs[i]? with | some f => some (f.offset, szOf P f.type) | none => none
noncomputable def plA (z : Nat) (i : Nat) : Option (Nat × Nat) := some (Nat.mul i z, z)
def fsKnown (P : Program) (fs : Array Field) : Bool := fs.toList.all fun f => (P.info? f.type).isSome
noncomputable def aBuild (t : TypeId) (ps : Array (Nat × Operand)) : AL := fun _ P _ _ l h k => match zcells P t, desc P t with
  | some z, .struct fs => bif fsKnown P fs then (match fillL (plS P fs) z.length ps.toList l (listTr z) with
      | some c => k (.agg (ldCells [] c z.length 0)) h | none => .fail "build") else .fail "build"
  | some z, .array _ e => (match P.info? e with
    | some i => (match fillL (plA i.size) z.length ps.toList l (listTr z) with
      | some c => k (.agg (ldCells [] c z.length 0)) h | none => .fail "build")
    | none => .fail "build")
  | _, _ => .fail "build"
noncomputable def aBuildSlice (t : TypeId) (n : Nat) (ps : Array (Nat × Operand)) : AL := fun _ P _ _ l h k => match slOf P t with
  | some e => (match zcells P e with
    | some z => bif an (Nat.blt 0 z.length) (Nat.blt (Nat.mul n z.length) 16777216) then (match fillL (plA z.length) (Nat.mul n z.length) ps.toList l .nil with
      | some c => k (.slice h.next 0 n n) (h.new (.cells e (Nat.mul n z.length) z c 0 true)) | none => .fail "buildSlice") else .fail "buildSlice"
    | none => .fail "buildSlice")
  | none => .fail "buildSlice"
noncomputable def aMkF (fn : Fn) (a _ : Array Operand) : AL := fun _ _ _ _ l h k => match fn with | .func _ => k (.func fn (l.take a.size) (l.drop a.size)) h | _ => .fail "makeFunc"
noncomputable def aSlice (t : TypeId) (_ : Operand) (lo hi mx : Option Operand) : AL := fun _ P _ _ l h k => match l, lo, hi, mx with
  | [x], none, none, none => sliceA P t x none none none h k
  | [x, a], some _, none, none => sliceA P t x (some a) none none h k
  | [x, b], none, some _, none => sliceA P t x none (some b) none h k
  | [x, a, b], some _, some _, none => sliceA P t x (some a) (some b) none h k
  | [x, b, c], none, some _, some _ => sliceA P t x none (some b) (some c) h k
  | [x, a, b, c], some _, some _, some _ => sliceA P t x (some a) (some b) (some c) h k
  | _, _, _, _ => .fail "slice"
noncomputable def cV (_ : Operand) (_ : Array Operand) (_ : Array TypeId) : AL := fun _ P cx f l h k => match l with | fv :: args => callV P cx f fv args h k | [] => .fail "call"
noncomputable def cI (_ : Operand) (m : String) (_ : Array Operand) (_ : Array TypeId) : AL := fun _ P cx f l h k => match l with | r :: args => invA P cx f m r args h k | [] => .fail "call"
noncomputable def cB (b : Builtin) (_ : Array Operand) (ts : Array TypeId) : AL := fun _ P cx f l h k => match b, l with
  | .panic, [v] => (match v with | .iface .. => cx.hp v f h | _ => .fail "panic")
  | _, _ => builtA P b ts l h k
noncomputable def aCall (c : Go.Call) : AL := Callee.rec (motive := fun _ => Array Operand → Array TypeId → AL) cV cI cB c.callee c.args c.argTypes

noncomputable def aRange (t : TypeId) (_ : Operand) : A1 := fun _ P _ _ v h k => rangeA P t v h k
noncomputable def aNext (_ : Operand) (b : Bool) : A1 := fun _ _ _ _ v h k => bif b then .fail "next of a string" else nextA v h k
noncomputable def aEntry (_ : Operand) : A1 := fun _ _ _ _ v h k => entA v h k
noncomputable def aMEnt (t : TypeId) (_ _ : Operand) : A2 := fun _ P _ _ a b h k => mentA P t a b h k
noncomputable def aMSto (_ : TypeId) (_ _ _ : Operand) : A3 := fun _ _ _ _ a b c h k => mstoA a b c h k
noncomputable def op0 (op : Op) : A0 :=
  Op.rec (motive := fun _ => A0) (fun _ => f0) (fun _ => f0) (fun _ _ _ => f0) aAlloc (fun _ _ => f0) (fun _ _ => f0) (fun _ _ _ => f0) (fun _ _ _ _ => f0) (fun _ _ => f0) (fun _ _ _ => f0) (fun _ => f0) (fun _ => f0) (fun _ => f0) (fun _ _ _ _ _ => f0) (fun _ _ _ => f0) (fun _ _ _ => f0) (fun _ _ => f0) (fun _ _ => f0) (fun _ _ _ => f0) aMkM (fun _ _ => f0) (fun _ _ _ => f0) (fun _ _ _ _ _ => f0) (fun _ _ _ => f0) (fun _ _ _ => f0) (fun _ _ _ => f0) (fun _ _ _ => f0) (fun _ _ _ _ => f0) (fun _ _ _ _ => f0) (fun _ _ _ => f0) (fun _ _ _ _ => f0) (fun _ _ => f0) (fun _ _ => f0) (fun _ => f0) (fun _ _ _ _ => f0) (fun _ _ => f0) (fun _ => f0) (fun _ => f0) (fun _ => f0) (fun _ => f0) (fun _ _ => f0) (fun _ _ _ => f0) (fun _ _ => f0) op
noncomputable def op1 (op : Op) : A1 :=
  Op.rec (motive := fun _ => A1) aMove aMove (fun _ _ _ => f1) (fun _ => f1) aBox (fun _ _ => f1) (fun _ _ _ => f1) (fun _ _ _ _ => f1) aLoad (fun _ _ _ => f1) (fun _ => f1) (fun _ => f1) aNil (fun _ _ _ _ _ => f1) aUn aConv (fun _ _ => f1) aMkI (fun _ _ _ => f1) (fun _ _ => f1) (fun _ _ => f1) (fun _ _ _ => f1) (fun _ _ _ _ _ => f1) aFA aFld (fun _ _ _ => f1) (fun _ _ _ => f1) (fun _ _ _ _ => f1) (fun _ _ _ _ => f1) (fun _ _ _ => f1) (fun _ _ _ _ => f1) aRange aNext aEntry aTA aEx (fun _ => f1) (fun _ => f1) (fun _ => f1) aPanic (fun _ _ => f1) (fun _ _ _ => f1) (fun _ _ => f1) op
noncomputable def op2 (op : Op) : A2 :=
  Op.rec (motive := fun _ => A2) (fun _ => f2) (fun _ => f2) (fun _ _ _ => f2) (fun _ => f2) (fun _ _ => f2) (fun _ _ => f2) (fun _ _ _ => f2) (fun _ _ _ _ => f2) (fun _ _ => f2) aStore (fun _ => f2) (fun _ => f2) (fun _ => f2) aBin (fun _ _ _ => f2) (fun _ _ _ => f2) (fun _ _ => f2) (fun _ _ => f2) (fun _ _ _ => f2) (fun _ _ => f2) (fun _ _ => f2) aMkS (fun _ _ _ _ _ => f2) (fun _ _ _ => f2) (fun _ _ _ => f2) aIA aIx aLk (fun _ _ _ _ => f2) aMEnt (fun _ _ _ _ => f2) (fun _ _ => f2) (fun _ _ => f2) (fun _ => f2) (fun _ _ _ _ => f2) (fun _ _ => f2) (fun _ => f2) (fun _ => f2) (fun _ => f2) (fun _ => f2) (fun _ _ => f2) (fun _ _ _ => f2) (fun _ _ => f2) op
noncomputable def op3 (op : Op) : A3 :=
  Op.rec (motive := fun _ => A3) (fun _ => f3) (fun _ => f3) aPick (fun _ => f3) (fun _ _ => f3) (fun _ _ => f3) (fun _ _ _ => f3) aMU (fun _ _ => f3) (fun _ _ _ => f3) (fun _ => f3) (fun _ => f3) (fun _ => f3) (fun _ _ _ _ _ => f3) (fun _ _ _ => f3) (fun _ _ _ => f3) (fun _ _ => f3) (fun _ _ => f3) (fun _ _ _ => f3) (fun _ _ => f3) (fun _ _ => f3) (fun _ _ _ => f3) (fun _ _ _ _ _ => f3) (fun _ _ _ => f3) (fun _ _ _ => f3) (fun _ _ _ => f3) (fun _ _ _ => f3) (fun _ _ _ _ => f3) aMU (fun _ _ _ => f3) aMSto (fun _ _ => f3) (fun _ _ => f3) (fun _ => f3) (fun _ _ _ _ => f3) (fun _ _ => f3) (fun _ => f3) (fun _ => f3) (fun _ => f3) (fun _ => f3) (fun _ _ => f3) (fun _ _ _ => f3) (fun _ _ => f3) op
noncomputable def opL (op : Op) : AL :=
  Op.rec (motive := fun _ => AL) (fun _ => fl) (fun _ => fl) (fun _ _ _ => fl) (fun _ => fl) (fun _ _ => fl) aBuild aBuildSlice (fun _ _ _ _ => fl) (fun _ _ => fl) (fun _ _ _ => fl) (fun _ => fl) (fun _ => fl) (fun _ => fl) (fun _ _ _ _ _ => fl) (fun _ _ _ => fl) (fun _ _ _ => fl) (fun _ _ => fl) (fun _ _ => fl) aMkF (fun _ _ => fl) (fun _ _ => fl) (fun _ _ _ => fl) aSlice (fun _ _ _ => fl) (fun _ _ _ => fl) (fun _ _ _ => fl) (fun _ _ _ => fl) (fun _ _ _ _ => fl) (fun _ _ _ _ => fl) (fun _ _ _ => fl) (fun _ _ _ _ => fl) (fun _ _ => fl) (fun _ _ => fl) (fun _ => fl) (fun _ _ _ _ => fl) (fun _ _ => fl) aCall (fun _ => fl) (fun _ => fl) (fun _ => fl) (fun _ _ => fl) (fun _ _ _ => fl) (fun _ _ => fl) op

/- trees -/
noncomputable def tLf (x : Operand) : KT := fun _ cx f h k => k (evX x cx.K f) h
noncomputable def tN0 (o : Oper) : KT := fun P cx f h k => op0 o.op o P cx f h k
noncomputable def c1 (o : Oper) (P : Program) (cx : Cx) (f : Fr) (k : KV) (v : AV) (h : H) : R := op1 o.op o P cx f v h k
noncomputable def tN1 (o : Oper) (_ : TE) (ea : KT) : KT := fun P cx f h k => ea P cx f h (c1 o P cx f k)
noncomputable def c2b (o : Oper) (P : Program) (cx : Cx) (f : Fr) (k : KV) (a : AV) (v : AV) (h : H) : R := op2 o.op o P cx f a v h k
noncomputable def c2a (o : Oper) (eb : KT) (P : Program) (cx : Cx) (f : Fr) (k : KV) (v : AV) (h : H) : R := eb P cx f h (c2b o P cx f k v)
noncomputable def tN2 (o : Oper) (_ _ : TE) (ea eb : KT) : KT := fun P cx f h k => ea P cx f h (c2a o eb P cx f k)
noncomputable def c3c (o : Oper) (P : Program) (cx : Cx) (f : Fr) (k : KV) (a b : AV) (v : AV) (h : H) : R := op3 o.op o P cx f a b v h k
noncomputable def c3b (o : Oper) (ec : KT) (P : Program) (cx : Cx) (f : Fr) (k : KV) (a : AV) (v : AV) (h : H) : R := ec P cx f h (c3c o P cx f k a v)
noncomputable def c3a (o : Oper) (eb ec : KT) (P : Program) (cx : Cx) (f : Fr) (k : KV) (v : AV) (h : H) : R := eb P cx f h (c3b o ec P cx f k v)
noncomputable def tN3 (o : Oper) (_ _ _ : TE) (ea eb ec : KT) : KT := fun P cx f h k => ea P cx f h (c3a o eb ec P cx f k)
noncomputable def clK (o : Oper) (P : Program) (cx : Cx) (f : Fr) (k : KV) (v : AV) (h : H) : R := match v with | .tup l => opL o.op o P cx f l h k | _ => .fail "list"
noncomputable def tNl (o : Oper) (_ : TE) (el : KT) : KT := fun P cx f h k => el P cx f h (clK o P cx f k)
def tNil : KT := fun _ _ _ h k => k (.tup []) h
noncomputable def consB (k : KV) (a : AV) (v : AV) (h : H) : R := match v with | .tup l => k (.tup (a :: l)) h | _ => .fail "list"
noncomputable def consA (el : KT) (P : Program) (cx : Cx) (f : Fr) (k : KV) (a : AV) (h : H) : R := el P cx f h (consB k a)
noncomputable def tCons (_ _ : TE) (ea el : KT) : KT := fun P cx f h k => ea P cx f h (consA el P cx f k)
noncomputable def gdV (want : Bool) (ea : KT) (P : Program) (cx : Cx) (f : Fr) (h : H) (k : KV) (v : AV) : R := match v with
  | .bool b => Bool.rec (k (.tup []) h) (ea P cx f h k) (b == want)
  | .tup [] => k (.tup []) h
  | _ => .fail "guard"
noncomputable def tGd (d : Tmp) (want : Bool) (_ : TE) (ea : KT) : KT := fun P cx f h k => gdV want ea P cx f h k (getT cx.K f d)
noncomputable def evT (t : TE) : KT := TE.rec (motive := fun _ => KT) tLf tN0 tN1 tN2 tN3 tNl tNil tCons tGd t

abbrev KF := Program → Cx → Fr → H → (Fr → H → R) → R
def rNil : KF := fun _ _ f h k => k f h
noncomputable def rootK (d : Option Tmp) (ih : KF) (P : Program) (cx : Cx) (f : Fr) (k : Fr → H → R) (v : AV) (h : H) : R := ih P cx (put cx.K f d v) h k
noncomputable def dfK (d : Option Tmp) (ih : KF) (P : Program) (cx : Cx) (f : Fr) (k : Fr → H → R) (v : AV) (h : H) : R := match v with | .tup (.func fn a b :: args) => ih P cx (put cx.K ⟨f.st, f.t, (.func fn a b, args) :: f.d⟩ d (.tup [])) h k | _ => .fail "defer"
noncomputable def rRt (ih : KF) (d : Option Tmp) (t : TE) : KF := fun P cx f h k => evT t P cx f h (rootK d ih P cx f k)
noncomputable def rDf (ih : KF) (d : Option Tmp) (t : TE) : KF := fun P cx f h k => evT t P cx f h (dfK d ih P cx f k)
noncomputable def rCons (r : RT) (_ : List RT) (ih : KF) : KF := RT.rec (motive := fun _ => KF) (rRt ih) (rDf ih) r
noncomputable def evF (l : List RT) : KF := List.rec (motive := fun _ => KF) rNil rCons l

/- a region's operations as trees -/
def dstOf : TE → Option Tmp
  | .n0 o => o.dst | .n1 o _ => o.dst | .n2 o _ _ => o.dst | .n3 o _ _ _ => o.dst | .nl o _ => o.dst | .gd _ _ t => dstOf t | _ => none
abbrev Gd := Option (Nat × Bool)
def sameGd : Gd → Gd → Bool
  | none, none => true
  | some (a, b), some (c, d) => Nat.beq a c && (b == d)
  | _, _ => false
def tmpIs : Option Tmp → Tmp → Bool
  | some a, b => Nat.beq a b
  | none, _ => false
def popArg (K : Nat) (gt : Nat → Option Tmp) (g : Gd) (x : Operand) (st : List (Gd × TE)) : TE × List (Gd × TE) :=
  match x, st with
  | .tmp d, (g', t) :: r =>
    bif tmpIs (dstOf t) d && !(Nat.beq (Nat.land (Nat.shiftRight K d) 1) 1) then
      bif sameGd g g' then (t, r) else
      match g, g' with
      | none, some (j, w) => (match gt j with | some d => (.gd d w t, r) | none => (.lf x, st))
      | _, _ => (.lf x, st)
    else (.lf x, st)
  | _, _ => (.lf x, st)
/- the operands, the last one first -/
def popArgs (K : Nat) (gt : Nat → Option Tmp) (g : Gd) : List Operand → TE → List (Gd × TE) → TE × List (Gd × TE)
  | [], acc, st => (acc, st)
  | x :: r, acc, st => let (t, st) := popArg K gt g x st; popArgs K gt g r (.cons t acc) st
inductive Ar where
  | a0 | a1 (x : Operand) | a2 (x y : Operand) | a3 (x y z : Operand) | al (l : List Operand)
def arity (op : Op) : Ar := match op with
  | .alloc _ | .makeMap _ none => .a0
  | .move x | .assign x | .box _ x | .load _ x | .nilCheck x | .unOp _ _ x | .convert _ _ x | .makeInterface _ x | .fieldAddr _ x _ | .field _ x _ | .typeAssert x _ _ _ | .extract x _ | .panic x | .range _ x | .next x _ | .entry x => .a1 x
  | .store _ a b | .binOp _ _ a b _ | .makeSlice _ a b | .indexAddr _ a b | .index _ a b | .lookup _ a b _ | .mapEntry _ a b => .a2 a b
  | .pick c a b => .a3 c a b
  | .mapUpdate _ m k v | .insert _ m k v | .entryStore _ m k v => .a3 m k v
  | op => .al op.operands.toList
def node (K : Nat) (gt : Nat → Option Tmp) (o : Oper) (st : List (Gd × TE)) : TE × List (Gd × TE) :=
  match arity o.op with
  | .a0 => (.n0 o, st)
  | .a1 x => let (a, st) := popArg K gt o.guard x st; (.n1 o a, st)
  | .a2 x y => let (b, st) := popArg K gt o.guard y st; let (a, st) := popArg K gt o.guard x st; (.n2 o a b, st)
  | .a3 x y z => let (c, st) := popArg K gt o.guard z st; let (b, st) := popArg K gt o.guard y st; let (a, st) := popArg K gt o.guard x st; (.n3 o a b c, st)
  | .al l => let (t, st) := popArgs K gt o.guard l.reverse .nil st; (.nl o t, st)
def stepO (K : Nat) (gt : Nat → Option Tmp) (st : List (Gd × TE)) (o : Oper) : List (Gd × TE) :=
  let (t, st) := node K gt o st
  (o.guard, t) :: st
def rootOf (gt : Nat → Option Tmp) (p : Gd × TE) : RT :=
  match p.1 with
  | none => (match p.2 with
    | .nl o l => (match o.op with | .defer ⟨.value _, _, _⟩ => .df o.dst l | _ => .rt o.dst (.nl o l))
    | t => .rt (dstOf t) t)
  | some (j, w) => (match gt j with | some d => .rt (dstOf p.2) (.gd d w p.2) | none => .df none (.lf (.const .nilIface)))
def gtOf (ops : Array Oper) (j : Nat) : Option Tmp := match ops[j]? with | some o => o.dst | none => none
def forest (K : Nat) (ops : Array Oper) : List RT := ((ops.toList.foldl (stepO K (gtOf ops)) []).map (rootOf (gtOf ops))).reverse

/- code -/
abbrev KC := Program → Cx → Fr → H → KE → R
def kSkip : KC := fun _ _ f h k => k .normal f h
def normK (k : KE) (f : Fr) (h : H) : R := k .normal f h
/- draw regions: a plan (any order of the operations comes to the same), then the run by the plan -/
inductive DC where
  | r | e | a
structure En where
  i : Nat
  c : DC
  b : Nat
  o : Oper
  rd : List Nat
def opnds (o : Oper) : List Operand := match arity o.op with | .a0 => [] | .a1 x => [x] | .a2 x y => [x, y] | .a3 x y z => [x, y, z] | .al l => l
def fr0 : Fr := ⟨[], .nil, []⟩
def okK : KV := fun v h => .ok v h
noncomputable def runAr (P : Program) (cx : Cx) (o : Oper) (args : List AV) (h : H) (ar : Ar) : R := match ar, args with
  | .a0, [] => op0 o.op o P cx fr0 h okK
  | .a1 _, [a] => op1 o.op o P cx fr0 a h okK
  | .a2 _ _, [a, b] => op2 o.op o P cx fr0 a b h okK
  | .a3 _ _ _, [a, b, c] => op3 o.op o P cx fr0 a b c h okK
  | .al _, l => opL o.op o P cx fr0 l h okK
  | _, _ => .fail "args"
noncomputable def runOp (P : Program) (cx : Cx) (o : Oper) (args : List AV) (h : H) : R := runAr P cx o args h (arity o.op)
/- b: may a new row wait as a new place does? -/
def clsOp (P : Program) (b : Bool) (op : Op) : DC := match op with
  | .move _ | .assign _ | .load .. | .nilCheck _ | .unOp .. | .binOp .. | .fieldAddr .. | .field .. | .index .. | .indexAddr .. | .extract .. | .slice .. | .pick .. | .makeInterface .. => .r
  | .convert _ d _ => (match desc P d with | .slice _ => (match b with | true => .a | false => .e) | _ => .r)
  | .call ⟨.builtin .len, _, _⟩ => .r
  | .alloc _ => .a
  | .buildSlice .. => (match b with | true => .a | false => .e)
  | _ => .e
/- what reads no memory -/
def pureOp (op : Op) : Bool := match op with
  | .move _ | .assign _ | .nilCheck _ | .unOp .. | .fieldAddr .. | .field .. | .index .. | .indexAddr .. | .extract .. | .slice .. | .pick .. | .makeInterface .. => true
  | _ => false
noncomputable def emask : List Edge → Nat
  | [] => 0
  | e :: l => bif Region.binds .any e then Nat.lor (emask l) (Nat.shiftLeft 1 e.on) else emask l
noncomputable def bsum (D : Nat) : List En → Nat
  | [] => 0
  | e :: l => bif bit D e.i then Nat.lor (Nat.lor (bsum D l) e.b) (Nat.shiftLeft 1 e.i) else bsum D l
def tmpsOf : List Operand → List Nat
  | [] => []
  | .tmp t :: l => t :: tmpsOf l
  | _ :: l => tmpsOf l
def gdTmp (gt : Nat → Option Tmp) (g : Option (Nat × Bool)) : List Nat := match g with
  | some (j, _) => (match gt j with | some d => [d] | none => [])
  | none => []
noncomputable def memN (t : Nat) : List Nat → Bool
  | [] => false
  | x :: l => bif Nat.beq x t then true else memN t l
/- y has come before x: what must be so for every order -/
noncomputable def pairW (x y : En) : Bool := match y.o.dst with
  | none => true
  | some d => an (match x.o.dst with | some d' => nt (Nat.beq d d') | none => true) (bif memN d x.rd then bit x.b y.i else true)
noncomputable def pairR (x y : En) : Bool := match x.o.dst with
  | none => true
  | some d => bif memN d y.rd then bit x.b y.i else true
def pairC (x y : DC) : Bool := match x, y with
  | .e, .e => true
  | .e, .a => true
  | .r, .e => true
  | _, _ => false
noncomputable def pairOk (x y : En) : Bool := an (pairW x y) (an (pairR x y) (bif pairC x.c y.c then bit x.b y.i else true))
noncomputable def pairsOk (x : En) : List En → Bool
  | [] => true
  | y :: l => bif pairOk x y then pairsOk x l else false
noncomputable def notIn (i : Nat) : List En → Bool
  | [] => true
  | y :: l => bif Nat.beq y.i i then false else notIn i l
/- may an operation of this class come while new places wait? -/
noncomputable def pendOk (o : Oper) (c : DC) (p : Bool) : Bool := match c with | .r => bif pureOp o.op then true else nt p | _ => true
def pendN (c : DC) (p : Bool) : Bool := match c with | .r => p | .a => true | .e => false
def isAl (o : Oper) : Bool := match o.op, o.guard with | .alloc _, none => true | .convert .., none => true | .buildSlice .., none => true | _, _ => false
def clsOk (P : Program) (c : DC) (o : Oper) : Bool := match c with | .r => (match clsOp P false o.op with | .r => true | _ => false) | .e => true | .a => isAl o
noncomputable def mkEn (gt : Nat → Option Tmp) (i : Nat) (c : DC) (o : Oper) (done : List En) : En := ⟨i, c, bsum (emask o.after.toList) done, o, gdTmp gt o.guard ++ tmpsOf (opnds o)⟩
noncomputable def enOk (P : Program) (x : En) (done : List En) (p : Bool) : Bool :=
  an (Nat.beq (Nat.land (emask x.o.after.toList) x.b) (emask x.o.after.toList)) (an (notIn x.i done) (an (pairsOk x done) (an (pendOk x.o x.c p) (clsOk P x.c x.o))))
/- the plan's walk: the operations that have come, the last one first -/
noncomputable def dstat (P : Program) (ops : Array Oper) : List (Nat × DC) → List En → Bool → Option (List En)
  | [], done, _ => some done
  | (i, c) :: l, done, p => match ops[i]? with
    | none => none
    | some o => bif enOk P (mkEn (gtOf ops) i c o done) done p then dstat P ops l (mkEn (gtOf ops) i c o done :: done) (pendN c p) else none
noncomputable def allIn (n : Nat) (l : List En) : Bool := Nat.rec (motive := fun _ => Bool) true (fun i ih => bif notIn i l then false else ih) n
/- the order: the first that may come; what only reads before what changes something, new places last -/
def sameC : DC → DC → Bool
  | .r, .r => true
  | .e, .e => true
  | .a, .a => true
  | _, _ => false
noncomputable def pickC (c : DC) (done : Nat) : List (Nat × Nat × DC) → Option (Nat × DC)
  | [] => none
  | (i, D, c') :: l => bif an (sameC c c') (Nat.beq (Nat.land D done) D) then some (i, c') else pickC c done l
noncomputable def dropI (i : Nat) : List (Nat × Nat × DC) → List (Nat × Nat × DC)
  | [] => []
  | x :: l => bif Nat.beq x.1 i then l else x :: dropI i l
noncomputable def pickN (done : Nat) (l : List (Nat × Nat × DC)) : Option (Nat × DC) := match pickC .r done l with
  | some x => some x
  | none => (match pickC .e done l with | some x => some x | none => pickC .a done l)
noncomputable def dord : Nat → Nat → List (Nat × Nat × DC) → List (Nat × DC)
  | 0, _, _ => []
  | n + 1, done, l => match pickN done l with
    | some (i, c) => (i, c) :: dord n (Nat.lor done (Nat.shiftLeft 1 i)) (dropI i l)
    | none => []
noncomputable def dlist (P : Program) (b : Bool) : List Oper → Nat → List (Nat × Nat × DC)
  | [], _ => []
  | o :: l, i => (i, emask o.after.toList, clsOp P b o.op) :: dlist P b l (Nat.succ i)
noncomputable def dplan1 (P : Program) (b : Bool) (ops : Array Oper) : Option (List En) := match dstat P ops (dord ops.size 0 (dlist P b ops.toList 0)) [] false with
  | some l => bif an (allIn ops.size l) (Nat.ble l.length ops.size) then some l.reverse else none
  | none => none
noncomputable def dplan (P : Program) (ops : Array Oper) : Option (List En) := match dplan1 P false ops with
  | some l => some l
  | none => dplan1 P true ops
noncomputable def cntA : List En → Nat
  | [] => 0
  | x :: l => (match x.c with | .a => Nat.succ (cntA l) | _ => cntA l)
noncomputable def sameR (v : AV) (h : H) (r : R) : Bool := match r with | .ok v' h' => an (Nat.beq h'.next h.next) (eqN 20 v v') | _ => false
noncomputable def reOk (P : Program) (cx : Cx) (b : Nat) (h : H) : List (En × List AV × AV) → Bool
  | [] => true
  | (x, args, v) :: l => bif bit b x.i then reOk P cx b h l else bif sameR v h (runOp P cx x.o args h) then reOk P cx b h l else false
noncomputable def gdSt (gt : Nat → Option Tmp) (K : Nat) (fr : Fr) (g : Option (Nat × Bool)) : Option Bool := match g with
  | none => some true
  | some (j, w) => (match gt j with
    | some d => (match getT K fr d with | .bool b => some (b == w) | .tup [] => some false | _ => none)
    | none => none)
noncomputable def evXs (K : Nat) (fr : Fr) : List Operand → List AV
  | [] => []
  | x :: l => evX x K fr :: evXs K fr l
/- a new place or row: the value at a number, and the block -/
inductive NV where
  | ptr
  | slU (n : Nat)
  | sl (n : Nat)
def NV.at (na : Nat) : NV → AV
  | .ptr => .ptr na 0
  | .slU n => .sliceU na 0 n 1
  | .sl n => .slice na 0 n n
noncomputable def newOp (P : Program) (o : Oper) (args : List AV) : Option (NV × Blk) := match o.op, args with
  | .alloc e, [] => (match zt P e with | some t => some (.ptr, .cells e (szOf P e) [] t 0 true) | none => none)
  | .convert s d _, [.str l n] => (match desc P s, desc P d with
    | .string, .slice e => (match desc P e with | .int .u8 => some (.slU l, .cells e l [] (stCells (strBytes l n) .nil 0) 1 false) | _ => none)
    | _, _ => none)
  | .buildSlice t n ps, l => (match slOf P t with
    | some e => (match zcells P e with
      | some z => bif an (Nat.blt 0 z.length) (Nat.blt (Nat.mul n z.length) 16777216) then (match fillL (plA z.length) (Nat.mul n z.length) ps.toList l .nil with
        | some c => some (.sl n, .cells e (Nat.mul n z.length) z c 0 true) | none => none) else none
      | none => none)
    | none => none)
  | _, _ => none
noncomputable def dWalk (P : Program) (cx : Cx) (K : Nat) (gt : Nat → Option Tmp) (k : Fr → H → R) : List En → List (En × List AV × AV) → Nat → Fr → H → R
  | [], _, _, fr, h => k fr h
  | x :: l, act, na, fr, h => match gdSt gt K fr x.o.guard, x.c with
    | some true, .r => (match runOp P cx x.o (evXs K fr (opnds x.o)) h with
      | .ok v h' => bif Nat.beq h'.next h.next then dWalk P cx K gt k l ((x, evXs K fr (opnds x.o), v) :: act) na (put K fr x.o.dst v) h else .fail "draw: not alike"
      | .fail s => .fail s
      | .pan _ _ => .fail "draw: panic")
    | some true, .e => (match runOp P cx x.o (evXs K fr (opnds x.o)) h with
      | .ok v h' => bif reOk P cx x.b h' act then dWalk P cx K gt k l act na (put K fr x.o.dst v) h' else .fail "draw: order"
      | .fail s => .fail s
      | .pan _ _ => .fail "draw: panic")
    | some true, .a => (match newOp P x.o (evXs K fr (opnds x.o)) with
      | some (nv, blk) => dWalk P cx K gt k l act (Nat.succ na) (put K fr x.o.dst (nv.at na)) ⟨h.next, h.m.set na blk⟩
      | none => .fail "draw: alloc")
    | some false, .r => dWalk P cx K gt k l act na (put K fr x.o.dst (.tup [])) h
    | some false, .e => bif reOk P cx x.b h act then dWalk P cx K gt k l act na (put K fr x.o.dst (.tup [])) h else .fail "draw: order"
    | _, _ => .fail "draw: guard"
noncomputable def dHp : AV → Fr → H → R := fun _ _ _ => .fail "panic in draw"
noncomputable def kDraw (ops : Array Oper) : KC := fun P cx f h k => Option.rec (motive := fun _ => R) (.fail "draw: plan")
  (fun l => dWalk P ⟨cx.K, cx.call, cx.ov, cx.lf, dHp⟩ cx.K (gtOf ops) (normK k) l [] h.next ⟨[], f.t, f.d⟩ ⟨Nat.add h.next (cntA l), h.m⟩) (dplan P ops)
noncomputable def kPlain (ops : Array Oper) : KC := fun P cx f h k => evF (forest cx.K ops) P cx ⟨[], f.t, f.d⟩ h (normK k)
noncomputable def kReg (_ : Nat) (ops : Array Oper) (d : Bool) : KC := Bool.rec (kPlain ops) (kDraw ops) d
noncomputable def exK (a : R) (k : KE) (f : Fr) (h : H) (e : Ex) : R := Ex.rec (motive := fun _ => R) a (fun i => k (.exit i) f h) (k .ret f h) (fun v => k (.panic v) f h) e
noncomputable def seqK (b : KC) (P : Program) (cx : Cx) (k : KE) (e : Ex) (f : Fr) (h : H) : R := exK (b P cx f h k) k f h e
noncomputable def kSeq (_ _ : Code) (a b : KC) : KC := fun P cx f h k => a P cx f h (seqK b P cx k)
noncomputable def condV (a b : KC) (P : Program) (cx : Cx) (f : Fr) (h : H) (k : KE) (v : AV) : R := match v with | .bool t => Bool.rec (b P cx f h k) (a P cx f h k) t | _ => .fail "cond"
noncomputable def kCond (x : Operand) (_ _ : Code) (a b : KC) : KC := fun P cx f h k => condV a b P cx f h k (evX x cx.K f)
noncomputable def blkE (id : Nat) (k : KE) (e : Ex) (f : Fr) (h : H) : R := Ex.rec (motive := fun _ => R) (k .normal f h) (fun i => Bool.rec (k (.exit i) f h) (k .normal f h) (Nat.beq i id)) (k .ret f h) (fun v => k (.panic v) f h) e
noncomputable def kBlock (id : Nat) (_ : Code) (a : KC) : KC := fun P cx f h k => a P cx f h (blkE id k)
abbrev LP := Fr → H → R
def lp0 : LP := fun _ _ => .fail "loop fuel"
noncomputable def lpK (ih : LP) (k : KE) (e : Ex) (f : Fr) (h : H) : R := exK (ih f h) k f h e
noncomputable def lpS (a : KC) (P : Program) (cx : Cx) (k : KE) (_ : Nat) (ih : LP) : LP := fun f h => a P cx f h (lpK ih k)
noncomputable def loopN (a : KC) (P : Program) (cx : Cx) (k : KE) (n : Nat) : LP := Nat.rec (motive := fun _ => LP) lp0 (lpS a P cx k) n
noncomputable def kLoop (_ : Code) (a : KC) : KC := fun P cx f h k => loopN a P cx k cx.lf f h
def kNo (s : String) : KC := fun _ _ _ _ _ => .fail s
def kExit (id : Nat) : KC := fun _ _ f h k => k (.exit id) f h
def kRet : KC := fun _ _ f h k => k .ret f h
/- what must hold of a function's code: no draws, the places of the region are different and below the number of places -/
noncomputable def ndk (K nt : Nat) : List Oper → Nat → Bool
  | [], _ => true
  | o :: l, m => match o.dst with
    | none => ndk K nt l m
    | some d => bif Nat.blt d nt then (bif bit K d then ndk K nt l m else bif bit m d then false else ndk K nt l (Nat.lor m (Nat.shiftLeft 1 d))) else false
noncomputable def codeOk (K nt : Nat) : Code → Bool
  | .region _ ops _ => ndk K nt ops.toList 0
  | .seq a b => bif codeOk K nt a then codeOk K nt b else false
  | .cond _ a b => bif codeOk K nt a then codeOk K nt b else false
  | .block _ b => codeOk K nt b
  | .loop b => codeOk K nt b
  | .scope b => codeOk K nt b
  | _ => true
noncomputable def evC (c : Code) : KC := Code.rec (motive := fun _ => KC) kSkip kReg kSeq kCond kBlock kLoop (fun _ _ _ _ _ _ => kNo "rangefunc") kExit (fun _ a => a) (fun _ => kSkip) (fun _ => kNo "goto") kRet kNo c

/- functions -/
noncomputable def argsFr (l : List AV) : Fr := ⟨[], stCells l .nil 0, []⟩
noncomputable def resV (P : Program) (K : Nat) (f : Fr) (h : H) : List ResultVar → (List AV → R) → R
  | [], k => k []
  | .tmp t :: r, k => resV P K f h r (fun l => k (getT K f t :: l))
  | .cell a t :: r, k => resV P K f h r (fun l => onPtr (ldT P t h (fun v _ => k (v :: l))) (getT K f a))
noncomputable def outK (h : H) : List AV → R
  | [v] => .ok v h
  | l => .ok (.tup l) h
noncomputable def finish (P : Program) (K : Nat) (fn : Func) (f : Fr) (h : H) : R := resV P K f h fn.results.toList (outK h)
def bodyOf (P : Program) (f : FuncId) : Option (Func × Code) := match P.funcs[f]? with | some fn => (match fn.body with | some c => some (fn, c) | none => none) | none => none

/- deferred calls: the value that may be recovered; the answer tells whether it was -/
abbrev KD := Program → Cx → AV → Fr → H → (Ex → AV → Fr → H → R) → R
def isRec (o : Oper) : Bool := match o.op with | .call { callee := .builtin .recover, .. } => true | _ => false
def single (o : Oper) : RT := rootOf (fun _ => none) (none, (node 0 (fun _ => none) o []).1)
noncomputable def evD1 (ops : Array Oper) : List Oper → Program → Cx → AV → Fr → H → (AV → Fr → H → R) → R
  | [], _, _, rc, f, h, k => k rc f h
  | o :: r, P, cx, rc, f, h, k =>
    match o.guard with
    | some _ => .fail "guard in deferred"
    | none => bif isRec o then evD1 ops r P cx .niliface (put cx.K f o.dst rc) h k
      else match single o with
        | .rt d t => evT t P cx f h (fun v h => evD1 ops r P cx rc (put cx.K f d v) h k)
        | .df _ _ => .fail "defer in deferred"
noncomputable def evD : Code → KD
  | .seq a b, P, cx, rc, f, h, k => evD a P cx rc f h (fun e rc f h => exK (evD b P cx rc f h k) (fun e f h => k e rc f h) f h e)
  | .region _ ops false, P, cx, rc, f, h, k => evD1 ops ops.toList P cx rc ⟨[], f.t, f.d⟩ h (fun rc f h => k .normal rc f h)
  | c, P, cx, rc, f, h, k => evC c P cx f h (fun e f h => k e rc f h)

section
variable (P : Program) (hint : Nat → Nat) (ov : Nat → Option (List AV → H → R)) (lf : Nat)
noncomputable def callD (ih : Call) (rc : AV) (f : FuncId) (args : List AV) (h : H) : R := match bodyOf P f with
  | some (fn, c) => bif nt (codeOk (hint f) fn.ntmps c) then .fail "code" else evD c P ⟨hint f, ih, ov, lf, fun _ _ _ => .fail "panic in deferred"⟩ rc (argsFr args) h (fun e rc' fr h => match e, fr.d with
    | .exit _, _ => .fail "exit"
    | .panic _, _ => .fail "panic in deferred"
    | _, [] => resV P (hint f) fr h fn.results.toList (fun _ => match rc, rc' with
      | .iface .., .niliface => .ok (.bool true) h
      | .iface .., .iface .. => .ok (.bool false) h
      | .niliface, .niliface => .ok (.bool false) h
      | _, _ => .fail "recover")
    | _, _ => .fail "defers in deferred")
  | none => .fail "no body"
def rcOf (m : Option AV) : Option AV := match m with
  | none => some .niliface
  | some (.iface t x) => some (.iface t x)
  | some _ => none
noncomputable def runD1 (k : Option AV → H → R) (m : Option AV) (r : R) : R := match r with
  | .ok (.bool b) h => k (bif b then none else m) h
  | _ => .fail "deferred"
noncomputable def runD (ih : Call) (K : Nat) (fn : Func) (fr : Fr) : List (AV × List AV) → Option AV → H → R
  | [], none, h => finish P K fn fr h
  | [], some v, h => .pan v h
  | (fv, args) :: r, m, h => match fv, rcOf m with
    | .func (.func f) first cap, some rc => bif Nat.beq (fk P f) 0 then runD1 (runD ih K fn fr r) m (callD P hint ov lf ih rc f (first ++ (args ++ cap)) h) else .fail "no body"
    | _, _ => .fail "deferred value"
noncomputable def hpF (ih : Call) (K : Nat) (fn : Func) (v : AV) (fr : Fr) (h : H) : R := match fr.d with
  | [] => .pan v h
  | d => runD P hint ov lf ih K fn fr d (some v) h
noncomputable def retF (ih : Call) (K : Nat) (fn : Func) (fr : Fr) (h : H) : R := match fr.d with
  | [] => finish P K fn fr h
  | d => runD P hint ov lf ih K fn fr d none h
noncomputable def kEnd (ih : Call) (K : Nat) (fn : Func) (e : Ex) (fr : Fr) (h : H) : R :=
  Ex.rec (motive := fun _ => R) (retF P hint ov lf ih K fn fr h) (fun _ => .fail "exit") (retF P hint ov lf ih K fn fr h) (fun _ => .fail "panic") e
noncomputable def cxOf (ih : Call) (K : Nat) (fn : Func) : Cx := ⟨K, ih, ov, lf, hpF P hint ov lf ih K fn⟩
noncomputable def goF (ih : Call) (f : FuncId) (args : List AV) (h : H) (b : Func × Code) : R := bif codeOk (hint f) b.1.ntmps b.2 then evC b.2 P (cxOf P hint ov lf ih (hint f) b.1) (argsFr args) h (kEnd P hint ov lf ih (hint f) b.1) else .fail "code"
/- a function that only reads, run so that its outcome does not tell the heap (then orders may be compared) -/
def qBlk : Blk → Option Blk
  | .cells ty n d c fz ex => some (.cells ty n d c (Nat.add fz (n + 2)) ex)
  | .mp es bs cl _ => some (.mp es bs cl true)
  | .it .. => none
noncomputable def qMap (t : Tr Blk) : Tr Blk := Tr.rec (motive := fun _ => Tr Blk) .nil (fun v _ _ l r => .node (v.bind qBlk) l r) t
noncomputable def qOut (lim : Nat) (h : H) : List AV → R
  | [v] => bif Nat.ble h.next lim then .ok v ⟨lim, .nil⟩ else .fail "quiet: too many places"
  | l => bif Nat.ble h.next lim then .ok (.tup l) ⟨lim, .nil⟩ else .fail "quiet: too many places"
noncomputable def qFin (K : Nat) (fn : Func) (lim : Nat) (f : Fr) (h : H) : R := match f.d with
  | [] => resV P K f h fn.results.toList (qOut lim h)
  | _ => .fail "quiet: defers"
noncomputable def qEnd (K : Nat) (fn : Func) (lim : Nat) (e : Ex) (fr : Fr) (h : H) : R :=
  Ex.rec (motive := fun _ => R) (qFin P K fn lim fr h) (fun _ => .fail "exit") (qFin P K fn lim fr h) (fun _ => .fail "panic") e
noncomputable def qBack (m : Tr Blk) (r : R) : R := match r with
  | .ok v ⟨lim, .nil⟩ => .ok v ⟨lim, m⟩
  | .fail s => .fail s
  | _ => .fail "quiet"
def dHpQ : AV → Fr → H → R := fun _ _ _ => .fail "panic in quiet"
noncomputable def goQ (ih : Call) (f : FuncId) (args : List AV) (h : H) (b : Func × Code) : R := bif codeOk (hint f) b.1.ntmps b.2 then
  qBack h.m (evC b.2 P ⟨hint f, ih, ov, lf, dHpQ⟩ (argsFr args) ⟨h.next, qMap h.m⟩ (qEnd P (hint f) b.1 (Nat.add h.next 4096))) else .fail "code"
noncomputable def goB (ih : Call) (f : FuncId) (args : List AV) (h : H) (b : Func × Code) : R := bif bit (hint f) 4000 then goQ P hint ov lf ih f args h b else goF P hint ov lf ih f args h b
noncomputable def callS (_ : Nat) (ih : Call) : Call := fun f args h => Option.rec (motive := fun _ => R) (.fail "no func") (goB P hint ov lf ih f args h) (bodyOf P f)
noncomputable def evCall (n : Nat) : Call := Nat.rec (motive := fun _ => Call) (fun _ _ _ => .fail "call fuel") (callS P hint ov lf) n
end
end Go.Ev
