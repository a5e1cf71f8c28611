/- The abstract evaluator: what each operation does. -/
import Derived.Test.YtkmlcncemcaidaaGreatDoorEvA
namespace Go.Ev

/- facts of types: closed terms -/
def desc (P : Program) (t : TypeId) : TypeDesc := match P.underlying t with | some d => d | none => .invalid
def szOf (P : Program) (t : TypeId) : Nat := match P.info? t with | some i => i.size | none => 0
/- 0: no type that is known, 1: of one cell, 2: a struct or an array -/
def tk (P : Program) (t : TypeId) : Nat := match P.underlying t with
  | some (.struct _) => 2
  | some (.array ..) => 2
  | some _ => bif Nat.beq (szOf P t) 1 then 1 else 0
  | none => 0
def zv (P : Program) (t : TypeId) : Option AV := match P.info? t with | some i => (match i.zero with | some v => some (ofV v) | none => none) | none => none
def isOne : AV → Bool
  | .agg _ => false
  | .tup _ => false
  | .bad => false
  | _ => true
/- the cells of a value -/
def cellsV : AV → Option (List AV)
  | .agg l => some l
  | v => bif isOne v then some [v] else none
noncomputable def stC0 (c : Tr AV) (_ : Nat) : Tr AV := c
noncomputable def stCS (v : AV) (_ : List AV) (ih : Tr AV → Nat → Tr AV) (c : Tr AV) (o : Nat) : Tr AV := ih (c.set o v) (Nat.succ o)
/- cells stored one behind the other -/
noncomputable def stCells (l : List AV) : Tr AV → Nat → Tr AV := List.rec (motive := fun _ => Tr AV → Nat → Tr AV) stC0 stCS l
noncomputable def listTr (l : List AV) : Tr AV := stCells l .nil 0
def zcells (P : Program) (t : TypeId) : Option (List AV) := match P.info? t with
  | some i => (match i.zero with | some v => if v.cells.toList.all one && Nat.beq v.cells.size i.size then some (v.cells.toList.map ofV0) else none | none => none)
  | none => none
noncomputable def zt (P : Program) (t : TypeId) : Option (Tr AV) := match zcells P t with | some l => some (listTr l) | none => none
/- a field: where its cells begin, how many they are (0: none such), whether they are a struct or an array -/
def fld (P : Program) (t : TypeId) (i : Nat) : Option (Nat × TypeId) := match desc P t with | .struct fs => (match fs[i]? with | some f => some (f.offset, f.type) | none => none) | _ => none
def foff (P : Program) (t : TypeId) (i : Nat) : Option Nat := match fld P t i with | some (o, ft) => (bif Nat.beq (szOf P ft) 0 then none else some o) | none => none
/- an element: of an array (its length), of a slice -/
def arrOf (P : Program) (t : TypeId) : Option (Nat × TypeId) := match desc P t with | .array n e => some (n, e) | _ => none
def slOf (P : Program) (t : TypeId) : Option TypeId := match desc P t with | .slice e => some e | _ => none
def slSz (P : Program) (t : TypeId) : Option Nat := match slOf P t with | some e => (bif Nat.beq (szOf P e) 0 then none else some (szOf P e)) | none => none
def arSz (P : Program) (t : TypeId) : Option (Nat × Nat) := match arrOf P t with | some (n, e) => (bif Nat.beq (szOf P e) 0 then none else some (n, szOf P e)) | none => none

/- blocks -/
def dflt (d : List AV) (i : Nat) : AV := match d with
  | [] => .bad
  | [x] => x
  | d => (d[Nat.mod i d.length]?).getD .bad
noncomputable def cellO (d : List AV) (i : Nat) (o : Option AV) : AV := Option.rec (motive := fun _ => AV) (dflt d i) (fun v => v) o
noncomputable def cellAt (d : List AV) (c : Tr AV) (i : Nat) : AV := cellO d i (c.get i)
def ldC0 (_ : Nat) : List AV := []
noncomputable def ldCS (d : List AV) (c : Tr AV) (_ : Nat) (ih : Nat → List AV) (o : Nat) : List AV := cellAt d c o :: ih (Nat.succ o)
noncomputable def ldCells (d : List AV) (c : Tr AV) (n : Nat) : Nat → List AV := Nat.rec (motive := fun _ => Nat → List AV) ldC0 (ldCS d c) n
noncomputable def H.new (h : H) (b : Blk) : H := ⟨Nat.succ h.next, h.m.set h.next b⟩

abbrev KB := (ty n : Nat) → List AV → Tr AV → Nat → Bool → R
noncomputable def blkK (k : KB) (b : Blk) : R := Blk.rec (motive := fun _ => R) k (fun _ _ _ _ => .fail "not cells") (fun _ _ _ _ => .fail "not cells") b
noncomputable def onBlk (h : H) (b : Nat) (k : KB) : R := Option.rec (motive := fun _ => R) (.fail "no block") (blkK k) (h.m.get b)
noncomputable def onPtr (k : Nat → Nat → R) (a : AV) : R := match a with | .ptr b o => k b o | _ => .fail "ptr"

noncomputable def l1K (h : H) (k : KV) (o : Nat) : KB := fun _ m d c _ _ => Bool.rec (.fail "ld1") (k (cellAt d c o) h) (Nat.blt o m)
noncomputable def ld1 (h : H) (k : KV) (b o : Nat) : R := onBlk h b (l1K h k o)
noncomputable def lnK (n : Nat) (h : H) (k : KV) (o : Nat) : KB := fun _ m d c _ _ => Bool.rec (.fail "ldn") (k (.agg (ldCells d c n o)) h) (Nat.ble (Nat.add o n) m)
noncomputable def ldn (n : Nat) (h : H) (k : KV) (b o : Nat) : R := onBlk h b (lnK n h k o)
def ld0 : H → KV → Nat → Nat → R := fun _ _ _ _ => .fail "load: type"
noncomputable def ldT (P : Program) (t : TypeId) : H → KV → Nat → Nat → R := Nat.rec (motive := fun _ => H → KV → Nat → Nat → R) ld0 (fun m _ => Nat.rec (motive := fun _ => H → KV → Nat → Nat → R) ld1 (fun _ _ => ldn (szOf P t)) m) (tk P t)

noncomputable def s1K (h : H) (v : AV) (k : KV) (b o : Nat) : KB := fun ty m d c fz ex =>
  Bool.rec (.fail "stn") (k (.tup []) ⟨h.next, h.m.set b (.cells ty m d (c.set o v) fz ex)⟩) (an (Nat.blt o m) (Nat.ble fz (Nat.succ o)))
noncomputable def st1 (h : H) (v : AV) (k : KV) (b o : Nat) : R := onBlk h b (s1K h v k b o)
noncomputable def snK (n : Nat) (h : H) (l : List AV) (k : KV) (b o : Nat) : KB := fun ty m d c fz ex =>
  Bool.rec (.fail "stn") (k (.tup []) ⟨h.next, h.m.set b (.cells ty m d (stCells l c o) fz ex)⟩) (an (Nat.ble (Nat.add o n) m) (Nat.ble fz (Nat.succ o)))
noncomputable def stn (n : Nat) (h : H) (l : List AV) (k : KV) (b o : Nat) : R := onBlk h b (snK n h l k b o)
noncomputable def stA (n : Nat) (h : H) (v : AV) (k : KV) (b o : Nat) : R := match v with | .agg l => Bool.rec (.fail "st size") (stn n h l k b o) (Nat.beq l.length n) | _ => .fail "st agg"
noncomputable def stO (h : H) (v : AV) (k : KV) (b o : Nat) : R := Bool.rec (.fail "st one") (st1 h v k b o) (isOne v)
def st0 : H → AV → KV → Nat → Nat → R := fun _ _ _ _ _ => .fail "store: type"
noncomputable def stT (P : Program) (t : TypeId) : H → AV → KV → Nat → Nat → R := Nat.rec (motive := fun _ => H → AV → KV → Nat → Nat → R) st0 (fun m _ => Nat.rec (motive := fun _ => H → AV → KV → Nat → Nat → R) stO (fun _ _ => stA (szOf P t)) m) (tk P t)

/- operations on values -/
def isNilA : AV → Option Bool
  | .nilptr | .nilslice | .nilmap | .nilfunc | .niliface => some true
  | .ptr .. | .slice .. | .sliceU .. | .map _ | .func .. | .iface .. => some false
  | _ => none

noncomputable def fzOf (h : H) (b : Nat) : Nat := match h.m.get b with | some (.cells _ _ _ _ fz _) => fz | _ => 1

def part (P : Program) (t : TypeId) (cs : List AV) (o : Nat) : Option AV :=
  match tk P t with
  | 0 => none
  | 1 => cs[o]?
  | _ => some (.agg ((cs.drop o).take (szOf P t)))

/- == by the type, as the model goes; none: not told -/
noncomputable def eqF (P : Program) (eq : TypeId → AV → AV → Option Bool) (xs ys : List AV) : List Field → Option Bool
  | [] => some true
  | f :: fs => if f.name = "_" then eqF P eq xs ys fs else
    match part P f.type xs f.offset, part P f.type ys f.offset with
    | some a, some b => (match eq f.type a b with | some true => eqF P eq xs ys fs | r => r)
    | _, _ => none
noncomputable def eqA (P : Program) (h : H) : Nat → TypeId → AV → AV → Option Bool
  | 0, _, _, _ => none
  | d + 1, t, x, y => match desc P t, x, y with
    | .bool, .bool a, .bool b => some (a == b)
    | .int _, .int k a, .int k' b => if k = k' then some (eqI a b) else none
    | .float _, .flt a, .flt b => some (Op.floatEq .f64 a b)
    | .string, .str l a, .str m b => some (an (Nat.beq l m) (Nat.beq a b))
    | .pointer _, .nilptr, .nilptr => some true
    | .pointer _, .nilptr, .ptr .. => some false
    | .pointer _, .ptr .., .nilptr => some false
    | .pointer e, .ptr a o, .ptr b p => bif Nat.beq (szOf P e) 0 then none else
        bif Nat.beq a b then some (Nat.beq o p) else bif an (Nat.beq (fzOf h a) 0) (Nat.beq (fzOf h b) 0) then some false else none
    | .interface _, .niliface, .niliface => some true
    | .interface _, .niliface, .iface .. => some false
    | .interface _, .iface .., .niliface => some false
    | .interface _, .iface t a, .iface u b => bif Nat.beq t u then (match P.info? t with
        | some i => (bif i.comparable then eqA P h d t a b else none)
        | none => none) else some false
    | .struct fs, .agg xs, .agg ys => bif P.stoodInHeld t then none else eqF P (eqA P h d) xs ys fs.toList
    | .slice _, .nilslice, .nilslice => some true
    | .slice _, .nilslice, .slice .. => some false
    | .slice _, .nilslice, .sliceU .. => some false
    | .slice _, .slice .., .nilslice => some false
    | .slice _, .sliceU .., .nilslice => some false
    | .map .., .nilmap, .nilmap => some true
    | .map .., .nilmap, .map _ => some false
    | .map .., .map _, .nilmap => some false
    | .func .., .nilfunc, .nilfunc => some true
    | .func .., .nilfunc, .func .. => some false
    | .func .., .func .., .nilfunc => some false
    | _, _, _ => none

/- may the guard of == pass? (two nil interfaces, neither of them written so; structs with interfaces in them) -/
def isConst : Operand → Bool
  | .const _ => true
  | _ => false
def guardOk (P : Program) (t : TypeId) (x y : Operand) : AV → AV → Bool
  | .niliface, .niliface => isConst x || isConst y
  | .agg _, .agg _ => !P.eqGuardType P.depth t
  | .bad, _ => false
  | _, .bad => false
  | _, _ => true
noncomputable def eqG (P : Program) (h : H) (t : TypeId) (x y : Operand) (a b : AV) : Option Bool := bif guardOk P t x y a b then eqA P h 100 t a b else none

abbrev BI := IntKind → Int → Int → H → KV → R
noncomputable def bAdd : BI := fun k a b h c => c (.int k (wr k (addI a b))) h
noncomputable def bSub : BI := fun k a b h c => c (.int k (wr k (addI a (negI b)))) h
noncomputable def bMul : BI := fun k a b h c => c (.int k (wr k (mulI a b))) h
noncomputable def bQuo : BI := fun k a b h c => Bool.rec (c (.int k (wr k (a.tdiv b))) h) (.fail "/ 0") (eqI b 0)
noncomputable def bRem : BI := fun k a b h c => Bool.rec (c (.int k (a.tmod b)) h) (.fail "% 0") (eqI b 0)
noncomputable def bAnd : BI := fun k a b h c => c (.int k (wr k (.ofNat (Nat.land (toU k a) (toU k b))))) h
noncomputable def bOr : BI := fun k a b h c => c (.int k (wr k (.ofNat (Nat.lor (toU k a) (toU k b))))) h
noncomputable def bXor : BI := fun k a b h c => c (.int k (wr k (.ofNat (Nat.xor (toU k a) (toU k b))))) h
noncomputable def bAndNot : BI := fun k a b h c => c (.int k (wr k (.ofNat (Nat.land (toU k a) (Nat.sub (Nat.sub (pw k) 1) (toU k b)))))) h
noncomputable def bShl : BI := fun k a b h c => Bool.rec (.fail "shift") (c (.int k (wr k (mulI a (.ofNat (Nat.pow 2 (min b.toNat k.bits)))))) h) (leI 0 b)
noncomputable def bShr : BI := fun k a b h c => Bool.rec (.fail "shift") (c (.int k (shrI a (min b.toNat k.bits))) h) (leI 0 b)
noncomputable def bEql : BI := fun _ a b h c => c (.bool (eqI a b)) h
noncomputable def bNeq : BI := fun _ a b h c => c (.bool (nt (eqI a b))) h
noncomputable def bLss : BI := fun _ a b h c => c (.bool (nt (leI b a))) h
noncomputable def bLeq : BI := fun _ a b h c => c (.bool (leI a b)) h
noncomputable def bGtr : BI := fun _ a b h c => c (.bool (nt (leI a b))) h
noncomputable def bGeq : BI := fun _ a b h c => c (.bool (leI b a)) h
noncomputable def binI (op : BinOp) : BI := match op with
  | .add => bAdd | .sub => bSub | .mul => bMul | .quo => bQuo | .rem => bRem | .and => bAnd | .or => bOr | .xor => bXor | .andNot => bAndNot
  | .shl => bShl | .shr => bShr | .eql => bEql | .neq => bNeq | .lss => bLss | .leq => bLeq | .gtr => bGtr | .geq => bGeq
def isShift : BinOp → Bool
  | .shl | .shr => true
  | _ => false
noncomputable def binS (op : BinOp) (l a m b : Nat) (h : H) (c : KV) : R := match op with
  | .add => Bool.rec (.fail "str +") (c (.str (Nat.add l m) (stCat l a b)) h) (Nat.blt (Nat.add l m) 9223372036854775808)
  | .eql => c (.bool (an (Nat.beq l m) (Nat.beq a b))) h
  | .neq => c (.bool (nt (an (Nat.beq l m) (Nat.beq a b)))) h
  | .lss => c (.bool (stLess (Nat.succ (Nat.add l m)) l a m b)) h
  | .gtr => c (.bool (stLess (Nat.succ (Nat.add l m)) m b l a)) h
  | .leq => c (.bool (nt (stLess (Nat.succ (Nat.add l m)) m b l a))) h
  | .geq => c (.bool (nt (stLess (Nat.succ (Nat.add l m)) l a m b))) h
  | _ => .fail "str op"
noncomputable def fltO (r : Option Nat) (h : H) (c : KV) : R := match r with | some r => c (.flt r) h | none => .fail "nan"
noncomputable def binF (op : BinOp) (a b : Nat) (h : H) (c : KV) : R := match op with
  | .add => fltO (Ieee.double.add a b) h c
  | .sub => fltO (Ieee.double.sub a b) h c
  | .mul => fltO (Ieee.double.mul a b) h c
  | .quo => fltO (Ieee.double.div a b) h c
  | .eql => c (.bool (Ieee.double.order a b == some .eq)) h
  | .neq => c (.bool (Ieee.double.order a b != some .eq)) h
  | .lss => c (.bool (Ieee.double.order a b == some .lt)) h
  | .leq => c (.bool (Ieee.double.order a b == some .lt || Ieee.double.order a b == some .eq)) h
  | .gtr => c (.bool (Ieee.double.order a b == some .gt)) h
  | .geq => c (.bool (Ieee.double.order a b == some .gt || Ieee.double.order a b == some .eq)) h
  | _ => .fail "flt op"
noncomputable def binO (P : Program) (op : BinOp) (t : TypeId) (xo yo : Operand) (x y : AV) (h : H) (c : KV) : R := match op with
  | .eql => (match eqG P h t xo yo x y with | some b => c (.bool b) h | none => .fail "==")
  | .neq => (match eqG P h t xo yo x y with | some b => c (.bool (nt b)) h | none => .fail "!=")
  | _ => .fail "binop"
noncomputable def binII (op : BinOp) (k : IntKind) (a : Int) (k' : IntKind) (b : Int) (h : H) (c : KV) : R := bif (isShift op || k == k') then binI op k a b h c else .fail "kinds"
noncomputable def binA (P : Program) (op : BinOp) (t : TypeId) (xo yo : Operand) (x y : AV) (h : H) (c : KV) : R :=
  match x, y with
  | .int k a, .int k' b => binII op k a k' b h c
  | .str l a, .str m b => binS op l a m b h c
  | .flt a, .flt b => binF op a b h c
  | x, y => binO P op t xo yo x y h c

noncomputable def unA (op : UnOp) (x : AV) (h : H) (c : KV) : R :=
  match op, x with
  | .neg, .int k n => c (.int k (wr k (negI n))) h
  | .xor, .int k n => c (.int k (wr k (.ofNat (Nat.sub (Nat.sub (pw k) 1) (toU k n))))) h
  | .neg, .flt b => c (.flt (Op.negFloat .f64 b)) h
  | .not, .bool b => c (.bool (nt b)) h
  | _, _ => .fail "unop"

noncomputable def b2s (l : List AV) (h : H) (c : KV) : R := match bytesStr l with | some (l, n) => c (.str l n) h | none => .fail "bytes"
noncomputable def rowK (n o : Nat) (c : List AV → R) : KB := fun _ m d t _ _ => Bool.rec (.fail "row") (c (ldCells d t n o)) (Nat.ble (Nat.add o n) m)
noncomputable def onRow (h : H) (b o n : Nat) (c : List AV → R) : R := onBlk h b (rowK n o c)

def kindOf (P : Program) (t : TypeId) : Option IntKind := match desc P t with | .int k => some k | _ => none
noncomputable def convA (P : Program) (src dst : TypeId) (x : AV) (h : H) (c : KV) : R :=
  match desc P src, desc P dst, x with
  | _, .int k, .int _ n => c (.int k (wr k n)) h
  | _, .float .f64, .int _ n => c (.flt (FloatKind.f64.nearest n)) h
  | _, .int k, .flt b => (match (FloatKind.f64.decode b).toInt .zero with
    | some n => if k.min ≤ n ∧ n ≤ k.max then c (.int k n) h else .fail "f2i"
    | none => .fail "f2i")
  | _, .string, .str l n => c (.str l n) h
  | .string, .slice e, .str l n => (match desc P e with
    | .int .u8 => c (.sliceU h.next 0 l 1) (h.new (.cells e l [] (stCells (strBytes l n) .nil 0) 1 false))
    | _ => .fail "conv")
  | .slice e, .string, .nilslice => (match desc P e with | .int .u8 => c (.str 0 0) h | _ => .fail "conv")
  | .slice e, .string, .slice b o l _ => (match desc P e with | .int .u8 => onRow h b o l (fun r => b2s r h c) | _ => .fail "conv")
  | .slice e, .string, .sliceU b k l z => (match desc P e with | .int .u8 => onRow h b (Nat.mul k z) l (fun r => b2s r h c) | _ => .fail "conv")
  | .pointer t, .unsafePointer, .ptr b o => bif Nat.beq (szOf P t) 0 then .fail "conv" else onBlk h b (fun _ m _ _ _ _ => Bool.rec (.fail "conv") (c (.ptr b o) h) (Nat.blt o m))
  | .unsafePointer, .pointer t, .ptr b o => onBlk h b (fun ty m _ _ _ ex => bif an (nt (Nat.beq (szOf P t) 0)) (an ex (liesAt P P.depth ty (m / P.cellsOf ty) o t 1)) then c (.ptr b o) h else .fail "conv up")
  | _, _, _ => .fail "conv"

def natOf : AV → Option Nat
  | .int _ (.ofNat n) => some n
  | _ => none
def bndO (x : Option AV) (d : Nat) : Option Nat := match x with | none => some d | some v => natOf v

/- x[lo:hi:mx] -/
noncomputable def slBase (o i z m : Nat) : Nat := Bool.rec (Nat.add o (Nat.mul i z)) o (Nat.beq m i)
noncomputable def sliceA (P : Program) (t : TypeId) (x : AV) (lo hi mx : Option AV) (h : H) (c : KV) : R :=
  match x with
  | .str l n => (match desc P t, bndO lo 0, bndO hi l, mx with
    | .string, some a, some b, none => Bool.rec (.fail "slice str") (c (.str (Nat.sub b a) (stSub n a b)) h) (an (Nat.ble a b) (Nat.ble b l))
    | _, _, _, _ => .fail "slice str")
  | .slice b o l cp => (match slSz P t, bndO lo 0, bndO hi l, bndO mx cp with
    | some z, some i, some j, some m => Bool.rec (.fail "slice sl") (c (.slice b (slBase o i z m) (Nat.sub j i) (Nat.sub m i)) h) (an (Nat.ble i j) (an (Nat.ble j m) (Nat.ble m cp)))
    | _, _, _, _ => .fail "slice sl")
  | .sliceU b k l z' => (match slSz P t, bndO lo 0, bndO hi l, mx with
    | some z, some i, some j, none => Bool.rec (.fail "slice slU") (c (.sliceU b (Nat.add k i) (Nat.sub j i) z') h) (an (Nat.ble i j) (an (Nat.ble j l) (Nat.beq z' z)))
    | some z, some i, some j, some v => (match bndO (some v) 0 with
      | some m => Bool.rec (.fail "slice slU mx") (c (.slice b (slBase (Nat.mul k z) i z m) (Nat.sub j i) (Nat.sub m i)) h) (an (Nat.blt 0 l) (an (Nat.ble i j) (an (Nat.ble j m) (an (Nat.ble m l) (Nat.beq z' z)))))
      | none => .fail "slice slU mx")
    | _, _, _, _ => .fail "slice slU")
  | .nilslice => (match slSz P t, bndO lo 0, bndO hi 0, bndO mx 0 with
    | some _, some 0, some 0, some 0 => c .nilslice h
    | _, _, _, _ => .fail "slice nil")
  | .ptr b o => (match arSz P t, bndO lo 0, mx with
    | some (n, z), some i, mx => (match bndO hi n, bndO mx n with
      | some j, some m => Bool.rec (.fail "slice arr") (c (.slice b (slBase o i z m) (Nat.sub j i) (Nat.sub m i)) h) (an (Nat.ble i j) (an (Nat.ble j m) (Nat.ble m n)))
      | _, _ => .fail "slice arr")
    | _, _, _ => .fail "slice arr")
  | _ => .fail "slice"

noncomputable def ixS (z b o i l : Nat) (h : H) (c : KV) : R := Bool.rec (.fail "index") (c (.ptr b (Nat.add o (Nat.mul i z))) h) (Nat.blt i l)
noncomputable def ixN (P : Program) (t : TypeId) (x : AV) (h : H) (c : KV) (i : Nat) : R :=
  match x with
  | .slice b o l _ => (match slSz P t with | some z => ixS z b o i l h c | none => .fail "index")
  | .sliceU b k l z => (match slSz P t with | some z' => ixS z' b (Nat.mul k z) i l h c | none => .fail "index")
  | .ptr b o => (match arSz P t with | some (n, z) => ixS z b o i n h c | none => .fail "index")
  | _ => .fail "index"
noncomputable def onNat (k : Nat → R) (i : AV) : R := match i with | .int _ n => Int.rec (motive := fun _ => R) k (fun _ => .fail "neg") n | _ => .fail "nat"

noncomputable def ixV (P : Program) (t : TypeId) (x : AV) (h : H) (c : KV) (i : Nat) : R :=
  match x with
  | .str l n => (match desc P t with | .string => Bool.rec (.fail "index str") (c (.int .u8 (.ofNat (stGet n i))) h) (Nat.blt i l) | _ => .fail "index")
  | .agg cs => (match arrOf P t with
    | some (n, e) => Bool.rec (.fail "index") (match part P e cs (Nat.mul i (szOf P e)) with | some v => c v h | none => .fail "index") (Nat.blt i n)
    | none => .fail "index")
  | _ => .fail "index"

noncomputable def fieldA (P : Program) (t : TypeId) (i : Nat) (x : AV) (h : H) (c : KV) : R := match x with
  | .agg cs => (match fld P t i with | some (o, ft) => (match part P ft cs o with | some v => c v h | none => .fail "field") | none => .fail "field")
  | _ => .fail "field"

/- maps: keys of whole numbers, strings, bools -/
noncomputable def keyEq : AV → AV → Option Bool
  | .int k a, .int k' b => if k = k' then some (eqI a b) else none
  | .str l a, .str m b => some (an (Nat.beq l m) (Nat.beq a b))
  | .bool a, .bool b => some (a == b)
  | _, _ => none
def keyOk (P : Program) (t : TypeId) : AV → Bool
  | .int .. => (match desc P t with | .int _ => true | _ => false)
  | .str .. => (match desc P t with | .string => true | _ => false)
  | .bool _ => (match desc P t with | .bool => true | _ => false)
  | _ => false
noncomputable def mpFind (k : AV) : List (AV × AV) → Option (Option AV)
  | [] => some none
  | (a, v) :: r => match keyEq k a with | some true => some (some v) | some false => mpFind k r | none => none
noncomputable def mpSet (k v : AV) : List (AV × AV) → List (AV × AV)
  | [] => [(k, v)]
  | (a, x) :: r => match keyEq k a with | some true => (k, v) :: r | _ => (a, x) :: mpSet k v r
noncomputable def mpDel (k : AV) : List (AV × AV) → List (AV × AV)
  | [] => []
  | (a, x) :: r => match keyEq k a with | some true => r | _ => (a, x) :: mpDel k r
/- the stamps of what stays; the place of a key -/
noncomputable def bsDel (k : AV) : List (AV × AV) → List Nat → List Nat
  | (a, _) :: r, b :: bs => match keyEq k a with | some true => bs | _ => b :: bsDel k r bs
  | _, bs => bs
noncomputable def mpIdx (k : AV) : List (AV × AV) → Nat
  | [] => 0
  | (a, _) :: r => match keyEq k a with | some true => 0 | _ => Nat.succ (mpIdx k r)
noncomputable def bIdx (b : Nat) : List Nat → Nat
  | [] => 0
  | x :: r => bif Nat.beq x b then 0 else Nat.succ (bIdx b r)
noncomputable def mpPut (v : AV) : Nat → List (AV × AV) → List (AV × AV)
  | _, [] => []
  | 0, (a, _) :: r => (a, v) :: r
  | i + 1, p :: r => p :: mpPut v i r
noncomputable def memB (b : Nat) : List Nat → Bool
  | [] => false
  | x :: l => bif Nat.beq x b then true else memB b l
def mapT (P : Program) (t : TypeId) : Option (TypeId × TypeId) := match desc P t with | .map k e => some (k, e) | _ => none
noncomputable def onMap (h : H) (m : AV) (k : List (AV × AV) → R) : R := match m with
  | .nilmap => k []
  | .map r => (match h.m.get r with | some (.mp es _ _ _) => k es | _ => .fail "map")
  | _ => .fail "map"
noncomputable def lookA (P : Program) (t : TypeId) (ok : Bool) (x i : AV) (h : H) (c : KV) : R :=
  match mapT P t with
  | none => .fail "lookup"
  | some (kt, e) => bif keyOk P kt i then onMap h x (fun es => match mpFind i es with
      | none => .fail "lookup key"
      | some (some v) => c (bif ok then .tup [v, .bool true] else v) h
      | some none => (match zv P e with | some z => c (bif ok then .tup [z, .bool false] else z) h | none => .fail "lookup zero")) else .fail "lookup key"
noncomputable def updA (P : Program) (t : TypeId) (m k v : AV) (h : H) (c : KV) : R :=
  match mapT P t, m with
  | some (kt, _), .map r => bif keyOk P kt k then (match h.m.get r with
      | some (.mp es bs cl false) => (match mpFind k es with | some (some _) => c (.tup []) ⟨h.next, h.m.set r (.mp (mpSet k v es) bs cl false)⟩ | some none => c (.tup []) ⟨h.next, h.m.set r (.mp (mpSet k v es) (bs ++ [cl]) (Nat.succ cl) false)⟩ | none => .fail "update key")
      | _ => .fail "update") else .fail "update key"
  | _, _ => .fail "update"

/- m[k] op= v: the entry first, then the store -/
noncomputable def mentA (P : Program) (t : TypeId) (m k : AV) (h : H) (c : KV) : R :=
  match mapT P t, m with
  | some (kt, e), .map r => bif keyOk P kt k then (match h.m.get r with
      | some (.mp es bs cl false) => (match mpFind k es with
        | some (some v) => (match bs[mpIdx k es]? with | some b => c (.tup [v, .int .i64 (.ofNat b)]) ⟨h.next, h.m.set r (.mp (mpSet k v es) bs cl false)⟩ | none => .fail "mapEntry")
        | some none => (match zv P e with | some z => c (.tup [z, .int .i64 (.ofNat cl)]) ⟨h.next, h.m.set r (.mp (es ++ [(k, z)]) (bs ++ [cl]) (Nat.succ cl) false)⟩ | none => .fail "mapEntry")
        | none => .fail "mapEntry key")
      | _ => .fail "mapEntry") else .fail "mapEntry key"
  | _, _ => .fail "mapEntry"
noncomputable def mstoA (m s v : AV) (h : H) (c : KV) : R :=
  match m, s with
  | .map r, .int _ (.ofNat b) => (match h.m.get r with
      | some (.mp es bs cl false) => bif memB b bs then c (.tup []) ⟨h.next, h.m.set r (.mp (mpPut v (bIdx b bs) es) bs cl false)⟩ else .fail "entryStore"
      | _ => .fail "entryStore")
  | _, _ => .fail "entryStore"
/- iterators over maps: every order -/
noncomputable def rangeA (P : Program) (t : TypeId) (x : AV) (h : H) (c : KV) : R :=
  match mapT P t, x with
  | some _, .nilmap => c (.ptr h.next 0) (h.new (.it none 0 [] 0))
  | some _, .map r => (match h.m.get r with
    | some (.mp _ _ cl _) => c (.ptr h.next 0) (h.new (.it (some r) cl [] cl))
    | _ => .fail "range")
  | _, _ => .fail "range"
noncomputable def entL : List (AV × AV) → List Nat → List (Nat × AV × AV)
  | (k, v) :: es, b :: bs => (b, k, v) :: entL es bs
  | _, _ => []
noncomputable def leftL (seen : List Nat) : List (Nat × AV × AV) → List (Nat × AV × AV)
  | [] => []
  | e :: l => bif memB e.1 seen then leftL seen l else e :: leftL seen l
noncomputable def allLt (n : Nat) : List Nat → Bool
  | [] => true
  | x :: l => bif Nat.blt x n then allLt n l else false
noncomputable def nodB : List Nat → Bool
  | [] => true
  | x :: l => bif memB x l then false else nodB l
/- outcomes that do not tell the heap are compared -/
noncomputable def eqLs (f : AV → AV → Bool) : List AV → List AV → Bool
  | [], [] => true
  | a :: l, b :: m => bif f a b then eqLs f l m else false
  | _, _ => false
noncomputable def eqN : Nat → AV → AV → Bool
  | 0, _, _ => false
  | n + 1, x, y => match x, y with
    | .bad, .bad => true
    | .bool a, .bool b => a == b
    | .int k a, .int k' b => an (k == k') (eqI a b)
    | .flt a, .flt b => Nat.beq a b
    | .str l a, .str m b => an (Nat.beq l m) (Nat.beq a b)
    | .nilptr, .nilptr => true
    | .ptr a o, .ptr b p => an (Nat.beq a b) (Nat.beq o p)
    | .slice a o l c, .slice a' o' l' c' => an (Nat.beq a a') (an (Nat.beq o o') (an (Nat.beq l l') (Nat.beq c c')))
    | .sliceU a o l c, .sliceU a' o' l' c' => an (Nat.beq a a') (an (Nat.beq o o') (an (Nat.beq l l') (Nat.beq c c')))
    | .nilslice, .nilslice => true
    | .map a, .map b => Nat.beq a b
    | .nilmap, .nilmap => true
    | .func (.func f) a b, .func (.func g) c d => an (Nat.beq f g) (an (eqLs (eqN n) a c) (eqLs (eqN n) b d))
    | .nilfunc, .nilfunc => true
    | .iface t v, .iface u w => an (Nat.beq t u) (eqN n v w)
    | .niliface, .niliface => true
    | .agg l, .agg m => eqLs (eqN n) l m
    | .tup l, .tup m => eqLs (eqN n) l m
    | _, _ => false
noncomputable def eqR (a b : R) : Bool := match a, b with
  | .ok v ⟨n, .nil⟩, .ok u ⟨m, .nil⟩ => an (Nat.beq n m) (eqN 20 v u)
  | _, _ => false
noncomputable def allR (r : R) : List R → Bool
  | [] => true
  | x :: l => bif eqR r x then allR r l else false
noncomputable def mrgR : List R → R
  | [] => .fail "no order"
  | [r] => r
  | r :: l => bif allR r l then r else .fail "orders differ"
noncomputable def nxK (b r : Nat) (since : Nat) (seen : List Nat) (cl : Nat) (h : H) (c : KV) (e : Nat × AV × AV) : R :=
  c (.tup [.bool true, e.2.1, e.2.2]) ⟨h.next, h.m.set b (.it (some r) since (seen ++ [e.1]) cl)⟩
noncomputable def nxKs (b r : Nat) (since : Nat) (seen : List Nat) (cl : Nat) (h : H) (c : KV) : List (Nat × AV × AV) → List R
  | [] => []
  | e :: l => nxK b r since seen cl h c e :: nxKs b r since seen cl h c l
noncomputable def nextA (x : AV) (h : H) (c : KV) : R :=
  match x with
  | .ptr b 0 => (match h.m.get b with
    | some (.it none _ _ _) => c (.tup [.bool false]) h
    | some (.it (some r) since seen last) => (match h.m.get r with
      | some (.mp es bs cl _) => bif an (allLt since bs) (Nat.ble since last) then (match leftL seen (entL es bs) with
        | [] => c (.tup [.bool false]) h
        | e :: l => mrgR (nxKs b r since seen cl h c (e :: l))) else .fail "next"
      | _ => .fail "next")
    | _ => .fail "next")
  | _ => .fail "next"
def lastN : List Nat → Option Nat
  | [] => none
  | [x] => some x
  | _ :: l => lastN l
noncomputable def entA (x : AV) (h : H) (c : KV) : R :=
  match x with
  | .ptr b 0 => (match h.m.get b with
    | some (.it (some r) _ seen last) => (match h.m.get r, lastN seen with
      | some (.mp es bs cl _), some s => bif an (Nat.beq cl last) (an (nodB bs) (memB s bs)) then (match es[bIdx s bs]? with | some (k, v) => c (.tup [k, v]) h | none => .fail "entry") else .fail "entry"
      | _, _ => .fail "entry")
    | _ => .fail "entry")
  | _ => .fail "entry"

/- builtins -/
noncomputable def lenA (P : Program) (t : TypeId) (x : AV) (h : H) (c : KV) : R := match desc P t, x with
  | .string, .str l _ => c (.int .i64 (.ofNat l)) h
  | .slice _, .slice _ _ l _ => c (.int .i64 (.ofNat l)) h
  | .slice _, .sliceU _ _ l _ => c (.int .i64 (.ofNat l)) h
  | .slice _, .nilslice => c (.int .i64 (.ofNat 0)) h
  | .map .., .nilmap => c (.int .i64 (.ofNat 0)) h
  | .map .., .map r => (match h.m.get r with | some (.mp es _ _ _) => c (.int .i64 (.ofNat es.length)) h | _ => .fail "len")
  | .array n _, _ => c (.int .i64 (.ofNat n)) h
  | _, _ => .fail "len"
noncomputable def capA (P : Program) (t : TypeId) (x : AV) (h : H) (c : KV) : R := match desc P t, x with
  | .slice _, .slice _ _ _ n => c (.int .i64 (.ofNat n)) h
  | .slice _, .nilslice => c (.int .i64 (.ofNat 0)) h
  | _, _ => .fail "cap"
/- what is appended or copied: how many elements, and their cells -/
def cutTo (most : Option Nat) (n : Nat) : Nat := match most with | none => n | some m => min n m
noncomputable def srcA (z : Nat) (h : H) (x : AV) (most : Option Nat) (c : Nat → List AV → R) : R :=
  match x with
  | .nilslice => c 0 []
  | .str l n => Bool.rec (.fail "src") (c (cutTo most l) ((strBytes l n).take (cutTo most l))) (Nat.beq z 1)
  | .slice b o l _ => onRow h b o (Nat.mul (cutTo most l) z) (c (cutTo most l))
  | .sliceU b k l z' => onRow h b (Nat.mul k z') (Nat.mul (cutTo most l) z) (c (cutTo most l))
  | _ => .fail "src"
/- a row's first cells as a trie from 0 on -/
noncomputable def trK (o n : Nat) (c : TypeId → List AV → Tr AV → Nat → R) : KB := fun ty m d t fz _ =>
  Bool.rec (Bool.rec (.fail "row") (c ty [] (stCells (ldCells d t n o) .nil 0) fz) (Nat.ble (Nat.add o n) m)) (c ty d t fz) (an (Nat.beq o 0) (Nat.beq n m))
noncomputable def appGrow (e z : Nat) (h : H) (m : Tr Blk) (l n : Nat) (new : List AV) (c : KV) (d : List AV) (t : Tr AV) (fz : Nat) : R :=
  c (.sliceU h.next 0 (Nat.add l n) z) ⟨Nat.succ h.next, m.set h.next (.cells e (Nat.mul (Nat.add l n) z) d (stCells new t (Nat.mul l z)) fz false)⟩
noncomputable def appOk (P : Program) (e n : Nat) : Bool := match P.info? e with | some i => an (Nat.blt (Nat.mul n (Nat.succ i.bytes)) 1099511627776) (an (Nat.blt 0 i.size) (zcells P e).isSome) | none => false
noncomputable def appK (P : Program) (e z : Nat) (s : AV) (h : H) (c : KV) (n : Nat) (new : List AV) : R :=
  match s with
  | .nilslice => Bool.rec (Bool.rec (.fail "append size") (appGrow e z h h.m 0 n new c [] .nil 0) (appOk P e n)) (c .nilslice h) (Nat.beq n 0)
  | .slice b o l cp => Bool.rec
      (Bool.rec (.fail "append size") (onBlk h b (trK o (Nat.mul l z) (fun _ d t _ => appGrow e z h h.m l n new c d t 0))) (appOk P e (Nat.add l n)))
      (stn (Nat.mul n z) h new (fun _ h => c (.slice b o (Nat.add l n) cp) h) b (Nat.add o (Nat.mul l z)))
      (Nat.ble (Nat.add l n) cp)
  | .sliceU b k l z' => Bool.rec
      (Bool.rec (.fail "append size") (onBlk h b (trK (Nat.mul k z) (Nat.mul l z) (fun ty d t fz => Bool.rec (.fail "append shared") (appGrow e z h (h.m.del b) l n new c d t fz) (an (Nat.beq ty e) (Nat.ble fz (Nat.succ (Nat.add (Nat.mul k z) (Nat.mul l z)))))))) (an (appOk P e (Nat.add l n)) (Nat.beq z z')))
      (c s h) (Nat.beq n 0)
  | _ => .fail "append"
def okArg (P : Program) (t : TypeId) : Bool := match desc P t with | .slice _ => true | .string => true | _ => false
/- append(nil, make([]T, n)...) -/
noncomputable def zerosA (P : Program) (u e : TypeId) (z : Nat) (s x : AV) (h : H) (c : KV) : R := match desc P u, s, x, zcells P e with
  | .int _, .nilslice, .int .i64 (.ofNat n), some zs => bif an (appOk P e n) (an (Nat.blt 0 n) (Nat.blt n 1048576)) then c (.sliceU h.next 0 n z) (h.new (.cells e (Nat.mul n z) zs .nil 0 false)) else .fail "append make"
  | _, _, _, _ => .fail "append make"
noncomputable def appA (P : Program) (ts : Array TypeId) (s x : AV) (h : H) (c : KV) : R :=
  match ts.toList with
  | [t, u] => (match slSz P t, slOf P t with
    | some z, some e => Bool.rec (zerosA P u e z s x h c) (srcA z h x none (appK P e z s h c)) (okArg P u)
    | _, _ => .fail "append")
  | _ => .fail "append"
noncomputable def dstLen : AV → Option Nat
  | .nilslice => some 0
  | .slice _ _ l _ => some l
  | .sliceU _ _ l _ => some l
  | _ => none
noncomputable def copyK (z : Nat) (d : AV) (h : H) (c : KV) (n : Nat) (new : List AV) : R := match d with
  | .nilslice => c (.int .i64 0) h
  | .slice b o _ _ => stn (Nat.mul n z) h new (fun _ h => c (.int .i64 (.ofNat n)) h) b o
  | .sliceU b k _ z' => stn (Nat.mul n z) h new (fun _ h => c (.int .i64 (.ofNat n)) h) b (Nat.mul k z')
  | _ => .fail "copy"
noncomputable def copyA (P : Program) (ts : Array TypeId) (d x : AV) (h : H) (c : KV) : R :=
  match ts.toList with
  | t :: _ => (match slSz P t, dstLen d with
    | some z, some l => srcA z h x (some l) (copyK z d h c)
    | _, _ => .fail "copy")
  | _ => .fail "copy"
noncomputable def foldMax (mx : Bool) : Int → List AV → Option Int
  | a, [] => some a
  | a, .int _ b :: r => foldMax mx (bif (bif mx then nt (leI b a) else nt (leI a b)) then b else a) r
  | _, _ => none
noncomputable def maxA (mx : Bool) (l : List AV) (h : H) (c : KV) : R := match l with
  | .int k a :: r => (match foldMax mx a r with | some n => c (.int k n) h | none => .fail "max")
  | _ => .fail "max"
noncomputable def delA (P : Program) (ts : Array TypeId) (m k : AV) (h : H) (c : KV) : R :=
  match ts.toList with
  | t :: _ => (match mapT P t, m with
    | some (kt, _), .map r => bif keyOk P kt k then (match h.m.get r with
      | some (.mp es bs cl false) => (match mpFind k es with | some (some _) => c (.tup []) ⟨h.next, h.m.set r (.mp (mpDel k es) (bsDel k es bs) cl false)⟩ | some none => c (.tup []) h | none => .fail "delete")
      | _ => .fail "delete") else .fail "delete"
    | some (kt, _), .nilmap => bif keyOk P kt k then c (.tup []) h else .fail "delete"
    | _, _ => .fail "delete")
  | _ => .fail "delete"
/- unsafe.String: the cells are shared -/
def ptrTo (P : Program) (t e : TypeId) : Bool := match desc P t with | .pointer e' => Nat.beq e e' && Nat.beq (P.cellsOf e) 1 | _ => false
noncomputable def usK (h : H) (b o n : Nat) (c : KV) (P : Program) (pt : TypeId) : KB := fun ty m d t fz ex => bif an (Nat.ble (Nat.add o n) m) (an (ptrTo P pt ty) (an (Nat.beq fz 0) (Nat.blt n 1099511627776)))
  then (match bytesStr (ldCells d t n o) with
    | some (l, s) => c (.str l s) ⟨h.next, h.m.set b (.cells ty m d t (Nat.succ (Nat.add o n)) ex)⟩
    | none => .fail "unsafe.String") else .fail "unsafe.String"
noncomputable def builtB (P : Program) (b : Builtin) (ts : Array TypeId) (t : TypeId) (args : List AV) (h : H) (c : KV) : R :=
  match b, args with
  | .len, [x] => lenA P t x h c
  | .cap, [x] => capA P t x h c
  | .append, [s, x] => appA P ts s x h c
  | .copy, [d, x] => copyA P ts d x h c
  | .max, l => maxA true l h c
  | .min, l => maxA false l h c
  | .delete, [m, k] => delA P ts m k h c
  | .unsafeSliceData, [.sliceU b k l z] => bif Nat.blt 0 l then c (.ptr b (Nat.mul k z)) h else .fail "SliceData"
  | .unsafeSliceData, [.slice b o _ cp] => bif Nat.blt 0 cp then c (.ptr b o) h else .fail "SliceData"
  | .unsafeSliceData, [.nilslice] => c .nilptr h
  | .unsafeString, [.nilptr, .int _ n] => bif eqI n 0 then c (.str 0 0) h else .fail "unsafe.String"
  | .unsafeString, [.ptr b o, .int _ (.ofNat n)] => (match n with
    | 0 => c (.str 0 0) h
    | _ => onBlk h b (usK h b o n c P t))
  | _, _ => .fail "builtin"
noncomputable def builtA (P : Program) (b : Builtin) (ts : Array TypeId) (args : List AV) (h : H) (c : KV) : R := match ts.toList with
  | t :: _ => builtB P b ts t args h c
  | [] => .fail "builtin"

end Go.Ev
