/- The abstract evaluator: its data. Values with abstract block numbers, strings packed into numbers, slices of unknown capacity; blocks in a binary trie. -/
import GoSem.Machine.Start
namespace Go.Ev

inductive AV where
  | bad
  | bool (b : Bool)
  | int (k : IntKind) (n : Int)
  | flt (bits : Nat)
  | str (len n : Nat)
  | nilptr
  | ptr (b o : Nat)
  | slice (b o len cap : Nat)
  | sliceU (b k len sz : Nat)
  | nilslice
  | map (r : Nat)
  | nilmap
  | func (fn : Fn) (first cap : List AV)
  | nilfunc
  | iface (t : Nat) (v : AV)
  | niliface
  | agg (l : List AV)
  | tup (l : List AV)
  deriving Inhabited

inductive Tr (α : Type) where
  | nil
  | node (v : Option α) (l r : Tr α)

namespace Tr
variable {α : Type}
noncomputable def gS (gl gr : Nat → Option α) (j : Nat) (_ : Option α) : Option α := Bool.rec (gr (Nat.div j 2)) (gl (Nat.div j 2)) (Nat.beq (Nat.mod j 2) 0)
noncomputable def gN (v : Option α) (_ _ : Tr α) (gl gr : Nat → Option α) (k : Nat) : Option α := Nat.rec (motive := fun _ => Option α) v (gS gl gr) k
def g0 (_ : Nat) : Option α := none
noncomputable def get (t : Tr α) : Nat → Option α := Tr.rec (motive := fun _ => Nat → Option α) g0 gN t

/- one place alone -/
noncomputable def oS (ih : Nat → Tr α) (j : Nat) (_ : Tr α) : Tr α := Bool.rec (.node none .nil (ih (Nat.div j 2))) (.node none (ih (Nat.div j 2)) .nil) (Nat.beq (Nat.mod j 2) 0)
noncomputable def oN (x : α) (_ : Nat) (ih : Nat → Tr α) (k : Nat) : Tr α := Nat.rec (motive := fun _ => Tr α) (.node (some x) .nil .nil) (oS ih) k
def o0 (_ : Nat) : Tr α := .nil
noncomputable def one (x : α) (fuel : Nat) : Nat → Tr α := Nat.rec (motive := fun _ => Nat → Tr α) o0 (oN x) fuel
noncomputable def sE (x : α) (k : Nat) : Tr α := one x (Nat.succ k) k
noncomputable def sS (v : Option α) (l r : Tr α) (sl sr : Nat → Tr α) (j : Nat) (_ : Tr α) : Tr α := Bool.rec (.node v l (sr (Nat.div j 2))) (.node v (sl (Nat.div j 2)) r) (Nat.beq (Nat.mod j 2) 0)
noncomputable def sN (x : α) (v : Option α) (l r : Tr α) (sl sr : Nat → Tr α) (k : Nat) : Tr α := Nat.rec (motive := fun _ => Tr α) (.node (some x) l r) (sS v l r sl sr) k
noncomputable def setX (x : α) (t : Tr α) : Nat → Tr α := Tr.rec (motive := fun _ => Nat → Tr α) (sE x) (sN x) t
noncomputable def set (t : Tr α) (k : Nat) (x : α) : Tr α := setX x t k
noncomputable def dN (v : Option α) (l r : Tr α) (sl sr : Nat → Tr α) (k : Nat) : Tr α := Nat.rec (motive := fun _ => Tr α) (.node none l r) (sS v l r sl sr) k
noncomputable def del (t : Tr α) : Nat → Tr α := Tr.rec (motive := fun _ => Nat → Tr α) o0 dN t
end Tr

/- A block: cells (the element type, how many are known, what stands where the trie has nothing, the trie, the mark of what a string shares, whether there are no more cells); a map (its entries, their stamps, the clock; whether it is only read); an iterator over a map. -/
inductive Blk where
  | cells (ty n : Nat) (d : List AV) (c : Tr AV) (fz : Nat) (ex : Bool)
  | mp (es : List (AV × AV)) (bs : List Nat) (cl : Nat) (ro : Bool)
  | it (m : Option Nat) (since : Nat) (seen : List Nat) (last : Nat)

structure H where
  next : Nat
  m : Tr Blk

structure Fr where
  st : List (Nat × AV)
  t : Tr AV
  d : List (AV × List AV)

inductive Ex where
  | normal
  | exit (id : Nat)
  | ret
  | panic (v : AV)

inductive R where
  | fail (s : String)
  | ok (v : AV) (h : H)
  | pan (v : AV) (h : H)

abbrev KV := AV → H → R
abbrev KE := Ex → Fr → H → R
abbrev Call := FuncId → List AV → H → R

/- packed strings: the first byte is the lowest -/
def pk (l : List UInt8) : Nat := l.foldr (fun b n => b.toNat + 256 * n) 0
def stGet (n i : Nat) : Nat := Nat.mod (Nat.shiftRight n (Nat.mul 8 i)) 256
def stSub (n lo hi : Nat) : Nat := Nat.mod (Nat.shiftRight n (Nat.mul 8 lo)) (Nat.pow 2 (Nat.mul 8 (Nat.sub hi lo)))
def stCat (la a b : Nat) : Nat := Nat.add a (Nat.shiftLeft b (Nat.mul 8 la))
def stLess : Nat → Nat → Nat → Nat → Nat → Bool
  | 0, _, _, _, _ => false
  | f + 1, la, a, lb, b =>
    match lb with
    | 0 => false
    | lb + 1 => match la with
      | 0 => true
      | la + 1 => bif Nat.blt (Nat.mod a 256) (Nat.mod b 256) then true else bif Nat.beq (Nat.mod a 256) (Nat.mod b 256) then stLess f la (Nat.div a 256) lb (Nat.div b 256) else false
def strBytes : Nat → Nat → List AV
  | 0, _ => []
  | l + 1, n => .int .u8 (Int.ofNat (Nat.mod n 256)) :: strBytes l (Nat.div n 256)
def bytesStr : List AV → Option (Nat × Nat)
  | [] => some (0, 0)
  | .int .u8 (.ofNat b) :: r => match bytesStr r with
    | some (l, n) => bif Nat.blt b 256 then some (Nat.succ l, Nat.add b (Nat.mul 256 n)) else none
    | none => none
  | _ => none

/- constants -/
def ofV0 : Value → AV
  | .bool b => .bool b
  | .int k n => .int k n
  | .float .f64 b => .flt b
  | .string s => .str s.data.toList.length (pk s.data.toList)
  | .pointer none => .nilptr
  | .slice none 0 0 => .nilslice
  | .map none => .nilmap
  | .nilFunc => .nilfunc
  | .nilIface => .niliface
  | .func (.func f) first cap => if first.toList.isEmpty && cap.toList.isEmpty then .func (.func f) [] [] else .bad
  | _ => .bad
/- the value of one cell -/
def one (v : Value) : Bool := match v with
  | .agg _ | .tuple _ => false
  | _ => true
def ofV : Value → AV
  | .agg cs => if cs.toList.all one then .agg (cs.toList.map ofV0) else .bad
  | .tuple cs => .tup (cs.toList.map ofV0)
  | v => ofV0 v

/- integers -/
noncomputable def leI (a b : Int) : Bool := Int.rec (motive := fun _ => Bool) (fun a => Int.rec (motive := fun _ => Bool) (fun b => Nat.ble a b) (fun _ => false) b) (fun a => Int.rec (motive := fun _ => Bool) (fun _ => true) (fun b => Nat.ble b a) b) a
noncomputable def eqI (a b : Int) : Bool := Int.rec (motive := fun _ => Bool) (fun a => Int.rec (motive := fun _ => Bool) (fun b => Nat.beq a b) (fun _ => false) b) (fun a => Int.rec (motive := fun _ => Bool) (fun _ => false) (fun b => Nat.beq a b) b) a
noncomputable def subN (a b : Nat) : Int := Bool.rec (.negSucc (Nat.sub (Nat.sub b a) 1)) (.ofNat (Nat.sub a b)) (Nat.ble b a)
noncomputable def addI (a b : Int) : Int := Int.rec (motive := fun _ => Int) (fun a => Int.rec (motive := fun _ => Int) (fun b => .ofNat (Nat.add a b)) (fun b => subN a (Nat.succ b)) b) (fun a => Int.rec (motive := fun _ => Int) (fun b => subN b (Nat.succ a)) (fun b => .negSucc (Nat.succ (Nat.add a b))) b) a
noncomputable def negI (a : Int) : Int := Int.rec (motive := fun _ => Int) (fun a => Nat.rec (motive := fun _ => Int) (.ofNat 0) (fun k _ => .negSucc k) a) (fun a => .ofNat (Nat.succ a)) a
noncomputable def mulI (a b : Int) : Int := Int.rec (motive := fun _ => Int) (fun a => Int.rec (motive := fun _ => Int) (fun b => .ofNat (Nat.mul a b)) (fun b => negI (.ofNat (Nat.mul a (Nat.succ b)))) b) (fun a => Int.rec (motive := fun _ => Int) (fun b => negI (.ofNat (Nat.mul (Nat.succ a) b))) (fun b => .ofNat (Nat.mul (Nat.succ a) (Nat.succ b))) b) a
def pw (k : IntKind) : Nat := match k with | .i8 | .u8 => 256 | .i16 | .u16 => 65536 | .i32 | .u32 => 4294967296 | .i64 | .u64 => 18446744073709551616
def hf (k : IntKind) : Nat := match k with | .i8 => 128 | .u8 => 256 | .i16 => 32768 | .u16 => 65536 | .i32 => 2147483648 | .u32 => 4294967296 | .i64 => 9223372036854775808 | .u64 => 18446744073709551616
def sgn (k : IntKind) : Bool := match k with | .i8 | .i16 | .i32 | .i64 => true | _ => false
/- the number from 0 on, below 2^bits, that a number is modulo 2^bits -/
noncomputable def toU (k : IntKind) (n : Int) : Nat := Int.rec (motive := fun _ => Nat) (fun a => Nat.mod a (pw k)) (fun a => Nat.sub (Nat.sub (pw k) 1) (Nat.mod a (pw k))) n
noncomputable def ofU (k : IntKind) (m : Nat) : Int := Bool.rec (.negSucc (Nat.sub (Nat.sub (pw k) 1) m)) (.ofNat m) (Nat.blt m (hf k))
noncomputable def inR (k : IntKind) (n : Int) : Bool := Int.rec (motive := fun _ => Bool) (fun a => Nat.blt a (hf k)) (fun a => Bool.rec false (Nat.blt a (hf k)) (sgn k)) n
noncomputable def wr (k : IntKind) (n : Int) : Int := Bool.rec (ofU k (toU k n)) n (inR k n)
noncomputable def shrI (a : Int) (n : Nat) : Int := Int.rec (motive := fun _ => Int) (fun a => .ofNat (Nat.div a (Nat.pow 2 n))) (fun a => .negSucc (Nat.div a (Nat.pow 2 n))) a
noncomputable def nt (b : Bool) : Bool := Bool.rec true false b
noncomputable def an (a b : Bool) : Bool := Bool.rec false b a

end Go.Ev
