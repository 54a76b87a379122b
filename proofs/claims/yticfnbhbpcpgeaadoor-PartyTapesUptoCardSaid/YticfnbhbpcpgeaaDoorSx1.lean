/-
  SX, part 1: an executor of Go code over abstract states, as plain Lean functions. (No proof yet; soundness is in the later parts.)
-/
import Derived.Calls
import Derived.Orders
namespace Go.SX

/-- A slice among data that is not followed: one of its own (a block of the state), or what it is in the machine. -/
inductive RefD where
  | nil
  | own (b off len : Nat)
  | raw (a : Option Addr) (len cap : Nat)

def RefD.len : RefD → Nat
  | .nil => 0
  | .own _ _ len => len
  | .raw _ len _ => len
def RefD.off : RefD → Nat
  | .nil => 0
  | .own _ off _ => off
  | .raw _ _ _ => 0
def RefD.isOwn (b : Nat) : RefD → Bool
  | .own b' _ _ => b' == b
  | _ => false

/-- Kinds of data that are only read. -/
inductive DTy where
  | unit
  | int (k : IntKind)
  | bool
  | str
  | ws (k : IntKind) (n : Nat)
  | pair (a b : DTy)
  | sl (t : DTy)
  | ref
  deriving DecidableEq

def DTy.den : DTy → Type
  | .unit => Unit
  | .int _ => Int
  | .bool => Bool
  | .str => ByteArray
  | .ws _ _ => List Int
  | .pair a b => a.den × b.den
  | .sl t => List t.den × Nat
  | .ref => RefD

def DTy.dflt : (t : DTy) → t.den
  | .unit => ()
  | .int _ => (0 : Int)
  | .bool => false
  | .str => ByteArray.empty
  | .ws _ n => (List.replicate n 0 : List Int)
  | .pair a b => (a.dflt, b.dflt)
  | .sl _ => ([], 0)
  | .ref => RefD.nil

def DTy.size : DTy → Nat
  | .unit => 0
  | .int _ => 1
  | .bool => 1
  | .str => 1
  | .ws _ n => n
  | .pair a b => a.size + b.size
  | .sl _ => 1
  | .ref => 1

/-- One cell. 'lit': the number is known as such (a test of it is decided at once). -/
inductive Cell where
  | any
  | int (lit : Bool) (k : IntKind) (n : Int)
  | bool (lit : Bool) (b : Bool)
  | str (s : ByteArray)
  | nilp
  | nils
  | nilif
  | nilfn
  | ptr (b i es o k n : Nat)
  | rptr (t : DTy) (d : t.den) (o k : Nat)
  | sl (b off len : Nat)
  | sla (b o n off len : Nat)
  | ro (t : DTy) (xs : List t.den) (len : Nat)
  | ifc (t : TypeId) (x : Cell)
  | ifd (T : TypeId) (t : DTy) (d : t.den)
  | fn (f : FuncId) (captured : List Cell)
  | ref (d : RefD)

/-- A cell, or a row of whole numbers. -/
inductive FCell where
  | c (x : Cell)
  | ws (k : IntKind) (n : Nat) (xs : List Int)

/-- A value: one cell, or an aggregate. -/
inductive V1 where
  | c (x : Cell)
  | g (fs : List FCell)

/-- What a slot holds: a value, or a call's several results. -/
inductive SV where
  | any
  | one (v : V1)
  | tup (vs : List V1)

/-- A block: variables; a slice's elements, its own to write ('lo', 'par': below 'lo' they are shared with the frozen blocks 'par'); elements that are only read; one of which nothing is known; no block yet. -/
inductive Blk where
  | vals (fs : List FCell)
  | arr (t : DTy) (xs : List t.den) (lo : Nat) (par : List Nat)
  | frz (t : DTy) (xs : List t.den)
  | gone
  | dead

abbrev Heap := List Blk

structure St where
  t : List SV
  h : Heap

inductive Tree (α : Type) where
  | ret (a : α)
  | br (b : Bool) (t e : Tree α)
  | fail

namespace Tree
def bind {α β : Type} : Tree α → (α → Tree β) → Tree β
  | ret a, f => f a
  | br b t e, f => br b (t.bind f) (e.bind f)
  | fail, _ => fail
def val {α : Type} : Tree α → Option α
  | ret a => some a
  | br b t e => if b then t.val else e.val
  | fail => none
def chk {α : Type} (b : Bool) (t : Tree α) : Tree α := br b t fail
/-- a test that is decided at once -/
def stat {α : Type} (b : Bool) (t : Tree α) : Tree α := match b with | true => t | false => fail
/-- at once where 'lit' -/
def chkl {α : Type} (lit : Bool) (b : Bool) (t : Tree α) : Tree α := match lit with | true => stat b t | false => chk b t
def brl {α : Type} (lit : Bool) (b : Bool) (t e : Tree α) : Tree α :=
  match lit with
  | true => (match b with | true => t | false => e)
  | false => br b t e
def opt {α β : Type} (o : Option α) (f : α → Tree β) : Tree β := match o with | some a => f a | none => fail
end Tree

/-! ### Fat cells -/
def FCell.size : FCell → Nat
  | .c _ => 1
  | .ws _ n _ => n

def fsize : List FCell → Nat
  | [] => 0
  | f :: fs => f.size + fsize fs

/-- typed data as fat cells -/
def toF : (t : DTy) → t.den → List FCell
  | .unit, _ => []
  | .int k, d => [.c (.int false k d)]
  | .bool, d => [.c (.bool false d)]
  | .str, d => [.c (.str d)]
  | .ws k n, d => [.ws k n d]
  | .pair a b, d => toF a d.1 ++ toF b d.2
  | .sl t, d => [.c (.ro t d.1 d.2)]
  | .ref, d => [.c (.ref d)]

/-- cast of a list of data, where the kinds are the same -/
def castL {t u : DTy} (xs : List t.den) : Option (List u.den) := if h : t = u then some (h ▸ xs) else none

/-- fat cells as typed data, and what is left of them -/
def ofF : (t : DTy) → List FCell → Option (t.den × List FCell)
  | .unit, fs => some ((), fs)
  | .int k, fs => match fs with
    | .c (.int _ k' n) :: fs => if k = k' then some (n, fs) else none
    | _ => none
  | .bool, fs => match fs with
    | .c (.bool _ b) :: fs => some (b, fs)
    | _ => none
  | .str, fs => match fs with
    | .c (.str s) :: fs => some (s, fs)
    | _ => none
  | .ws k n, fs => match fs with
    | .ws k' n' xs :: fs => if k = k' ∧ n = n' then some (xs, fs) else none
    | _ => none
  | .pair a b, fs => match ofF a fs with
    | some (x, r) => match ofF b r with
      | some (y, r') => some ((x, y), r')
      | none => none
    | none => none
  | .sl t, fs => match fs with
    | .c .nils :: fs => if 0 < t.size then some (([], 0), fs) else none
    | .c (.ro _ xs len) :: fs => match castL (u := t) xs with
      | some ys => some ((ys, len), fs)
      | none => none
    | _ => none
  | .ref, fs => match fs with
    | .c (.ref d) :: fs => some (d, fs)
    | .c (.sl b off len) :: fs => some (.own b off len, fs)
    | .c .nils :: fs => some (.nil, fs)
    | _ => none

def ofFall (t : DTy) (fs : List FCell) : Option t.den :=
  match ofF t fs with
  | some (d, []) => some d
  | _ => none

/-- the value of one cell: at place o, in a row of n numbers at k (n = 0: no row) -/
def getC : List FCell → (o k n : Nat) → Option Cell
  | [], _, _, _ => none
  | .c x :: fs, o, k, n => match o with
    | 0 => (match n with | 0 => some x | _ + 1 => none)
    | o + 1 => getC fs o k n
  | .ws kd m xs :: fs, o, k, n => match o with
    | 0 => if m = n ∧ 0 < n then some (.int false kd (xs.getD k 0)) else none
    | o + 1 => if m ≤ o + 1 then getC fs (o + 1 - m) k n else none

/-- the fat cells from place o on, that take just n cells -/
def takeF : List FCell → Nat → Option (List FCell)
  | _, 0 => some []
  | [], _ + 1 => none
  | f :: fs, n + 1 => match f.size with
    | 0 => none
    | s + 1 => if s ≤ n then (match takeF fs (n - s) with | some r => some (f :: r) | none => none) else none

def dropF : List FCell → Nat → Option (List FCell)
  | fs, 0 => some fs
  | [], _ + 1 => none
  | f :: fs, o + 1 => if f.size ≤ o + 1 then dropF fs (o + 1 - f.size) else none

def getG (fs : List FCell) (o n : Nat) : Option (List FCell) :=
  match dropF fs o with
  | some r => takeF r n
  | none => none

/-- one cell is written -/
def setC : List FCell → (o k n : Nat) → Cell → Option (List FCell)
  | [], _, _, _, _ => none
  | .c x :: fs, o, k, n, y => match o with
    | 0 => (match n with | 0 => some (.c y :: fs) | _ + 1 => none)
    | o + 1 => (match setC fs o k n y with | some r => some (.c x :: r) | none => none)
  | .ws kd m xs :: fs, o, k, n, y => match o with
    | 0 => (match y with
      | .int _ kd' v => if kd = kd' ∧ m = n ∧ 0 < n then some (.ws kd m (xs.set k v) :: fs) else none
      | _ => none)
    | o + 1 => if m ≤ o + 1 then (match setC fs (o + 1 - m) k n y with | some r => some (.ws kd m xs :: r) | none => none) else none

/-- several cells are written, at a place between fat cells -/
def setG : List FCell → (o : Nat) → List FCell → Option (List FCell)
  | fs, 0, new => match dropF fs (fsize new) with
    | some r => some (new ++ r)
    | none => none
  | [], _ + 1, _ => none
  | f :: fs, o + 1, new => if f.size ≤ o + 1 then (match setG fs (o + 1 - f.size) new with | some r => some (f :: r) | none => none) else none

/-! ### Types of the program -/
inductive LCell where
  | one
  | ws (k : IntKind) (n : Nat)

def rep {α : Type} (xs : List α) : Nat → List α
  | 0 => []
  | n + 1 => xs ++ rep xs n

/-- how a type's cells lie -/
def lay (P : Program) : Nat → TypeId → Option (List LCell)
  | 0, _ => none
  | d + 1, t => match P.underlying t with
    | some (.array n e) => match P.underlying e with
      | some (.int k) => (match n with | 0 => some [] | _ => some [.ws k n])
      | _ => match lay P d e with
        | some l => some (rep l n)
        | none => none
    | some (.struct fs) => fs.toList.foldr (fun f acc => match lay P d f.type, acc with
        | some l, some r => some (l ++ r)
        | _, _ => none) (some [])
    | some (.tuple _) | some .invalid | some (.named _ _) | none => none
    | some _ => some [.one]

/-- the kind of data of a type -/
def dty (P : Program) : Nat → TypeId → Option DTy
  | 0, _ => none
  | d + 1, t => match P.underlying t with
    | some (.int k) => some (.int k)
    | some .bool => some .bool
    | some .string => some .str
    | some (.array n e) => match P.underlying e with
      | some (.int k) => some (.ws k n)
      | _ => match dty P d e with
        | some l => some ((List.replicate n l).foldr .pair .unit)
        | none => none
    | some (.struct fs) => fs.toList.foldr (fun f acc => match dty P d f.type, acc with
        | some l, some r => some (.pair l r)
        | _, _ => none) (some .unit)
    | some (.slice e) => match dty P d e with
      | some l => some (.sl l)
      | none => none
    | _ => none

/-- .. where slices are not followed -/
def dtyR (P : Program) : Nat → TypeId → Option DTy
  | 0, _ => none
  | d + 1, t => match P.underlying t with
    | some (.slice _) => some .ref
    | some (.struct fs) => fs.toList.foldr (fun f acc => match dtyR P d f.type, acc with
        | some l, some r => some (.pair l r)
        | _, _ => none) (some .unit)
    | _ => dty P (d + 1) t

def dtyQ (rf : Bool) (P : Program) (d : Nat) (t : TypeId) : Option DTy := match rf with | true => dtyR P d t | false => dty P d t

/-- is there a slice that is not followed? -/
def DTy.rf : DTy → Bool
  | .ref => true
  | .pair a b => a.rf || b.rf
  | .sl t => t.rf
  | _ => false

/-- a constant's cell -/
def absC (v : Value) : Cell :=
  match v with
  | .int k n => if k.min ≤ n ∧ n ≤ k.max then .int true k n else .any
  | .bool b => .bool true b
  | .string s => .str s
  | .pointer a => (match a with | none => .nilp | some _ => .any)
  | .slice a l c => (match a with | none => (if l = 0 ∧ c = 0 then .nils else .any) | some _ => .any)
  | .nilIface => .nilif
  | .nilFunc => .nilfn
  | .func f x y => (match f with | .func g => (if x.size = 0 ∧ y.size = 0 then .fn g [] else .any) | _ => .any)
  | _ => .any

def absWs (k : IntKind) : List Value → Option (List Int)
  | [] => some []
  | v :: vs => match v with
    | .int k' n => if k = k' ∧ k.min ≤ n ∧ n ≤ k.max then (match absWs k vs with | some r => some (n :: r) | none => none) else none
    | _ => none

def isSingle : Value → Bool
  | .agg _ => false
  | .tuple _ => false
  | _ => true

def absF : List LCell → List Value → Option (List FCell)
  | [], [] => some []
  | .one :: ls, v :: vs => match isSingle v, absF ls vs with
    | true, some r => some (.c (absC v) :: r)
    | _, _ => none
  | .ws k n :: ls, vs => if n ≤ vs.length then match absWs k (vs.take n), absF ls (vs.drop n) with
    | some xs, some r => some (.ws k n xs :: r)
    | _, _ => none else none
  | _, _ => none

def fuel : Nat := 40

def isAggT (P : Program) (t : TypeId) : Option Bool :=
  match P.underlying t with
  | some (.struct _) | some (.array _ _) => some true
  | some _ => some false
  | none => none

/-- a type's zero, as fat cells -/
def zeroF (P : Program) (t : TypeId) : Option (List FCell) :=
  match lay P fuel t with
  | none => none
  | some l => match P.info? t with
    | none => none
    | some i => match i.zero with
      | none => none
      | some v => absF l v.cells.toList

def V1.fs : V1 → List FCell
  | .c x => [.c x]
  | .g fs => fs

/-! ### Slots -/
def getT : List SV → Nat → SV
  | [], _ => .any
  | v :: _, 0 => v
  | _ :: vs, n + 1 => getT vs n

def setT : List SV → Nat → SV → List SV
  | [], _, _ => []
  | _ :: vs, 0, u => u :: vs
  | v :: vs, n + 1, u => v :: setT vs n u

def getB : Heap → Nat → Blk
  | [], _ => .dead
  | b :: _, 0 => b
  | _ :: bs, n + 1 => getB bs n

def setB : Heap → Nat → Blk → Heap
  | [], _, _ => []
  | _ :: bs, 0, u => u :: bs
  | b :: bs, n + 1, u => b :: setB bs n u

def St.put (s : St) (d : Option Tmp) (v : SV) : St :=
  match d with
  | some d => { s with t := setT s.t d v }
  | none => s

end Go.SX
