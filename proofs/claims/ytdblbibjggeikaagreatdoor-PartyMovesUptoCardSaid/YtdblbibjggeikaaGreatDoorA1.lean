/- SX, part 1: an executor of Go code over abstract states, as plain Lean functions. (No proof yet; soundness is in the later parts.) -/
import Derived.Calls
import Derived.Orders
set_option linter.unusedSectionVars false
set_option linter.unusedVariables false
set_option linter.unusedSimpArgs false
theorem deT {p : Prop} [Decidable p] (h : p) : decide p = true := _root_.decide_eq_true h
theorem deF {p : Prop} [Decidable p] (h : ¬p) : decide p = false := _root_.decide_eq_false h
theorem ofD {p : Prop} [Decidable p] (h : decide p = true) : p := _root_.of_decide_eq_true h
theorem smI {A : Type _} {a b : A} (h : some a = some b) : a = b := _root_.Option.some.inj h
namespace Go.SX
inductive RefD where
 | nil
 | own (b off len : Nat)
 | raw (a : Option Addr) (len cap : Nat)
def RefD.len : RefD -> Nat
 | .nil => 0
 | .own _ _ len => len
 | .raw _ len _ => len
def RefD.off : RefD -> Nat
 | .nil => 0
 | .own _ off _ => off
 | .raw _ _ _ => 0
def RefD.isOwn (b : Nat) : RefD -> Bool
 | .own b' _ _ => b' == b
 | _ => false
inductive DTy where
 | unit
 | int (k : IntKind)
 | bool
 | str
 | ws (k : IntKind) (n : Nat)
 | pair (a b : DTy)
 | sl (t : DTy)
 | ref
 | vp
 deriving DecidableEq
def DTy.den : DTy -> Type
 | .unit => Unit
 | .int _ => Int
 | .bool => Bool
 | .str => ByteArray
 | .ws _ _ => List Int
 | .pair a b => a.den × b.den
 | .sl t => List t.den × Nat
 | .ref => RefD
 | .vp => Addr
def DTy.dflt : (t : DTy) -> t.den
 | .unit => ()
 | .int _ => (0 : Int)
 | .bool => false
 | .str => ByteArray.empty
 | .ws _ n => (List.replicate n 0 : List Int)
 | .pair a b => (a.dflt, b.dflt)
 | .sl _ => ([], 0)
 | .ref => RefD.nil
 | .vp => (⟨0, 0, none⟩ : Addr)
def DTy.size : DTy -> Nat
 | .unit => 0
 | .int _ => 1
 | .bool => 1
 | .str => 1
 | .ws _ n => n
 | .pair a b => a.size + b.size
 | .sl _ => 1
 | .ref => 1
 | .vp => 1
inductive Cell where
 | any
 | int (lit : Bool) (k : IntKind) (n : Int)
 | bool (lit : Bool) (b : Bool)
 | str (s : ByteArray)
 | nilp
 | nils
 | nilif
 | nilfn
 | ptr (b i es o k n : Nat)
 | rptr (t : DTy) (d : t.den) (o k : Nat)
 | sl (b off len : Nat)
 | sla (b o n off len : Nat)
 | ro (t : DTy) (xs : List t.den) (len : Nat)
 | ifc (t : TypeId) (x : Cell)
 | ifd (T : TypeId) (t : DTy) (d : t.den)
 | fn (f : FuncId) (captured : List Cell)
 /-- the address itself: of a cell that is touched atomically, by many -/
 | vptr (a : Addr)
 | ref (d : RefD)
inductive FCell where
 | c (x : Cell)
 | ws (k : IntKind) (n : Nat) (xs : List Int)
inductive V1 where
 | c (x : Cell)
 | g (fs : List FCell)
inductive SV where
 | any
 | one (v : V1)
 | tup (vs : List V1)
inductive Blk where
 | vals (fs : List FCell)
 | arr (t : DTy) (xs : List t.den) (lo : Nat) (par : List Nat)
 | frz (t : DTy) (xs : List t.den)
 | gone
 | dead
abbrev Heap := List Blk
structure St where
 t : List SV
 h : Heap
inductive Tree (α : Type) where
 | ret (a : α)
 | br (b : Bool) (t e : Tree α)
 | fail
namespace Tree
def bind {α β : Type} : Tree α -> (α -> Tree β) -> Tree β
 | ret a, f => f a
 | br b t e, f => br b (t.bind f) (e.bind f)
 | fail, _ => fail
def val {α : Type} : Tree α -> Option α
 | ret a => some a
 | br b t e => if b then t.val else e.val
 | fail => none
def chk {α : Type} (b : Bool) (t : Tree α) : Tree α := br b t fail
def stat {α : Type} (b : Bool) (t : Tree α) : Tree α := match b with | true => t | false => fail
def chkl {α : Type} (lit : Bool) (b : Bool) (t : Tree α) : Tree α := match lit with | true => stat b t | false => chk b t
def brl {α : Type} (lit : Bool) (b : Bool) (t e : Tree α) : Tree α :=
 match lit with
 | true => (match b with | true => t | false => e)
 | false => br b t e
def opt {α β : Type} (o : Option α) (f : α -> Tree β) : Tree β := match o with | some a => f a | none => fail
end Tree
def FCell.size : FCell -> Nat
 | .c _ => 1
 | .ws _ n _ => n
def fsize : List FCell -> Nat
 | [] => 0
 | f :: fs => f.size + fsize fs
def toF : (t : DTy) -> t.den -> List FCell
 | .unit, _ => []
 | .int k, d => [.c (.int false k d)]
 | .bool, d => [.c (.bool false d)]
 | .str, d => [.c (.str d)]
 | .ws k n, d => [.ws k n d]
 | .pair a b, d => toF a d.1 ++ toF b d.2
 | .sl t, d => [.c (.ro t d.1 d.2)]
 | .ref, d => [.c (.ref d)]
 | .vp, d => [.c (.vptr d)]
def castL {t u : DTy} (xs : List t.den) : Option (List u.den) := if h : t = u then some (h ▸ xs) else none
def ofF : (t : DTy) -> List FCell -> Option (t.den × List FCell)
 | .unit, fs => some ((), fs)
 | .int k, fs => match fs with
  | .c (.int _ k' n) :: fs => if k = k' then some (n, fs) else none
  | _ => none
 | .bool, fs => match fs with
  | .c (.bool _ b) :: fs => some (b, fs)
  | _ => none
 | .str, fs => match fs with
  | .c (.str s) :: fs => some (s, fs)
  | _ => none
 | .ws k n, fs => match fs with
  | .ws k' n' xs :: fs => if k = k' /\ n = n' then some (xs, fs) else none
  | _ => none
 | .pair a b, fs => match ofF a fs with
  | some (x, r) => match ofF b r with
   | some (y, r') => some ((x, y), r')
   | none => none
  | none => none
 | .sl t, fs => match fs with
  | .c .nils :: fs => if 0 < t.size then some (([], 0), fs) else none
  | .c (.ro _ xs len) :: fs => match castL (u := t) xs with
   | some ys => some ((ys, len), fs)
   | none => none
  | _ => none
 | .ref, fs => match fs with
  | .c (.ref d) :: fs => some (d, fs)
  | .c (.sl b off len) :: fs => some (.own b off len, fs)
  | .c .nils :: fs => some (.nil, fs)
  | _ => none
 | .vp, fs => match fs with
  | .c (.vptr a) :: fs => some (a, fs)
  | _ => none
def ofFall (t : DTy) (fs : List FCell) : Option t.den :=
 match ofF t fs with
 | some (d, []) => some d
 | _ => none
def getC : List FCell -> (o k n : Nat) -> Option Cell
 | [], _, _, _ => none
 | .c x :: fs, o, k, n => match o with
  | 0 => (match n with | 0 => some x | _ + 1 => none)
  | o + 1 => getC fs o k n
 | .ws kd m xs :: fs, o, k, n => match o with
  | 0 => if m = n /\ 0 < n then some (.int false kd (xs.getD k 0)) else none
  | o + 1 => if m <= o + 1 then getC fs (o + 1 - m) k n else none
def takeF : List FCell -> Nat -> Option (List FCell)
 | _, 0 => some []
 | [], _ + 1 => none
 | f :: fs, n + 1 => match f.size with
  | 0 => none
  | s + 1 => if s <= n then (match takeF fs (n - s) with | some r => some (f :: r) | none => none) else none
def dropF : List FCell -> Nat -> Option (List FCell)
 | fs, 0 => some fs
 | [], _ + 1 => none
 | f :: fs, o + 1 => if f.size <= o + 1 then dropF fs (o + 1 - f.size) else none
def setC : List FCell -> (o k n : Nat) -> Cell -> Option (List FCell)
 | [], _, _, _, _ => none
 | .c x :: fs, o, k, n, y => match o with
  | 0 => (match n with | 0 => some (.c y :: fs) | _ + 1 => none)
  | o + 1 => (match setC fs o k n y with | some r => some (.c x :: r) | none => none)
 | .ws kd m xs :: fs, o, k, n, y => match o with
  | 0 => (match y with
   | .int _ kd' v => if kd = kd' /\ m = n /\ 0 < n then some (.ws kd m (xs.set k v) :: fs) else none
   | _ => none)
  | o + 1 => if m <= o + 1 then (match setC fs (o + 1 - m) k n y with | some r => some (.ws kd m xs :: r) | none => none) else none
def setG : List FCell -> (o : Nat) -> List FCell -> Option (List FCell)
 | fs, 0, new => match dropF fs (fsize new) with
  | some r => some (new ++ r)
  | none => none
 | [], _ + 1, _ => none
 | f :: fs, o + 1, new => if f.size <= o + 1 then (match setG fs (o + 1 - f.size) new with | some r => some (f :: r) | none => none) else none
inductive LCell where
 | one
 | ws (k : IntKind) (n : Nat)
def rep {α : Type} (xs : List α) : Nat -> List α
 | 0 => []
 | n + 1 => xs ++ rep xs n
def lay (P : Program) : Nat -> TypeId -> Option (List LCell)
 | 0, _ => none
 | d + 1, t => match P.underlying t with
  | some (.array n e) => match P.underlying e with
   | some (.int k) => (match n with | 0 => some [] | _ => some [.ws k n])
   | _ => match lay P d e with
    | some l => some (rep l n)
    | none => none
  | some (.struct fs) => fs.toList.foldr (fun f acc => match lay P d f.type, acc with
    | some l, some r => some (l ++ r)
    | _, _ => none) (some [])
  | some (.tuple _) | some .invalid | some (.named _ _) | none => none
  | some _ => some [.one]
def dty (P : Program) : Nat -> TypeId -> Option DTy
 | 0, _ => none
 | d + 1, t => match P.underlying t with
  | some (.int k) => some (.int k)
  | some .bool => some .bool
  | some .string => some .str
  | some (.array n e) => match P.underlying e with
   | some (.int k) => some (.ws k n)
   | _ => match dty P d e with
    | some l => some ((List.replicate n l).foldr .pair .unit)
    | none => none
  | some (.struct fs) => fs.toList.foldr (fun f acc => match dty P d f.type, acc with
    | some l, some r => some (.pair l r)
    | _, _ => none) (some .unit)
  | some (.slice e) => match dty P d e with
   | some l => some (.sl l)
   | none => none
  | _ => none
def dtyR (P : Program) : Nat -> TypeId -> Option DTy
 | 0, _ => none
 | d + 1, t => match P.underlying t with
  | some (.slice _) => some .ref
  | some (.struct fs) => fs.toList.foldr (fun f acc => match dtyR P d f.type, acc with
    | some l, some r => some (.pair l r)
    | _, _ => none) (some .unit)
  | _ => dty P (d + 1) t
def dtyQ (rf : Bool) (P : Program) (d : Nat) (t : TypeId) : Option DTy := match rf with | true => dtyR P d t | false => dty P d t
def DTy.rf : DTy -> Bool
 | .ref => true
 | .pair a b => a.rf || b.rf
 | .sl t => t.rf
 | _ => false
def absC (v : Value) : Cell :=
 match v with
 | .int k n => if k.min <= n /\ n <= k.max then .int true k n else .any
 | .bool b => .bool true b
 | .string s => .str s
 | .pointer a => (match a with | none => .nilp | some _ => .any)
 | .slice a l c => (match a with | none => (if l = 0 /\ c = 0 then .nils else .any) | some _ => .any)
 | .nilIface => .nilif
 | .nilFunc => .nilfn
 | .func f x y => (match f with | .func g => (if x.size = 0 /\ y.size = 0 then .fn g [] else .any) | _ => .any)
 | _ => .any
def absWs (k : IntKind) : List Value -> Option (List Int)
 | [] => some []
 | v :: vs => match v with
  | .int k' n => if k = k' /\ k.min <= n /\ n <= k.max then (match absWs k vs with | some r => some (n :: r) | none => none) else none
  | _ => none
def isSingle : Value -> Bool
 | .agg _ => false
 | .tuple _ => false
 | _ => true
def absF : List LCell -> List Value -> Option (List FCell)
 | [], [] => some []
 | .one :: ls, v :: vs => match isSingle v, absF ls vs with
  | true, some r => some (.c (absC v) :: r)
  | _, _ => none
 | .ws k n :: ls, vs => if n <= vs.length then match absWs k (vs.take n), absF ls (vs.drop n) with
  | some xs, some r => some (.ws k n xs :: r)
  | _, _ => none else none
 | _, _ => none
def fuel : Nat := 40
def isAggT (P : Program) (t : TypeId) : Option Bool :=
 match P.underlying t with
 | some (.struct _) | some (.array _ _) => some true
 | some _ => some false
 | none => none
def zeroF (P : Program) (t : TypeId) : Option (List FCell) :=
 match lay P fuel t with
 | none => none
 | some l => match P.info? t with
  | none => none
  | some i => match i.zero with
   | none => none
   | some v => absF l v.cells.toList
def V1.fs : V1 -> List FCell
 | .c x => [.c x]
 | .g fs => fs
def getT : List SV -> Nat -> SV
 | [], _ => .any
 | v :: _, 0 => v
 | _ :: vs, n + 1 => getT vs n
def setT : List SV -> Nat -> SV -> List SV
 | [], _, _ => []
 | _ :: vs, 0, u => u :: vs
 | v :: vs, n + 1, u => v :: setT vs n u
def getB : Heap -> Nat -> Blk
 | [], _ => .dead
 | b :: _, 0 => b
 | _ :: bs, n + 1 => getB bs n
def setB : Heap -> Nat -> Blk -> Heap
 | [], _, _ => []
 | _ :: bs, 0, u => u :: bs
 | b :: bs, n + 1, u => b :: setB bs n u
def St.put (s : St) (d : Option Tmp) (v : SV) : St :=
 match d with
 | some d => { s with t := setT s.t d v }
 | none => s
abbrev GlobT := Nat -> Option ((t : DTy) × t.den)
structure Tab where
 gl : GlobT
 n : FuncId -> Nat
 T : FuncId -> List V1 -> Heap -> Tree (SV × Heap)
 vm : Nat -> Bool := fun _ => false
 iv : Nat := 0
 vw : FuncId -> Bool := fun _ => false
 ow : FuncId -> Bool := fun _ => false
 rf : Nat -> Bool := fun _ => false
 vf : FuncId -> Bool := fun _ => false
abbrev Look := Nat -> Blk
abbrev Res := SV × List (Nat × Blk)
def absV (v : Value) : SV :=
 match v with
 | .agg _ | .tuple _ => .any
 | v => .one (.c (absC v))
def evalO (G : GlobT) (t : List SV) : Operand -> SV
 | .tmp u => getT t u
 | .const v => absV v
 | .global g => match G g with
  | some ⟨t, d⟩ => .one (.c (.rptr t d 0 0))
  | none => .any
 | .func f => .one (.c (.fn f []))
inductive NR where
 | n (v : Int)
 | b (v : Bool)
def binI (op : BinOp) (k : IntKind) (x y : Int) : Option NR :=
 match op with
 | .add => some (.n (k.wrap (x + y)))
 | .sub => some (.n (k.wrap (x - y)))
 | .mul => some (.n (k.wrap (x * y)))
 | .and => some (.n (k.wrap (BitVec.ofInt k.bits x &&& BitVec.ofInt k.bits y).toNat))
 | .or => some (.n (k.wrap (BitVec.ofInt k.bits x ||| BitVec.ofInt k.bits y).toNat))
 | .xor => some (.n (k.wrap (BitVec.ofInt k.bits x ^^^ BitVec.ofInt k.bits y).toNat))
 | .andNot => some (.n (k.wrap (BitVec.ofInt k.bits x &&& ~~~BitVec.ofInt k.bits y).toNat))
 | .eql => some (.b (x == y))
 | .neq => some (.b (x != y))
 | .lss => some (.b (decide (x < y)))
 | .leq => some (.b (decide (x <= y)))
 | .gtr => some (.b (decide (x > y)))
 | .geq => some (.b (decide (x >= y)))
 | _ => none
def shI (op : BinOp) (k : IntKind) (x y : Int) : Option Int :=
 match op with
 | .shl => some (k.wrap (x * 2 ^ (min y.toNat k.bits)))
 | .shr => some (x.fdiv (2 ^ (min y.toNat k.bits)))
 | _ => none
def divI (op : BinOp) (k : IntKind) (x y : Int) : Option Int :=
 match op with
 | .quo => some (k.wrap (x.tdiv y))
 | .rem => some (x.tmod y)
 | _ => none
def one (x : Cell) : SV := .one (.c x)
def eqF : List FCell -> List FCell -> Option (Bool × Bool)
 | [], [] => some (true, true)
 | .c (.int l k x) :: fs, .c (.int l' k' y) :: gs => if k = k' then (match eqF fs gs with
  | some (m, b) => some (l && l' && m, x == y && b)
  | none => none) else none
 | .c (.bool l x) :: fs, .c (.bool l' y) :: gs => (match eqF fs gs with
  | some (m, b) => some (l && l' && m, x == y && b)
  | none => none)
 | .c (.str x) :: fs, .c (.str y) :: gs => (match eqF fs gs with
  | some (_, b) => some (false, x == y && b)
  | none => none)
 | .ws k n xs :: fs, .ws k' n' ys :: gs => if k = k' /\ n = n' then (match eqF fs gs with
  | some (_, b) => some (false, xs == ys && b)
  | none => none) else none
 | _, _ => none
def oneFit (P : Program) (T : TypeId) : FCell -> Bool
 | .c (.int ..) => (match P.underlying T with | some (.int _) => true | _ => false)
 | .c (.bool ..) => (match P.underlying T with | some .bool => true | _ => false)
 | .c (.str _) => (match P.underlying T with | some .string => true | _ => false)
 | .ws _ n _ => (match P.underlying T with
  | some (.array m e) => (match P.underlying e with | some (.int _) => m == n && P.cellsOf e == 1 && P.cellsOf T == n | _ => false)
  | _ => false)
 | _ => false
def fitsS (P : Program) : List Field -> List FCell -> Nat -> Bool
 | [], [], _ => true
 | f :: fl, c :: fs, o => f.name != "_" && f.offset == o && oneFit P f.type c && fitsS P fl fs (o + c.size)
 | _, _, _ => false
def plainT (P : Program) (T : TypeId) (fs : List FCell) : Bool :=
 match P.underlying T with
 | some (.array _ _) => (match fs with | [.ws k n xs] => oneFit P T (.ws k n xs) && !P.eqGuardType P.depth T | _ => false)
 | some (.struct fields) => fitsS P fields.toList fs 0 && !P.stoodInHeld T && !P.eqGuardType P.depth T
 | _ => false
def retN (l : Bool) (k : IntKind) : NR -> Tree Res
 | .n v => .ret (one (.int l k v), [])
 | .b v => .ret (one (.bool l v), [])
def binT (P : Program) (op : BinOp) (T : TypeId) (a b : SV) : Tree Res :=
 match a, b with
 | .one (.c (.int l k x)), .one (.c (.int l' k' y)) =>
  match op with
  | .shl | .shr => Tree.chkl l' (decide (0 <= y)) (Tree.opt (shI op k x y) fun v => .ret (one (.int (l && l') k v), []))
  | .quo | .rem => if k = k' then Tree.chkl l' (decide (y ≠ 0)) (Tree.opt (divI op k x y) fun v => .ret (one (.int (l && l') k v), [])) else .fail
  | _ => if k = k' then Tree.opt (binI op k x y) (retN (l && l') k) else .fail
 | .one (.c (.bool l x)), .one (.c (.bool l' y)) =>
  match P.underlying T, op with
  | some .bool, .eql => .ret (one (.bool (l && l') (x == y)), [])
  | some .bool, .neq => .ret (one (.bool (l && l') (!(x == y))), [])
  | _, _ => .fail
 | .one (.c (.str x)), .one (.c (.str y)) =>
  match op with
  | .add => Tree.chk (decide (((x.size + y.size : Nat) : Int) <= IntKind.i64.max)) (.ret (one (.str (x ++ y)), []))
  | .eql => .ret (one (.bool false (x.toList == y.toList)), [])
  | .neq => .ret (one (.bool false (!(x.toList == y.toList))), [])
  | _ => .fail
 | .one (.g fs), .one (.g gs) =>
  if plainT P T fs then
   match op, eqF fs gs with
   | .eql, some (l, b) => .ret (one (.bool l b), [])
   | .neq, some (l, b) => .ret (one (.bool l (!b)), [])
   | _, _ => .fail
  else .fail
 | .one (.c (.ptr ..)), .one (.c .nilp) =>
  match P.underlying T, op with
  | some (.pointer _), .eql => .ret (one (.bool true false), [])
  | some (.pointer _), .neq => .ret (one (.bool true true), [])
  | _, _ => .fail
 | .one (.c .nilp), .one (.c .nilp) =>
  match P.underlying T, op with
  | some (.pointer _), .eql => .ret (one (.bool true true), [])
  | some (.pointer _), .neq => .ret (one (.bool true false), [])
  | _, _ => .fail
 | _, _ => .fail
def unT (op : UnOp) (a : SV) : Tree Res :=
 match op, a with
 | .neg, .one (.c (.int l k x)) => .ret (one (.int l k (k.wrap (0 - x))), [])
 | .xor, .one (.c (.int l k x)) => .ret (one (.int l k (k.wrap (BitVec.ofInt k.bits (if k.signed then -1 else k.max) ^^^ BitVec.ofInt k.bits x).toNat)), [])
 | .not, .one (.c (.bool l b)) => .ret (one (.bool l (!b)), [])
 | _, _ => .fail
def rowOf : Blk -> Nat -> Option (List FCell)
 | .vals fs, i => (match i with | 0 => some fs | _ + 1 => none)
 | .arr t xs _ _, i => some (toF t (xs.getD i t.dflt))
 | .frz t xs, i => some (toF t (xs.getD i t.dflt))
 | _, _ => none
def esOf : Blk -> Nat
 | .arr t _ _ _ => t.size
 | .frz t _ => t.size
 | _ => 0
def getGP (fs : List FCell) (o n : Nat) : Option (List FCell) :=
 match dropF fs o with
 | some (.ws kd m xs :: r) => if n < m then some [.ws kd n (xs.take n)] else takeF (.ws kd m xs :: r) n
 | some r => takeF r n
 | none => none
def seeC (x : Cell) : Tree Res :=
 match x with
 | .ref d => Tree.br (d.isOwn 0) (.ret (one (.sl 0 d.off d.len), [])) (Tree.br (d.isOwn 1) (.ret (one (.sl 1 d.off d.len), [])) (.ret (one (.ref d), [])))
 | x => .ret (one x, [])
def loadF (P : Program) (T : TypeId) (fs : List FCell) (o k n : Nat) : Tree Res :=
 match isAggT P T with
 | some false => Tree.opt (getC fs o k n) seeC
 | some true => match n, k with
  | 0, 0 => Tree.opt (getGP fs o (P.cellsOf T)) fun gs => .ret (.one (.g gs), [])
  | _, _ => .fail
 | none => .fail
def rowLoad0 (P : Program) (T : TypeId) (t : DTy) (xs : List t.den) (i : Nat) : Option (Tree Res) :=
 match t, xs, P.underlying T with
 | .int kd, xs, some (.array n e) => match P.underlying e with
  | some (.int kd') => if kd = kd' /\ P.cellsOf T = n then some (Tree.chk (decide (i + n <= xs.length)) (.ret (.one (.g [.ws kd n ((xs.drop i).take n)]), []))) else none
  | _ => none
 | _, _, _ => none
def rowLoad (P : Program) (T : TypeId) (t : DTy) (xs : List t.den) (i o k n : Nat) : Option (Tree Res) :=
 match n with
 | _ + 1 => none
 | 0 => match o, k with
  | 0, 0 => rowLoad0 P T t xs i
  | _, _ => none
def loadT (P : Program) (look : Look) (T : TypeId) (p : SV) : Tree Res :=
 match p with
 | .one (.c (.ptr b i es o k n)) =>
  match look b with
  | .arr t xs lo par => if es = t.size then (match rowLoad P T t xs i o k n with
   | some r => r
   | none => Tree.opt (rowOf (.arr t xs lo par) i) fun fs => loadF P T fs o k n) else .fail
  | .frz t xs => if es = t.size then (match rowLoad P T t xs i o k n with
   | some r => r
   | none => Tree.opt (rowOf (.frz t xs) i) fun fs => loadF P T fs o k n) else .fail
  | .vals fs => match i with
   | 0 => loadF P T fs o k n
   | _ + 1 => .fail
  | _ => .fail
 | .one (.c (.rptr t d o 0)) => loadF P T (toF t d) o 0 0
 | _ => .fail
def seen (b : Nat) (l : List Nat) : Bool := l.any (· == b)
def capRefs : List Cell -> List Nat
 | [] => []
 | .ptr b .. :: cs => b :: capRefs cs
 | .rptr t .. :: cs => (match t.rf with | true => [0] | false => []) ++ capRefs cs
 | _ :: cs => capRefs cs
def capOk : Cell -> Option Cell
 | .ptr b i es o k n => some (.ptr b i es o k n)
 | .vptr a => some (.vptr a)
 | .rptr t d o k => some (.rptr t d o k)
 | _ => none
def cellRefs : Cell -> List Nat
 | .ptr b .. => [b]
 | .sl b .. => [b]
 | .sla b .. => [b]
 | .ifc _ x => cellRefs x
 | .fn _ cs => capRefs cs
 | .ref _ => [0]
 | .ro t .. => (match t.rf with | true => [0] | false => [])
 | .rptr t .. => (match t.rf with | true => [0] | false => [])
 | .ifd _ t _ => (match t.rf with | true => [0] | false => [])
 | _ => []
def fRefs : List FCell -> List Nat
 | [] => []
 | .c x :: fs => cellRefs x ++ fRefs fs
 | .ws .. :: fs => fRefs fs
def wsAt : List FCell -> Nat -> Option (IntKind × Nat × List Int)
 | .ws kd m xs :: _, 0 => some (kd, m, xs)
 | f :: fs, o + 1 => if f.size <= o + 1 then wsAt fs (o + 1 - f.size) else none
 | _, _ => none
def frzSla (look : Look) (b o n off len : Nat) : Option FCell :=
 match look b with
 | .vals gs => match wsAt gs o with
  | some (kd, m, xs) => if m = n then some (.c (.ro (.int kd) (xs.drop off) len)) else none
  | none => none
 | _ => none
theorem frzSla_some {look : Look} {b o n off len : Nat} {g : FCell} (h : frzSla look b o n off len = some g) : ∃ gs kd xs, look b = .vals gs /\ wsAt gs o = some (kd, n, xs) /\ g = .c (.ro (.int kd) (xs.drop off) len) := by
 unfold frzSla at h;split at h
 ·rename_i gs hb;split at h
  ·rename_i kd m xs hw;split at h
   ·rename_i hm;subst hm;exact ⟨gs, kd, xs, hb, hw, (smI h).symm⟩
   ·cases h
  ·cases h
 ·cases h
def freezeF (look : Look) : List FCell -> Option (List FCell × List (Nat × Blk))
 | [] => some ([], [])
 | .c (.sl b off len) :: fs => match look b, freezeF look fs with
  | .arr t xs _ _, some (r, ws) => if ws.any (fun p => p.1 == b) then none else some (.c (.ro t (xs.drop off) len) :: r, ws ++ [(b, .frz t xs)])
  | _, _ => none
 | .c (.ptr ..) :: _ => none
 | .c (.sla b o n off len) :: fs => match frzSla look b o n off len, freezeF look fs with
  | some g, some (r, ws) => if ws.any (fun p => p.1 == b) then none else some (g :: r, ws ++ [(b, .gone)])
  | _, _ => none
 | f :: fs => match freezeF look fs with
  | some (r, ws) => some (f :: r, ws)
  | none => none
def storable : List FCell -> Bool
 | [] => true
 | .c (.fn ..) :: _ => false
 | _ :: fs => storable fs
def putElem (P : Program) (T : TypeId) (v : V1) (gs fs : List FCell) (o k n : Nat) : Option (List FCell) :=
 match v with
 | .c _ => match gs with
  | [.c x] => if P.cellsOf T = 1 then setC fs o k n x else none
  | _ => none
 | .g _ => match n, k with
  | 0, 0 => if fsize gs = P.cellsOf T /\ 0 < P.cellsOf T then setG fs o gs else none
  | _, _ => none
def storeT (P : Program) (look : Look) (T : TypeId) (p v : SV) : Tree Res :=
 match p, v with
 | .one (.c (.ptr b i es o k n)), .one v =>
  match look b with
  | .vals fs => match i with
   | 0 => Tree.opt (putElem P T v v.fs fs o k n) fun r => .ret (.any, [(b, .vals r)])
   | _ + 1 => .fail
  | .arr t xs lo par =>
   if es = t.size then
    match freezeF look v.fs with
    | none => .fail
    | some (gs, wr) => match putElem P T v gs (toF t (xs.getD i t.dflt)) o k n with
     | none => .fail
     | some fs' => match ofFall t fs' with
      | none => .fail
      | some d => match par with
       | [] => if wr.any (fun p => p.1 == b) then .fail else .ret (.any, wr ++ [(b, .arr t (xs.set i d) lo [])])
       | q :: par => match wr with
        | [] => Tree.br (decide (lo <= i)) (.ret (.any, [(b, .arr t (xs.set i d) lo (q :: par))]))
         (if seen b (q :: par) then .fail else .ret (.any, (q :: par).map (fun q => (q, Blk.gone)) ++ [(b, .arr t (xs.set i d) 0 [])]))
        | _ :: _ => .fail
   else .fail
  | _ => .fail
 | _, _ => .fail
def fieldOff (P : Program) (S : TypeId) (f : Nat) : Option (Nat × TypeId) :=
 match P.underlying S with
 | some (.struct fields) => match fields[f]? with
  | some fd => if P.cellsOf fd.type = 0 then none else some (fd.offset, fd.type)
  | none => none
 | _ => none
def fieldAddrT (P : Program) (S : TypeId) (p : SV) (f : Nat) : Tree Res :=
 match p, fieldOff P S f with
 | .one (.c (.ptr b i es o 0 0)), some (off, _) => .ret (one (.ptr b i es (o + off) 0 0), [])
 | .one (.c (.rptr t d o 0)), some (off, _) => .ret (one (.rptr t d (o + off) 0), [])
 | .one (.c (.vptr a)), some (off, _) => .ret (one (.vptr (a.add off)), [])
 | _, _ => .fail
def idx (l : Bool) (i : Int) (len : Nat) (r : Tree Res) : Tree Res := Tree.chkl l (decide (0 <= i /\ i < (len : Int))) r
def idxd (i : Int) (len : Nat) (r : Tree Res) : Tree Res := Tree.chk (decide (0 <= i /\ i < (len : Int))) r
def indexAddrT (P : Program) (T : TypeId) (x ix : SV) : Tree Res :=
 match ix with
 | .one (.c (.int l _ i)) =>
  match P.underlying T, x with
  | some (.array n e), .one (.c (.ptr b i0 es o 0 0)) =>
   (match P.underlying e with
   | some (.int _) => if P.cellsOf e = 1 then idx l i n (.ret (one (.ptr b i0 es o i.toNat n), [])) else .fail
   | _ => match l with
    | true => if 0 < P.cellsOf e then idx l i n (.ret (one (.ptr b i0 es (o + i.toNat * P.cellsOf e) 0 0), [])) else .fail
    | false => .fail)
  | some (.array n e), .one (.c (.rptr t d o 0)) =>
   (match P.underlying e with
   | some (.int _) => (match wsAt (toF t d) o with
    | some (kd, m, xs) => if P.cellsOf e = 1 /\ m = n then idx l i n (.ret (one (.rptr (.int kd) (xs.getD i.toNat 0 : Int) 0 0), [])) else .fail
    | none => .fail)
   | _ => match l with
    | true => if 0 < P.cellsOf e then idx l i n (.ret (one (.rptr t d (o + i.toNat * P.cellsOf e) 0), [])) else .fail
    | false => .fail)
  | some (.slice e), .one (.c (.sl b off len)) => if 0 < P.cellsOf e then idxd i len (.ret (one (.ptr b (off + i.toNat) (P.cellsOf e) 0 0 0), [])) else .fail
  | some (.slice e), .one (.c (.ro t xs len)) => if t.size = P.cellsOf e /\ 0 < t.size then idxd i len (.ret (one (.rptr t (xs.getD i.toNat t.dflt) 0 0), [])) else .fail
  | some (.slice e), .one (.c (.sla b o n off len)) => if P.cellsOf e = 1 then
    (match P.underlying e with
    | some (.int _) => idxd i len (.ret (one (.ptr b 0 0 o (off + i.toNat) n), []))
    | _ => idxd i len (.ret (one (.ptr b 0 0 (o + (off + i.toNat)) 0 0), []))) else .fail
  | some (.slice e), .one (.c (.ref (.raw (some a) len _))) => if 0 < P.cellsOf e then idxd i len (.ret (one (.vptr (a.add (i.toNat * P.cellsOf e))), [])) else .fail
  | _, _ => .fail
 | _ => .fail
def indexT (P : Program) (T : TypeId) (x ix : SV) : Tree Res := .fail
def fieldT (P : Program) (S : TypeId) (x : SV) (f : Nat) : Tree Res := .fail
def bnd (x : Option SV) (dflt : Nat) : Option Nat :=
 match x with
 | none => some dflt
 | some (.one (.c (.int _ _ i))) => some i.toNat
 | _ => none
def bndPos (x : Option SV) : Bool :=
 match x with
 | none => true
 | some (.one (.c (.int _ _ i))) => decide (0 <= i)
 | _ => false
def isVals : Blk -> Bool
 | .vals _ => true
 | _ => false
def sliceT (P : Program) (look : Look) (T : TypeId) (x : SV) (lo hi mx : Option SV) : Tree Res :=
 match mx with
 | some _ => .fail
 | none => match P.underlying T, x with
  | some .string, .one (.c (.str s)) => Tree.opt (bnd lo 0) fun l => Tree.opt (bnd hi s.size) fun h =>
    Tree.chk (bndPos lo && bndPos hi && decide (l <= h /\ h <= s.size)) (.ret (one (.str (s.extract l h)), []))
  | some (.slice e), .one (.c (.sl b off len)) => Tree.opt (bnd lo 0) fun l => Tree.opt (bnd hi len) fun h =>
    (match look b with
    | .arr t xs _ _ | .frz t xs => if t.size = P.cellsOf e then
      Tree.chk (bndPos lo && bndPos hi && decide (l <= h /\ off + h <= xs.length)) (.ret (one (.sl b (off + l) (h - l)), [])) else .fail
    | _ => .fail)
  | some (.slice e), .one (.c (.ro t xs len)) => Tree.opt (bnd lo 0) fun l => Tree.opt (bnd hi len) fun h =>
    if t.size = P.cellsOf e then Tree.chk (bndPos lo && bndPos hi && decide (l <= h /\ h <= xs.length)) (.ret (one (.ro t (xs.drop l) (h - l)), [])) else .fail
  | some (.slice e), .one (.c (.sla b o n off len)) => Tree.opt (bnd lo 0) fun l => Tree.opt (bnd hi len) fun h =>
    if P.cellsOf e = 1 then Tree.chk (bndPos lo && bndPos hi && decide (l <= h /\ h <= len)) (.ret (one (.sla b o n (off + l) (h - l)), [])) else .fail
  | some (.slice e), .one (.c .nils) => Tree.opt (bnd lo 0) fun l => Tree.opt (bnd hi 0) fun h => if P.cellsOf e = 0 then .fail else
    Tree.chk (bndPos lo && bndPos hi && decide (l <= h /\ h <= 0)) (.ret (one .nils, []))
  | some (.array n e), .one (.c (.ptr b 0 0 o 0 0)) => Tree.opt (bnd lo 0) fun l => Tree.opt (bnd hi n) fun h =>
    (match P.underlying e with
    | some (.int _) => if P.cellsOf e = 1 /\ n <= 16777216 /\ isVals (look b) = true then Tree.chk (bndPos lo && bndPos hi && decide (l <= h /\ h <= n)) (.ret (one (.sla b o n l (h - l)), [])) else .fail
    | _ => .fail)
  | some (.array n e), .one (.c (.rptr t d o 0)) => Tree.opt (bnd lo 0) fun l => Tree.opt (bnd hi n) fun h =>
    (match P.underlying e with
    | some (.int _) => (match wsAt (toF t d) o with
     | some (kd, m, xs) => if P.cellsOf e = 1 /\ n <= 16777216 /\ m = n then Tree.chk (bndPos lo && bndPos hi && decide (l <= h /\ h <= n)) (.ret (one (.ro (.int kd) (List.drop l xs) (h - l)), [])) else .fail
     | none => .fail)
    | _ => .fail)
  | _, _ => .fail
def elemsOf (look : Look) (t : DTy) (x : SV) : Option (List t.den) :=
 match x with
 | .one (.c .nils) => some []
 | .one (.c (.ro t' xs len)) => castL (u := t) (xs.take len)
 | .one (.c (.sl b off len)) => match look b with
  | .arr t' xs _ _ => castL (u := t) ((xs.drop off).take len)
  | .frz t' xs => castL (u := t) ((xs.drop off).take len)
  | _ => none
 | .one (.c (.sla b o n off len)) => match look b with
  | .vals fs => match wsAt fs o with
   | some (kd, m, xs) => if m = n then castL (t := .int kd) (u := t) ((xs.drop off).take len) else none
   | none => none
  | _ => none
 | .one (.c (.str s)) => castL (t := .int .u8) (u := t) (s.data.toList.map fun b => (b.toNat : Int))
 | _ => none
def room (n bytes : Nat) : Bool := decide (n * bytes <= 140737488355328)
def srcT (P : Program) (X : TypeId) : Bool :=
 match P.underlying X with
 | some (.slice _) => true
 | some .string => true
 | _ => false
def zeroOk (P : Program) (e : TypeId) (t : DTy) : Bool :=
 match P.info? e with
 | none => false
 | some i => match i.zero with
  | none => false
  | some z => z.cells.size == t.size
def zeroD (P : Program) (t : DTy) (e : TypeId) : Option t.den :=
 match zeroF P e with
 | some fs => ofFall t fs
 | none => none
def zerosT (P : Program) (nid : Nat) (e X : TypeId) (d x : SV) : Tree Res := .fail
def appendT (rf : Bool) (P : Program) (look : Look) (nid : Nat) (args : List SV) (types : List TypeId) : Tree Res :=
 match args, types with
 | [d, x], [T, X] =>
  match P.underlying T with
  | some (.slice e) => match srcT P X with
   | false => zerosT P nid e X d x
   | true => match dtyQ rf P fuel e with
    | none => .fail
    | some t => if t.size = P.cellsOf e /\ 0 < t.size /\ zeroOk P e t = true then
     match elemsOf look t x with
     | none => .fail
     | some new => match d with
      | .one (.c .nils) => Tree.chk (room new.length (P.bytesOf e) && room new.length 1) (.ret (one (.sl nid 0 new.length), [(nid, .arr t new 0 [])]))
      | .one (.c (.sl b 0 len)) => match look b with
       | .arr t' xs lo par => match castL (u := t) xs with
        | none => .fail
        | some ys => .br (decide (len = ys.length) && (room (len + new.length) (P.bytesOf e) && room (len + new.length) 1))
          (.ret (one (.sl nid 0 (len + new.length)), [(b, .frz t' xs), (nid, .arr t (ys ++ new) len (b :: par))]))
          (Tree.chk (decide (lo <= len) && (decide (len <= ys.length) && (room (len + new.length) (P.bytesOf e) && room (len + new.length) 1)))
           (.ret (one (.sl nid 0 (len + new.length)), [(b, .gone), (nid, .arr t (ys.take len ++ new) lo par)])))
       | _ => .fail
      | _ => .fail
     else .fail
  | _ => .fail
 | _, _ => .fail
def freezeQ (rf : Bool) (look : Look) (fs : List FCell) : Option (List FCell × List (Nat × Blk)) := match rf with | true => some (fs, []) | false => freezeF look fs
def partD (rf : Bool) (t : DTy) (look : Look) (v : SV) : Option (t.den × List (Nat × Blk)) :=
 match v with
 | .one v => match freezeQ rf look v.fs with
  | some (gs, wr) => match ofFall t gs with
   | some d => some (d, wr)
   | none => none
  | none => none
 | _ => none
def partsD (rf : Bool) (t : DTy) (look : Look) (z : t.den) : (n i : Nat) -> List (Nat × SV) -> Option (List t.den × List (Nat × Blk))
 | 0, _, [] => some ([], [])
 | 0, _, _ :: _ => none
 | n + 1, i, [] => match partsD rf t look z n (i + 1) [] with
  | some (r, ws) => some (z :: r, ws)
  | none => none
 | n + 1, i, (j, v) :: ps => if j = i then
   match partD rf t look v, partsD rf t look z n (i + 1) ps with
   | some (d, w), some (r, ws) => if w.any (fun p => ws.any (fun q => q.1 == p.1)) then none else some (d :: r, ws ++ w)
   | _, _ => none
  else match partsD rf t look z n (i + 1) ((j, v) :: ps) with
   | some (r, ws) => some (z :: r, ws)
   | none => none
def buildSliceT (rf : Bool) (P : Program) (look : Look) (nid : Nat) (T : TypeId) (len : Nat) (parts : List (Nat × SV)) : Tree Res :=
 match P.underlying T with
 | some (.slice e) => match dtyQ rf P fuel e with
  | none => .fail
  | some t => if t.size = P.cellsOf e /\ 0 < t.size /\ len * t.size <= 16777216 then
   match zeroD P t e with
   | none => .fail
   | some z => match partsD rf t look z len 0 parts with
    | none => .fail
    | some (xs, wr) => .ret (one (.sl nid 0 len), wr ++ [(nid, .arr t xs 0 [])])
   else .fail
 | _ => .fail
def putAll (place : Nat -> Option (Nat × Nat)) : List FCell -> List (Nat × SV) -> Option (List FCell)
 | fs, [] => some fs
 | fs, (i, v) :: ps => match place i with
  | none => none
  | some (off, size) => match v with
   | .one v => if fsize v.fs = size /\ 0 < size then (match setG fs off v.fs with | some fs' => putAll place fs' ps | none => none) else none
   | _ => none
def buildSliceV (P : Program) (nid : Nat) (T : TypeId) (len : Nat) (parts : List (Nat × SV)) : Tree Res :=
 match P.underlying T with
 | some (.slice e) => match zeroF P e with
  | none => .fail
  | some z => if fsize z = 1 /\ P.cellsOf e = 1 /\ 0 < len /\ len <= 16777216 then
   Tree.opt (putAll (fun i => some (i * 1, 1)) (rep z len) parts) fun fs => .ret (one (.sla nid 0 len 0 len), [(nid, .vals fs)])
   else .fail
 | _ => .fail
def makeSliceT (P : Program) (nid : Nat) (T : TypeId) (l c : SV) : Tree Res :=
 match l, c with
 | .one (.c (.int _ .i64 n)), .one (.c (.int _ .i64 m)) =>
  match P.underlying T with
  | some (.slice e) => match dty P fuel e with
   | none => .fail
   | some t => if t.size = P.cellsOf e /\ 0 < t.size then
    match zeroD P t e with
    | none => .fail
    | some z => Tree.chk (decide (0 <= n /\ n <= m /\ m <= 281474976710656 /\ (P.bytesOf e : Int) * m <= 281474976710656))
      (.ret (one (.sl nid 0 n.toNat), [(nid, .arr t (List.replicate m.toNat z) 0 [])]))
    else .fail
  | _ => .fail
 | _, _ => .fail
def copyT (P : Program) (look : Look) (args : List SV) (types : List TypeId) : Tree Res := .fail
def clearT (P : Program) (look : Look) (args : List SV) (types : List TypeId) : Tree Res := .fail
def convT (P : Program) (look : Look) (nid : Nat) (src dst : TypeId) (x : SV) : Tree Res :=
 match P.underlying src, P.underlying dst, x with
 | some (.int _), some (.int k), .one (.c (.int l _ n)) => .ret (one (.int l k (k.wrap n)), [])
 | _, _, _ => .fail
def lenT (P : Program) (args : List SV) (types : List TypeId) : Tree Res :=
 match args, types with
 | [x], T :: _ => match P.underlying T, x with
  | some .string, .one (.c (.str s)) => Tree.chk (decide (s.size < 9223372036854775808)) (.ret (one (.int false .i64 (s.size : Nat)), []))
  | some (.slice _), .one (.c .nils) => .ret (one (.int true .i64 0), [])
  | some (.slice _), .one (.c (.sl _ _ len)) => .ret (one (.int false .i64 (len : Nat)), [])
  | some (.slice _), .one (.c (.sla _ _ _ _ len)) => .ret (one (.int true .i64 (len : Nat)), [])
  | some (.slice _), .one (.c (.ro _ _ len)) => .ret (one (.int false .i64 (len : Nat)), [])
  | some (.array n _), .one _ => if n <= 16777216 then .ret (one (.int true .i64 (n : Nat)), []) else .fail
  | some (.pointer a), .one _ => match P.underlying a with
   | some (.array n _) => if n <= 16777216 then .ret (one (.int true .i64 (n : Nat)), []) else .fail
   | _ => .fail
  | _, _ => .fail
 | _, _ => .fail
def minT (args : List SV) : Tree Res :=
 match args with
 | [.one (.c (.int _ k x)), .one (.c (.int _ k' y))] => if k = k' then .ret (one (.int false k (if y < x then y else x)), []) else .fail
 | _ => .fail
def capT (P : Program) (args : List SV) (types : List TypeId) : Tree Res := .fail
def putWs (kd : IntKind) (m : Nat) : List Int -> List (Nat × SV) -> Option (List Int)
 | ys, [] => some ys
 | ys, (i, v) :: ps => match v with
  | .one (.c (.int _ kd' x)) => if kd = kd' /\ i < m then putWs kd m (ys.set i x) ps else none
  | _ => none
def placeF (P : Program) (fields : Array Field) (i : Nat) : Option (Nat × Nat) :=
 match fields[i]? with
 | some f => some (f.offset, P.cellsOf f.type)
 | none => none
def knownT (P : Program) (fields : Array Field) : Bool := fields.toList.all fun f => (P.info? f.type).isSome
def buildT (P : Program) (T : TypeId) (parts : List (Nat × SV)) : Tree Res :=
 match zeroF P T with
 | none => .fail
 | some z => match P.underlying T with
  | some (.struct fields) => if knownT P fields then
   Tree.opt (putAll (placeF P fields) z parts) fun fs => .ret (.one (.g fs), []) else .fail
  | some (.array _ e) =>
   if P.cellsOf e = 1 then
    match z with
    | [.ws kd m xs] => Tree.opt (putWs kd m xs parts) fun ys => .ret (.one (.g [.ws kd m ys]), [])
    | z => Tree.opt (putAll (fun i => some (i * P.cellsOf e, P.cellsOf e)) z parts) fun fs => .ret (.one (.g fs), [])
   else if P.cellsOf e = 0 then .fail
   else Tree.opt (putAll (fun i => some (i * P.cellsOf e, P.cellsOf e)) z parts) fun fs => .ret (.one (.g fs), [])
  | _ => .fail
def arrayAtT (P : Program) (look : Look) (T : TypeId) (x : SV) : Tree Res := .fail
def gather (look : Look) : Nat -> List FCell -> List Nat -> List Nat
 | 0, _, acc => acc
 | _, [], acc => acc
 | d + 1, .c (.ptr b ..) :: fs, acc => if seen b acc then gather look d fs acc else
   (match look b with
   | .vals gs => gather look d fs (gather look d gs (acc ++ [b]))
   | _ => gather look d fs (acc ++ [b]))
 | d + 1, .c (.sla b o ..) :: fs, acc => if seen b acc then gather look d fs acc else
   (match look b with
   | .vals gs => match wsAt gs o with
    | some _ => gather look d fs acc
    | none => gather look d fs (gather look d gs (acc ++ [b]))
   | _ => gather look d fs acc)
 | d + 1, .c (.ifc _ x) :: fs, acc => gather look d (.c x :: fs) acc
 | d + 1, .c (.fn _ cs) :: fs, acc => gather look d (cs.map .c ++ fs) acc
 | d + 1, _ :: fs, acc => gather look d fs acc
def gatherS (look : Look) : List Nat -> List Nat -> List Nat
 | [], acc => acc
 | b :: bs, acc => match look b with
  | .vals fs => gatherS look bs (fs.foldl (fun acc f => match f with
    | .c (.sl q ..) => if seen q acc then acc else acc ++ [q]
    | _ => acc) acc)
  | _ => gatherS look bs acc
def place (ids : List Nat) (b : Nat) : Option Nat := ids.findIdx? (· == b)
def passCap (ids : List Nat) : Cell -> Option Cell
 | .ptr b i es o k n => match place ids b with | some j => some (.ptr j i es o k n) | none => none
 | .vptr a => some (.vptr a)
 | .rptr t d o k => match t.rf with | true => none | false => some (.rptr t d o k)
 | _ => none
def passCaps (ids : List Nat) : List Cell -> Option (List Cell)
 | [] => some []
 | x :: xs => match passCap ids x, passCaps ids xs with
  | some y, some r => some (y :: r)
  | _, _ => none
def backCap (ren : Nat -> Nat) : Cell -> Option Cell
 | .ptr b i es o k n => some (.ptr (ren b) i es o k n)
 | .rptr t d o k => match t.rf with | true => none | false => some (.rptr t d o k)
 | x => some x
def backCaps (ren : Nat -> Nat) : List Cell -> Option (List Cell)
 | [] => some []
 | x :: xs => match backCap ren x, backCaps ren xs with
  | some y, some r => some (y :: r)
  | _, _ => none
def passC0 (look : Look) (ids : List Nat) : Cell -> Option Cell
 | .ptr b i es o k n => match place ids b with | some j => some (.ptr j i es o k n) | none => none
 | .sl b off len => match place ids b with
  | some j => some (.sl j off len)
  | none => match look b with
   | .arr t xs _ _ => (match t.rf with | true => none | false => some (.ro t (xs.drop off) len))
   | .frz t xs => (match t.rf with | true => none | false => some (.ro t (xs.drop off) len))
   | _ => none
 | .sla b o n off len => match place ids b with
  | some j => some (.sla j o n off len)
  | none => match look b with
   | .vals fs => match wsAt fs o with
    | some (kd, m, xs) => if m = n then some (.ro (.int kd) (xs.drop off) len) else none
    | none => none
   | _ => none
 | .ifc t (.ptr b i es o k n) => match place ids b with | some j => some (.ifc t (.ptr j i es o k n)) | none => none
 | .ifc t x => match cellRefs x with | [] => some (.ifc t x) | _ => none
 | .fn f cs => match passCaps ids cs with | some r => some (.fn f r) | none => none
 | .ro t xs len => match t.rf with | true => none | false => some (.ro t xs len)
 | .rptr t d o k => match t.rf with | true => none | false => some (.rptr t d o k)
 | .ifd T t d => match t.rf with | true => none | false => some (.ifd T t d)
 | .ref _ => none
 | x => some x
def viewC (look : Look) (ids : List Nat) (x : Cell) : Option (List Int × Nat) :=
 match passC0 look ids x with
 | some (.ro (.int .u8) xs len) => some (xs, len)
 | some .nils => some ([], 0)
 | _ => none
def viewL (look : Look) (ids : List Nat) : List FCell -> Option (List (List Int × Nat))
 | [] => some []
 | .c x :: fs => match viewC look ids x, viewL look ids fs with
  | some d, some r => some (d :: r)
  | _, _ => none
 | _ => none
def passC (look : Look) (ids : List Nat) (x : Cell) : Option Cell :=
 match x with
 | .sla b o n off len => match place ids b, look b with
  | none, .vals fs => match wsAt fs o with
   | some _ => passC0 look ids (.sla b o n off len)
   | none => if o = 0 /\ off = 0 /\ n = fs.length /\ len = fs.length then match viewL look ids fs with
     | some ds => some (.ro (.sl (.int .u8)) ds len)
     | none => none
    else none
  | _, _ => passC0 look ids (.sla b o n off len)
 | x => passC0 look ids x
def passF (look : Look) (ids : List Nat) : List FCell -> Option (List FCell)
 | [] => some []
 | .c x :: fs => match passC look ids x, passF look ids fs with
  | some y, some r => some (.c y :: r)
  | _, _ => none
 | f :: fs => match passF look ids fs with | some r => some (f :: r) | none => none
def passV (look : Look) (ids : List Nat) : SV -> Option V1
 | .one (.c x) => match passC look ids x with | some y => some (.c y) | none => none
 | .one (.g fs) => match passF look ids fs with | some r => some (.g r) | none => none
 | _ => none
def mapO {α β : Type} (f : α -> Option β) : List α -> Option (List β)
 | [] => some []
 | x :: xs => match f x, mapO f xs with
  | some y, some r => some (y :: r)
  | _, _ => none
def passPar (ids : List Nat) (par : List Nat) : List Nat := par.filterMap (place ids)
def passB (look : Look) (ids : List Nat) : Blk -> Option Blk
 | .vals fs => match passF look ids fs with | some r => some (.vals r) | none => none
 | .arr t xs _ [] => match t.rf with | true => none | false => some (.arr t xs 0 [])
 | _ => none
def backC (ren : Nat -> Nat) : Cell -> Cell
 | .ptr b i es o k n => .ptr (ren b) i es o k n
 | .sl b off len => .sl (ren b) off len
 | .sla b o n off len => .sla (ren b) o n off len
 | .ifc t x => .ifc t (backC ren x)
 | .fn f cs => match backCaps ren cs with | some r => .fn f r | none => .any
 | .ro t xs len => match t.rf with | true => .any | false => .ro t xs len
 | .rptr t d o k => match t.rf with | true => .any | false => .rptr t d o k
 | .ifd T t d => match t.rf with | true => .any | false => .ifd T t d
 | .ref _ => .any
 | x => x
def backF (ren : Nat -> Nat) : List FCell -> List FCell
 | [] => []
 | .c x :: fs => .c (backC ren x) :: backF ren fs
 | f :: fs => f :: backF ren fs
def backV (ren : Nat -> Nat) : V1 -> V1
 | .c x => .c (backC ren x)
 | .g fs => .g (backF ren fs)
def backS (ren : Nat -> Nat) : SV -> SV
 | .any => .any
 | .one v => .one (backV ren v)
 | .tup vs => .tup (vs.map (backV ren))
def backB (ren : Nat -> Nat) : Blk -> Blk
 | .vals fs => .vals (backF ren fs)
 | .arr t xs _ _ => match t.rf with | true => .gone | false => .arr t xs 0 []
 | .frz _ _ => .gone
 | b => b
def DTy.deep : DTy -> Bool
 | .sl _ => true
 | .pair a b => a.deep || b.deep
 | _ => false
def roC : Cell -> Bool
 | .ro .. => true
 | .rptr .. => true
 | .fn _ cs => cs.any fun c => match c with | .rptr .. => true | _ => false
 | .ifc _ x => roC x
 | .ifd _ t _ => t.deep
 | _ => false
def roF : List FCell -> Bool
 | [] => false
 | .c x :: fs => roC x || roF fs
 | .ws .. :: fs => roF fs
def roV (v : V1) : Bool := roF v.fs
def roS : SV -> Bool
 | .any => false
 | .one v => roV v
 | .tup vs => vs.any roV
def roB : Blk -> Bool
 | .vals fs => roF fs
 | .arr t .. => t.deep
 | .frz t _ => t.deep
 | _ => false
def shownC0 (ids : List Nat) : Cell -> List Nat
 | .sl b .. => if seen b ids then [] else [b]
 | .sla b .. => if seen b ids then [] else [b]
 | .ifc _ x => shownC0 ids x
 | _ => []
def shownN (ids : List Nat) : List FCell -> List Nat
 | [] => []
 | .c x :: fs => shownC0 ids x ++ shownN ids fs
 | .ws .. :: fs => shownN ids fs
def shownC (look : Look) (ids : List Nat) (x : Cell) : List Nat :=
 match x with
 | .sla b o n off len => shownC0 ids (.sla b o n off len) ++ (match place ids b, look b with
  | none, .vals fs => match wsAt fs o with
   | some _ => []
   | none => shownN ids fs
  | _, _ => [])
 | x => shownC0 ids x
def shownF (look : Look) (ids : List Nat) : List FCell -> List Nat
 | [] => []
 | .c x :: fs => shownC look ids x ++ shownF look ids fs
 | .ws .. :: fs => shownF look ids fs
def shownS (look : Look) (ids : List Nat) : SV -> List Nat
 | .one v => shownF look ids v.fs
 | _ => []
def sfs : SV -> List FCell
 | .one v => v.fs
 | _ => []
def freezeB (look : Look) (b : Nat) : Option (Nat × Blk) :=
 match look b with
 | .arr t xs _ _ => some (b, .frz t xs)
 | _ => none
def writes (ids : List Nat) (nid : Nat) (ren : Nat -> Nat) : Nat -> Heap -> List (Nat × Blk)
 | _, [] => []
 | i, b :: bs => ((match ids[i]? with | some j => j | none => nid + (i - ids.length)), backB ren b) :: writes ids nid ren (i + 1) bs
def nodupB : List Nat -> Bool
 | [] => true
 | x :: xs => !seen x xs && nodupB xs
def freezeAll (look : Look) : List Nat -> Option (List (Nat × Blk))
 | [] => some []
 | b :: bs => if seen b bs then freezeAll look bs else match freezeB look b, freezeAll look bs with
  | some p, some r => some (p :: r)
  | _, _ => none
def shownB (look : Look) (ids : List Nat) : Blk -> List Nat
 | .vals fs => shownF look ids fs
 | _ => []
def notSla : FCell -> Bool
 | .c (.sla ..) => false
 | _ => true
def ownSl (ids : List Nat) : List FCell -> List Nat
 | [] => []
 | .c (.sl b ..) :: fs => if seen b ids then ownSl ids fs else b :: ownSl (b :: ids) fs
 | _ :: fs => ownSl ids fs
def idsOf (S : Tab) (look : Look) (f : FuncId) (args : List SV) : List Nat :=
 let fs := match S.vw f with
  | true => (args.flatMap sfs).filter notSla
  | false => args.flatMap sfs
 let ids0 := gather look 64 fs []
 let ids := gatherS look ids0 ids0
 match S.ow f with
 | true => ids ++ ownSl ids (args.flatMap sfs)
 | false => ids
def renOf (ids : List Nat) (nid : Nat) (j : Nat) : Nat := match ids[j]? with | some b => b | none => nid + (j - ids.length)
def callT (S : Tab) (look : Look) (nid : Nat) (f : FuncId) (args : List SV) : Tree Res :=
 let ids := idsOf S look f args
 match mapO (passV look ids) args, mapO (fun b => passB look ids (look b)) ids with
 | some vs, some hl => (S.T f vs hl).bind fun p =>
  let ren := renOf ids nid
  let shown := args.flatMap (shownS look ids) ++ ids.flatMap (fun b => shownB look ids (look b))
  let wr := writes ids nid ren 0 p.2
  if p.2.length <= ids.length + S.n f /\ ids.length <= p.2.length /\ nodupB ids = true then
   match roS p.1 || p.2.any roB with
   | true =>
    match freezeAll look shown with
    | some fz => .ret (backS ren p.1, fz ++ wr)
    | none => .fail
   | false => .ret (backS ren p.1, wr)
  else .fail
 | _, _ => .fail
def methodF (P : Program) (T : TypeId) (name : String) : Option FuncId :=
 match P.info? T with
 | some i => match i.methods.find? (·.name == name) with
  | some m => (match m.path.isEmpty, m.func, P.underlying T with
   | true, some (f, true), some (.pointer _) => some f
   | true, some (_, true), _ => none
   | true, some (_, false), some (.pointer _) => none
   | true, some (f, false), some _ => some f
   | _, _, _ => none)
  | none => none
 | none => none
def invokeT (S : Tab) (P : Program) (look : Look) (nid : Nat) (T : TypeId) (m : String) (r : SV) (args : List SV) : Tree Res :=
 match methodF P T m with
 | some f => if S.n f <= S.iv /\ S.vf f = false then callT S look nid f (r :: args) else .fail
 | none => .fail
def litB (b : SV) (f : Bool -> Bool -> Tree Res) : Tree Res :=
 match b with
 | .one (.c (.bool l b)) => f l b
 | _ => .fail
def capsOf : List SV -> Option (List Cell)
 | [] => some []
 | x :: xs => match x with
  | .one (.c c) => match capOk c, capsOf xs with
   | some y, some r => some (y :: r)
   | _, _ => none
  | _ => none
def stepT (S : Tab) (P : Program) (look : Look) (nid : Nat) (ev : Operand -> SV) (o : Oper) : Tree Res :=
 match o.op with
 | .move x | .assign x => .ret (ev x, [])
 | .pick c a b => litB (ev c) fun l v => Tree.brl l v (.ret (ev a, [])) (.ret (ev b, []))
 | .alloc T => Tree.opt (zeroF P T) fun fs => .ret (one (.ptr nid 0 0 0 0 0), [(nid, .vals fs)])
 | .box _ x => match ev x with
  | .one v => .ret (one (.ptr nid 0 0 0 0 0), [(nid, .vals v.fs)])
  | _ => .fail
 | .build T parts => buildT P T (parts.toList.map fun p => (p.1, ev p.2))
 | .buildSlice T len parts => match S.vm (o.dst.getD 0) with
  | true => buildSliceV P nid T len (parts.toList.map fun p => (p.1, ev p.2))
  | false => buildSliceT (S.rf (o.dst.getD 0)) P look nid T len (parts.toList.map fun p => (p.1, ev p.2))
 | .load T p => loadT P look T (ev p)
 | .store T p v => storeT P look T (ev p) (ev v)
 | .nilCheck p => match ev p with
  | .one (.c (.ptr b i es o k n)) => .ret (one (.ptr b i es o k n), [])
  | .one (.c (.rptr t d o k)) => .ret (one (.rptr t d o k), [])
  | .one (.c (.vptr a)) => .ret (one (.vptr a), [])
  | _ => .fail
 | .binOp op T x y _ => binT P op T (ev x) (ev y)
 | .unOp op _ x => unT op (ev x)
 | .convert s d x => convT P look nid s d (ev x)
 | .sliceToArrayPointer T x => arrayAtT P look T (ev x)
 | .makeInterface T x => match ev x, P.underlying T with
  | .one (.c x), some d => (match d with | .interface _ => .fail | _ => .ret (one (.ifc T x), []))
  | .one (.g fs), some d => (match d with
   | .interface _ => .fail
   | _ => match dty P fuel T with
    | some t => Tree.opt (ofFall t fs) fun d => .ret (one (.ifd T t d), [])
    | none => .fail)
  | _, _ => .fail
 | .makeSlice T l c => makeSliceT P nid T (ev l) (ev c)
 | .slice T x lo hi mx => sliceT P look T (ev x) (lo.map ev) (hi.map ev) (mx.map ev)
 | .fieldAddr T x f => fieldAddrT P T (ev x) f
 | .field T x f => fieldT P T (ev x) f
 | .indexAddr T x i => indexAddrT P T (ev x) (ev i)
 | .index T x i => indexT P T (ev x) (ev i)
 | .extract x i => match ev x with
  | .tup vs => Tree.opt vs[i]? fun v => .ret (.one v, [])
  | _ => .fail
 | .makeFunc fn first captured => match fn with
  | .func f => (match first.toList with
   | [] => Tree.opt (capsOf (captured.toList.map ev)) fun cs => .ret (one (.fn f cs), [])
   | _ => .fail)
  | _ => .fail
 | .call c => match c.callee with
  | .builtin .len => lenT P (c.args.toList.map ev) c.argTypes.toList
  | .builtin .cap => capT P (c.args.toList.map ev) c.argTypes.toList
  | .builtin .min => minT (c.args.toList.map ev)
  | .builtin .copy => copyT P look (c.args.toList.map ev) c.argTypes.toList
  | .builtin .clear => clearT P look (c.args.toList.map ev) c.argTypes.toList
  | .builtin .append => appendT (S.rf (o.dst.getD 0)) P look nid (c.args.toList.map ev) c.argTypes.toList
  | .value (.func f) => callT S look nid f (c.args.toList.map ev)
  | .value (.tmp u) => (match ev (.tmp u) with
   | .one (.c (.fn f cs)) => if S.n f <= S.iv /\ S.vf f = false then callT S look nid f (c.args.toList.map ev ++ cs.map one) else .fail
   | _ => .fail)
  | .invoke r m => (match ev r with
   | .one (.c (.ifd T t d)) => invokeT S P look nid T m (.one (.g (toF t d))) (c.args.toList.map ev)
   | .one (.c (.ifc T x)) => invokeT S P look nid T m (one x) (c.args.toList.map ev)
   | _ => .fail)
  | _ => .fail
 | _ => .fail
end Go.SX
