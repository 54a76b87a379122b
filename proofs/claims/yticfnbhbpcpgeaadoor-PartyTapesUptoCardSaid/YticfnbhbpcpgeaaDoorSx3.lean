/-
  SX, part 3: regions, whole bodies.
-/
import Derived.Test.YticfnbhbpcpgeaaDoorSx2
namespace Go.SX

/-- how many new blocks an operation may make -/
def slots (S : Tab) (o : Oper) : Nat :=
  match o.op with
  | .alloc _ | .box .. | .buildSlice .. | .makeSlice .. | .convert .. => 1
  | .call c => match c.callee with
    | .builtin .append => 1
    | .value (.func f) => S.n f
    | .invoke _ _ => S.iv
    | _ => 0
  | _ => 0

/-- the blocks that an operation looks at -/
def refsS (v : SV) : List Nat := fRefs (sfs v)
/-- the blocks within literals that are only looked at -/
def viewRefs (look : Look) : List FCell → List Nat
  | [] => []
  | .c (.sla b ..) :: fs => (match look b with | .vals gs => fRefs gs | _ => []) ++ viewRefs look fs
  | _ :: fs => viewRefs look fs
def looks (look : Look) (ev : Operand → SV) (o : Oper) : List Nat :=
  match o.op with
  | .load _ p => refsS (ev p)
  | .store _ p v => refsS (ev p) ++ refsS (ev v)
  | .slice _ x _ _ _ => refsS (ev x)
  | .convert _ _ x => refsS (ev x)
  | .buildSlice _ _ parts => parts.toList.flatMap fun p => refsS (ev p.2)
  | .call c => match c.callee with
    | .builtin .len => []
    | .builtin _ => c.args.toList.flatMap fun x => refsS (ev x)
    | .invoke r _ =>
      let fs := sfs (ev r) ++ c.args.toList.flatMap fun x => sfs (ev x)
      let ids := gather look 64 fs []
      fRefs fs ++ gatherS look ids ids
    | _ =>
      let fs := c.args.toList.flatMap fun x => sfs (ev x)
      let ids := gather look 64 fs []
      fRefs fs ++ gatherS look ids ids ++ viewRefs look fs
  | _ => []

/-- what was seen of an operation -/
structure Rec where
  uses : List (Tmp × SV)
  rds : List Nat
  dst : Option Tmp
  v : SV
  wr : List (Nat × Blk)
  nid : Nat
  n : Nat

def usesOf (ops : Array Oper) (t : List SV) (o : Oper) : List (Tmp × SV) := (o.looksAt ops).map fun u => (u, getT t u)

def setBs (h : Heap) : List (Nat × Blk) → Heap
  | [] => h
  | (b, k) :: ws => setBs (setB h b k) ws

def Rec.apply (r : Rec) (s : St) : St := St.put { s with h := setBs s.h r.wr } r.dst r.v

/-- what is known of a Bool in a slot -/
abbrev Known := List (Tmp × Bool)
def knownOf (u : Tmp) : Known → Option Bool
  | [] => none
  | (x, b) :: ks => if x == u then some b else knownOf u ks

def litize (ks : Known) (u : Tmp) (v : SV) : SV :=
  match knownOf u ks with
  | some b => one (.bool true b)
  | none => v

def evalK (G : GlobT) (ks : Known) (t : List SV) : Operand → SV
  | .tmp u => litize ks u (getT t u)
  | x => evalO G t x

def killK : Option Tmp → Known → Known
  | none, ks => ks
  | some d, ks => ks.filter fun p => p.1 != d

def wrOk (n : Nat) (wr : List (Nat × Blk)) : Bool := wr.all fun p => Nat.blt p.1 n

def lookOf (h : Heap) (rds : List Nat) : Look := fun b => if seen b rds then getB h b else .dead

def skipRec (S : Tab) (ops : Array Oper) (o : Oper) (nid : Nat) (s : St) : Rec :=
  { uses := usesOf ops s.t o, rds := [], dst := o.dst, v := .any, wr := [], nid, n := slots S o }

def exec1 (S : Tab) (P : Program) (ops : Array Oper) (o : Oper) (nid : Nat) (ks : Known) (s : St) : Tree Rec :=
  let ev := evalK S.gl ks s.t
  let rds := looks (getB s.h) ev o
  (stepT S P (lookOf s.h rds) nid ev o).bind fun p =>
    match wrOk (nid + slots S o) p.2 with
    | true => .ret { uses := usesOf ops s.t o, rds, dst := o.dst, v := p.1, wr := p.2, nid, n := slots S o }
    | false => .fail

def runOne (S : Tab) (P : Program) (ops : Array Oper) (o : Oper) (nid : Nat) (ks : Known) (s : St) : Tree (Rec × Known) :=
  match o.guard with
  | none => (exec1 S P ops o nid ks s).bind fun r => .ret (r, killK o.dst ks)
  | some (j, want) =>
    match (ops[j]?).bind (·.dst) with
    | none => .fail
    | some u => match litize ks u (getT s.t u) with
      | .one (.c (.bool true b)) => (match b == want with
        | true => (exec1 S P ops o nid ks s).bind fun r => .ret (r, killK o.dst ks)
        | false => .ret (skipRec S ops o nid s, killK o.dst ks))
      | .one (.c (.bool false b)) => .br (b == want)
          ((exec1 S P ops o nid ((u, want) :: ks) s).bind fun r => .ret (r, killK o.dst ((u, want) :: ks)))
          (.ret (skipRec S ops o nid s, killK o.dst ((u, !want) :: ks)))
      | _ => .fail

/-- The operations one behind the other. 'nid': the next new block. What is seen is gathered, the last one first. -/
def runOps (S : Tab) (P : Program) (ops : Array Oper) : List Oper → (nid : Nat) → Known → St → List Rec → Tree (St × List Rec)
  | [], _, _, s, acc => .ret (s, acc)
  | o :: os, nid, ks, s, acc => (runOne S P ops o nid ks s).bind fun p => runOps S P ops os (nid + slots S o) p.2 (p.1.apply s) (p.1 :: acc)

def offSlots (wr : List (Nat × Blk)) (nid n : Nat) : Bool := wr.all fun p => Nat.blt p.1 nid || Nat.ble (nid + n) p.1

/-- May two operations, as they were seen, come in either order? -/
def Rec.apart (x y : Rec) : Bool :=
  (match x.dst with | some d => y.uses.all (fun p => p.1 != d) && y.dst != some d | none => true) &&
  (match y.dst with | some d => x.uses.all (fun p => p.1 != d) | none => true) &&
  x.wr.all (fun p => !seen p.1 y.rds && y.wr.all (fun q => q.1 != p.1)) &&
  y.wr.all (fun p => !seen p.1 x.rds) && offSlots x.wr y.nid y.n && offSlots y.wr x.nid x.n

/-- the edges that bind: all that stand before an operation, as a number's bits -/
def mask (acc : List Nat) : List Edge → Nat
  | [] => 0
  | e :: es => match Region.binds .any e with
    | true => (1 <<< e.on) ||| (acc.getD e.on 0 ||| mask acc es)
    | false => mask acc es
def masks : List Oper → List Nat → List Nat
  | [], acc => acc
  | o :: os, acc => masks os (acc ++ [mask acc o.after.toList])
/-- the text's order is one that the edges allow -/
def textOk : List Oper → Nat → Bool
  | [], _ => true
  | o :: os, n => o.after.toList.all (fun e => !Region.binds .any e || Nat.blt e.on n) && textOk os (n + 1)

def apartGo (m : Nat) (r : Rec) : Nat → List Rec → Bool
  | _, [] => true
  | i, q :: qs => (m.testBit i || q.apart r) && apartGo m r (i + 1) qs
/-- the records in the text's order -/
def apartAll : List Nat → Nat → List Rec → List Rec → Bool
  | m :: ms, j, done, r :: rs => apartGo m r 0 done && apartAll ms (j + 1) (done ++ [r]) rs
  | _, _, _, [] => true
  | [], _, _, _ :: _ => false

def sumSlots (S : Tab) : List Oper → Nat
  | [] => 0
  | o :: os => slots S o + sumSlots S os

def runRegion (S : Tab) (P : Program) (ops : Array Oper) (draw : Bool) (s : St) : Tree St :=
  let nid := s.h.length
  let s0 : St := { s with h := s.h ++ List.replicate (sumSlots S ops.toList) .dead }
  (runOps S P ops ops.toList nid [] s0 []).bind fun p =>
    match draw with
    | false => .ret p.1
    | true => match textOk ops.toList 0 && apartAll (masks ops.toList []) 0 [] p.2.reverse with
      | true => .ret p.1
      | false => .fail

/-- where a body's run stands still: at a loop's head, at its end -/
inductive Out where
  | stop (todo : List Item) (s : St)
  | fin (s : St)

def runK (S : Tab) (P : Program) (un : Code → Bool) : Nat → List Item → St → Tree Out
  | 0, k, s => .ret (.stop k s)
  | _ + 1, [], s => .ret (.fin s)
  | n + 1, .inBlock _ :: k, s => runK S P un n k s
  | n + 1, .inLoop c :: k, s => match un c with
    | true => runK S P un n (.code c :: .inLoop c :: k) s
    | false => .ret (.stop (.code c :: .inLoop c :: k) s)
  | n + 1, .code c :: k, s => match c with
    | .skip => runK S P un n k s
    | .label _ => runK S P un n k s
    | .seq a b => runK S P un n (.code a :: .code b :: k) s
    | .block id c => runK S P un n (.code c :: .inBlock id :: k) s
    | .loop c => match un c with
      | true => runK S P un n (.code c :: .inLoop c :: k) s
      | false => .ret (.stop (.code c :: .inLoop c :: k) s)
    | .exit id => match exitTo id k with
      | some k' => runK S P un n k' s
      | none => .fail
    | .cond c x y => match evalO S.gl s.t c with
      | .one (.c (.bool true b)) => (match b with | true => runK S P un n (.code x :: k) s | false => runK S P un n (.code y :: k) s)
      | .one (.c (.bool false b)) => .br b (runK S P un n (.code x :: k) s) (runK S P un n (.code y :: k) s)
      | _ => .fail
    | .region _ ops draw => (runRegion S P ops draw s).bind fun s' => runK S P un n k s'
    | .ret => .ret (.fin s)
    | _ => .fail
  | _ + 1, _ :: _, _ => .fail

/-- the results at the end -/
def resV (P : Program) (s : St) : ResultVar → Option V1
  | .tmp t => match getT s.t t with
    | .one v => some v
    | _ => none
  | .cell a T => match getT s.t a with
    | .one (.c (.ptr b 0 0 0 0 0)) => match getB s.h b with
      | .vals fs => match loadF P T fs 0 0 0 with
        | .ret (.one v, []) => some v
        | _ => none
      | _ => none
    | _ => none

def resS (P : Program) (fn : Func) (s : St) : Option SV :=
  match mapO (resV P s) fn.results.toList with
  | some [v] => some (.one v)
  | some vs => some (.tup vs)
  | none => none

/-- Renaming: the blocks 'ids' are kept, as blocks 0, 1, ..; nothing is known any more of what bears others. -/
def keepC (ids : List Nat) : Cell → Cell
  | .ptr b i es o k n => match place ids b with | some j => .ptr j i es o k n | none => .any
  | .sl b off len => match place ids b with | some j => .sl j off len | none => .any
  | .sla b o n off len => match place ids b with | some j => .sla j o n off len | none => .any
  | .ifc t x => match cellRefs x with | [] => .ifc t x | _ => .ifc t (keepC ids x)
  | .fn f cs => match cs with | [] => .fn f [] | _ => .any
  | .ro t xs len => match t.rf with | true => .any | false => .ro t xs len
  | .rptr t d o k => match t.rf with | true => .any | false => .rptr t d o k
  | .ifd T t d => match t.rf with | true => .any | false => .ifd T t d
  | .ref _ => .any
  | x => x
def keepF (ids : List Nat) : List FCell → List FCell
  | [] => []
  | .c x :: fs => .c (keepC ids x) :: keepF ids fs
  | f :: fs => f :: keepF ids fs
def keepV (ids : List Nat) : V1 → V1
  | .c x => .c (keepC ids x)
  | .g fs => .g (keepF ids fs)
def keepS (ids : List Nat) : SV → SV
  | .any => .any
  | .one v => .one (keepV ids v)
  | .tup vs => .tup (vs.map (keepV ids))
def keepB (ids : List Nat) : Blk → Blk
  | .vals fs => .vals (keepF ids fs)
  | .arr t xs lo par => match t.rf with
    | true => .gone
    | false => (match passPar ids par with
      | [] => .arr t xs 0 []
      | q :: qs => .arr t xs lo (q :: qs))
  | .frz t xs => match t.rf with | true => .gone | false => .frz t xs
  | b => b

/-- only the slots 'keep' and the blocks 'ids' are known any more -/
def keepT (keep ids : List Nat) : Nat → List SV → List SV
  | _, [] => []
  | i, v :: vs => (match seen i keep with | true => keepS ids v | false => .any) :: keepT keep ids (i + 1) vs
def St.cut (keep ids : List Nat) (s : St) : St :=
  { t := keepT keep ids 0 s.t, h := ids.map fun b => keepB ids (getB s.h b) }

/-- a result, and the blocks 'ids' -/
def finR (P : Program) (fn : Func) (ids : List Nat) (s : St) : Option (SV × Heap) :=
  match resS P fn s with
  | some v => some (keepS ids v, ids.map fun b => keepB ids (getB s.h b))
  | none => none

/-- the blocks that cells lead to, new ones last -/
def reach (h : Heap) : Nat → List FCell → List Nat → List Nat
  | 0, _, acc => acc
  | _, [], acc => acc
  | d + 1, .ws .. :: fs, acc => reach h d fs acc
  | d + 1, .c x :: fs, acc => reach h d fs ((cellRefs x).foldl (fun acc b => if seen b acc then acc else
      match getB h b with
      | .vals gs => reach h d gs (acc ++ [b])
      | _ => acc ++ [b]) acc)

def idsOk (m : Nat) (ids : List Nat) : Bool := nodupB ids && ids.take m == List.range m

def svFs : SV → List FCell
  | .any => []
  | .one v => v.fs
  | .tup vs => vs.flatMap V1.fs

/-- a body's end: the blocks handed over, and the new ones that are still to be reached -/
def finIds (m : Nat) (v : SV) (h : Heap) : List Nat :=
  reach h 400 (svFs v ++ (List.range m).flatMap fun b => match getB h b with | .vals fs => fs | _ => []) (List.range m)

def finT (P : Program) (fn : Func) (m : Nat) (s : St) : Tree (SV × Heap) :=
  match resS P fn s with
  | none => .fail
  | some v => match finIds m v s.h with
    | ids => match idsOk m ids with
      | true => (match finR P fn ids s with | some r => .ret r | none => .fail)
      | false => .fail

def slotsOf (n : Nat) (l : List (Nat × SV)) : List SV := (List.range n).map fun i => match l.find? (·.1 == i) with | some p => p.2 | none => .any

def Tree.map {α β : Type} (f : α → β) (t : Tree α) : Tree β := t.bind fun a => .ret (f a)
def Tree.mapO {α β : Type} (f : α → Option β) (t : Tree α) : Tree β := t.bind fun a => match f a with | some b => .ret b | none => .fail

/-- the frame that a call begins with -/
def enterT (fn : Func) (args : List V1) : List SV := args.map .one ++ List.replicate (fn.ntmps - args.length) .any

/-- a body without loops (or whose loops are gone through), as a table's entry -/
def bodyT (S : Tab) (P : Program) (un : Code → Bool) (fn : Func) (c : Code) (vs : List V1) (hl : Heap) : Tree (SV × Heap) :=
  (runK S P un 4000 [.code c] ⟨enterT fn vs, hl⟩).bind fun
    | .fin s => finT P fn hl.length s
    | .stop .. => .fail

def Tab.put (S : Tab) (f : FuncId) (k : Nat) (T : List V1 → Heap → Tree (SV × Heap)) : Tab :=
  { S with n := fun g => if g = f then k else S.n g, T := fun g => if g = f then T else S.T g }
/-- in these slots slices of slices are kept as cells -/
def Tab.own (S : Tab) (l : List Nat) : Tab := { S with vm := fun d => seen d l }
def Tab.empty (gl : GlobT) : Tab := { gl, n := fun _ => 0, T := fun _ _ _ => .fail }

def firstRegion : Code → Option Nat
  | .region id _ _ => some id
  | .seq a b => match firstRegion a with | some r => some r | none => firstRegion b
  | .block _ c => firstRegion c
  | .loop c => firstRegion c
  | .scope c => firstRegion c
  | .cond _ a b => match firstRegion a with | some r => some r | none => firstRegion b
  | _ => none
/-- loops that are gone through round by round: those whose body begins with one of these regions -/
def only (rs : List Nat) (c : Code) : Bool := match firstRegion c with | some r => seen r rs | none => false
def allLoops : Code → Bool := fun _ => true
def noLoops : Code → Bool := fun _ => false

end Go.SX
