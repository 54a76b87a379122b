/- SX, part 3: regions, whole bodies. -/
import Derived.Test.YtdblbibjggeikaaGreatDoorA1
import Derived.Below
set_option linter.unusedSectionVars false
set_option linter.unusedVariables false
set_option linter.unusedSimpArgs false
namespace Go.SX
def slots (S : Tab) (o : Oper) : Nat :=
 match o.op with
 | .alloc _ | .box .. | .buildSlice .. | .makeSlice .. | .convert .. => 1
 | .call c => match c.callee with
  | .builtin .append => 1
  | .value (.func f) => S.n f
  | .value (.tmp _) => S.iv
  | .invoke _ _ => S.iv
  | _ => 0
 | _ => 0
def refsS (v : SV) : List Nat := fRefs (sfs v)
def viewRefs (look : Look) : List FCell -> List Nat
 | [] => []
 | .c (.sla b ..) :: fs => (match look b with | .vals gs => fRefs gs | _ => []) ++ viewRefs look fs
 | _ :: fs => viewRefs look fs
def looks (look : Look) (ev : Operand -> SV) (o : Oper) : List Nat :=
 match o.op with
 | .load _ p => refsS (ev p)
 | .store _ p v => refsS (ev p) ++ refsS (ev v)
 | .slice _ x _ _ _ => refsS (ev x)
 | .convert _ _ x => refsS (ev x)
 | .buildSlice _ _ parts => parts.toList.flatMap fun p => refsS (ev p.2)
 | .call c => match c.callee with
  | .builtin .len => []
  | .builtin _ => c.args.toList.flatMap fun x => refsS (ev x)
  | .invoke r _ =>
   let fs := sfs (ev r) ++ c.args.toList.flatMap fun x => sfs (ev x)
   let ids := gather look 64 fs []
   fRefs fs ++ gatherS look ids ids
  | .value (.tmp u) =>
   let fs := (c.args.toList.flatMap fun x => sfs (ev x)) ++ sfs (ev (.tmp u))
   let ids := gather look 64 fs []
   fRefs fs ++ gatherS look ids ids ++ viewRefs look fs
  | _ =>
   let fs := c.args.toList.flatMap fun x => sfs (ev x)
   let ids := gather look 64 fs []
   fRefs fs ++ gatherS look ids ids ++ viewRefs look fs
 | _ => []
structure Rec where
 uses : List (Tmp × SV)
 rds : List Nat
 dst : Option Tmp
 v : SV
 wr : List (Nat × Blk)
 nid : Nat
 n : Nat
def usesOf (ops : Array Oper) (t : List SV) (o : Oper) : List (Tmp × SV) := (o.looksAt ops).map fun u => (u, getT t u)
def setBs (h : Heap) : List (Nat × Blk) -> Heap
 | [] => h
 | (b, k) :: ws => setBs (setB h b k) ws
def Rec.apply (r : Rec) (s : St) : St := St.put { s with h := setBs s.h r.wr } r.dst r.v
abbrev Known := List (Tmp × Bool)
def knownOf (u : Tmp) : Known -> Option Bool
 | [] => none
 | (x, b) :: ks => if x == u then some b else knownOf u ks
def litize (ks : Known) (u : Tmp) (v : SV) : SV :=
 match knownOf u ks with
 | some b => one (.bool true b)
 | none => v
def evalK (G : GlobT) (ks : Known) (t : List SV) : Operand -> SV
 | .tmp u => litize ks u (getT t u)
 | x => evalO G t x
def killK : Option Tmp -> Known -> Known
 | none, ks => ks
 | some d, ks => ks.filter fun p => p.1 != d
def wrOk (n : Nat) (wr : List (Nat × Blk)) : Bool := wr.all fun p => Nat.blt p.1 n
def lookOf (h : Heap) (rds : List Nat) : Look := fun b => if seen b rds then getB h b else .dead
def skipRec (S : Tab) (ops : Array Oper) (o : Oper) (nid : Nat) (s : St) : Rec :=
 { uses := usesOf ops s.t o, rds := [], dst := o.dst, v := .any, wr := [], nid, n := slots S o }
def exec1 (S : Tab) (P : Program) (ops : Array Oper) (o : Oper) (nid : Nat) (ks : Known) (s : St) : Tree Rec :=
 let ev := evalK S.gl ks s.t
 let rds := looks (getB s.h) ev o
 (stepT S P (lookOf s.h rds) nid ev o).bind fun p =>
  match wrOk (nid + slots S o) p.2 with
  | true => .ret { uses := usesOf ops s.t o, rds, dst := o.dst, v := p.1, wr := p.2, nid, n := slots S o }
  | false => .fail
def runOne (S : Tab) (P : Program) (ops : Array Oper) (o : Oper) (nid : Nat) (ks : Known) (s : St) : Tree (Rec × Known) :=
 match o.guard with
 | none => (exec1 S P ops o nid ks s).bind fun r => .ret (r, killK o.dst ks)
 | some (j, want) =>
  match (ops[j]?).bind (·.dst) with
  | none => .fail
  | some u => match litize ks u (getT s.t u) with
   | .one (.c (.bool true b)) => (match b == want with
    | true => (exec1 S P ops o nid ks s).bind fun r => .ret (r, killK o.dst ks)
    | false => .ret (skipRec S ops o nid s, killK o.dst ks))
   | .one (.c (.bool false b)) => .br (b == want)
     ((exec1 S P ops o nid ((u, want) :: ks) s).bind fun r => .ret (r, killK o.dst ((u, want) :: ks)))
     (.ret (skipRec S ops o nid s, killK o.dst ((u, !want) :: ks)))
   | _ => .fail
def runOps (S : Tab) (P : Program) (ops : Array Oper) : List Oper -> (nid : Nat) -> Known -> St -> List Rec -> Tree (St × List Rec)
 | [], _, _, s, acc => .ret (s, acc)
 | o :: os, nid, ks, s, acc => (runOne S P ops o nid ks s).bind fun p => runOps S P ops os (nid + slots S o) p.2 (p.1.apply s) (p.1 :: acc)
def offSlots (wr : List (Nat × Blk)) (nid n : Nat) : Bool := wr.all fun p => Nat.blt p.1 nid || Nat.ble (nid + n) p.1
def Rec.apart (x y : Rec) : Bool :=
 (match x.dst with | some d => y.uses.all (fun p => p.1 != d) && y.dst != some d | none => true) &&
 (match y.dst with | some d => x.uses.all (fun p => p.1 != d) | none => true) &&
 x.wr.all (fun p => !seen p.1 y.rds && y.wr.all (fun q => q.1 != p.1)) &&
 y.wr.all (fun p => !seen p.1 x.rds) && offSlots x.wr y.nid y.n && offSlots y.wr x.nid x.n
def mask (acc : List Nat) : List Edge -> Nat
 | [] => 0
 | e :: es => match Region.binds .any e with
  | true => (1 <<< e.on) ||| (acc.getD e.on 0 ||| mask acc es)
  | false => mask acc es
def masks : List Oper -> List Nat -> List Nat
 | [], acc => acc
 | o :: os, acc => masks os (acc ++ [mask acc o.after.toList])
def textOk : List Oper -> Nat -> Bool
 | [], _ => true
 | o :: os, n => o.after.toList.all (fun e => !Region.binds .any e || Nat.blt e.on n) && textOk os (n + 1)
def apartGo (m : Nat) (r : Rec) : Nat -> List Rec -> Bool
 | _, [] => true
 | i, q :: qs => (m.testBit i || q.apart r) && apartGo m r (i + 1) qs
def apartAll : List Nat -> Nat -> List Rec -> List Rec -> Bool
 | m :: ms, j, done, r :: rs => apartGo m r 0 done && apartAll ms (j + 1) (done ++ [r]) rs
 | _, _, _, [] => true
 | [], _, _, _ :: _ => false
def sumSlots (S : Tab) : List Oper -> Nat
 | [] => 0
 | o :: os => slots S o + sumSlots S os
def runRegion (S : Tab) (P : Program) (ops : Array Oper) (draw : Bool) (s : St) : Tree St :=
 let nid := s.h.length
 let s0 : St := { s with h := s.h ++ List.replicate (sumSlots S ops.toList) .dead }
 (runOps S P ops ops.toList nid [] s0 []).bind fun p =>
  match draw with
  | false => .ret p.1
  | true => match textOk ops.toList 0 && apartAll (masks ops.toList []) 0 [] p.2.reverse with
   | true => .ret p.1
   | false => .fail
inductive Out where
 | stop (todo : List Item) (s : St)
 | fin (s : St)
def runK (S : Tab) (P : Program) (un : Code -> Bool) : Nat -> List Item -> St -> Tree Out
 | 0, k, s => .ret (.stop k s)
 | _ + 1, [], s => .ret (.fin s)
 | n + 1, .inBlock _ :: k, s => runK S P un n k s
 | n + 1, .inLoop c :: k, s => match un c with
  | true => runK S P un n (.code c :: .inLoop c :: k) s
  | false => .ret (.stop (.code c :: .inLoop c :: k) s)
 | n + 1, .code c :: k, s => match c with
  | .skip => runK S P un n k s
  | .label _ => runK S P un n k s
  | .seq a b => runK S P un n (.code a :: .code b :: k) s
  | .block id c => runK S P un n (.code c :: .inBlock id :: k) s
  | .loop c => match un c with
   | true => runK S P un n (.code c :: .inLoop c :: k) s
   | false => .ret (.stop (.code c :: .inLoop c :: k) s)
  | .exit id => match exitTo id k with
   | some k' => runK S P un n k' s
   | none => .fail
  | .cond c x y => match evalO S.gl s.t c with
   | .one (.c (.bool true b)) => (match b with | true => runK S P un n (.code x :: k) s | false => runK S P un n (.code y :: k) s)
   | .one (.c (.bool false b)) => .br b (runK S P un n (.code x :: k) s) (runK S P un n (.code y :: k) s)
   | _ => .fail
  | .region _ ops draw => (runRegion S P ops draw s).bind fun s' => runK S P un n k s'
  | .ret => .ret (.fin s)
  | _ => .fail
 | _ + 1, _ :: _, _ => .fail
def resV (P : Program) (s : St) : ResultVar -> Option V1
 | .tmp t => match getT s.t t with
  | .one v => some v
  | _ => none
 | .cell a T => match getT s.t a with
  | .one (.c (.ptr b 0 0 0 0 0)) => match getB s.h b with
   | .vals fs => match loadF P T fs 0 0 0 with
    | .ret (.one v, []) => some v
    | _ => none
   | _ => none
  | _ => none
def resS (P : Program) (fn : Func) (s : St) : Option SV :=
 match mapO (resV P s) fn.results.toList with
 | some [v] => some (.one v)
 | some vs => some (.tup vs)
 | none => none
def keepC (ids : List Nat) : Cell -> Cell
 | .ptr b i es o k n => match place ids b with | some j => .ptr j i es o k n | none => .any
 | .sl b off len => match place ids b with | some j => .sl j off len | none => .any
 | .sla b o n off len => match place ids b with | some j => .sla j o n off len | none => .any
 | .ifc t x => match cellRefs x with | [] => .ifc t x | _ => .ifc t (keepC ids x)
 | .fn f cs => match passCaps ids cs with | some r => .fn f r | none => .any
 | .ro t xs len => match t.rf with | true => .any | false => .ro t xs len
 | .rptr t d o k => match t.rf with | true => .any | false => .rptr t d o k
 | .ifd T t d => match t.rf with | true => .any | false => .ifd T t d
 | .ref _ => .any
 | x => x
def keepF (ids : List Nat) : List FCell -> List FCell
 | [] => []
 | .c x :: fs => .c (keepC ids x) :: keepF ids fs
 | f :: fs => f :: keepF ids fs
def keepV (ids : List Nat) : V1 -> V1
 | .c x => .c (keepC ids x)
 | .g fs => .g (keepF ids fs)
def keepS (ids : List Nat) : SV -> SV
 | .any => .any
 | .one v => .one (keepV ids v)
 | .tup vs => .tup (vs.map (keepV ids))
def keepB (ids : List Nat) : Blk -> Blk
 | .vals fs => .vals (keepF ids fs)
 | .arr t xs lo par => match t.rf with
  | true => .gone
  | false => (match passPar ids par with
   | [] => .arr t xs 0 []
   | q :: qs => .arr t xs lo (q :: qs))
 | .frz t xs => match t.rf with | true => .gone | false => .frz t xs
 | b => b
def keepT (keep ids : List Nat) : Nat -> List SV -> List SV
 | _, [] => []
 | i, v :: vs => (match seen i keep with | true => keepS ids v | false => .any) :: keepT keep ids (i + 1) vs
def St.cut (keep ids : List Nat) (s : St) : St :=
 { t := keepT keep ids 0 s.t, h := ids.map fun b => keepB ids (getB s.h b) }
def finR (P : Program) (fn : Func) (ids : List Nat) (s : St) : Option (SV × Heap) :=
 match resS P fn s with
 | some v => some (keepS ids v, ids.map fun b => keepB ids (getB s.h b))
 | none => none
def reach (h : Heap) : Nat -> List FCell -> List Nat -> List Nat
 | 0, _, acc => acc
 | _, [], acc => acc
 | d + 1, .ws .. :: fs, acc => reach h d fs acc
 | d + 1, .c x :: fs, acc => reach h d fs ((cellRefs x).foldl (fun acc b => if seen b acc then acc else
   match getB h b with
   | .vals gs => reach h d gs (acc ++ [b])
   | _ => acc ++ [b]) acc)
def idsOk (m : Nat) (ids : List Nat) : Bool := nodupB ids && ids.take m == List.range m
def svFs : SV -> List FCell
 | .any => []
 | .one v => v.fs
 | .tup vs => vs.flatMap V1.fs
def finIds (m : Nat) (v : SV) (h : Heap) : List Nat :=
 reach h 400 (svFs v ++ (List.range m).flatMap fun b => match getB h b with | .vals fs => fs | _ => []) (List.range m)
def finT (P : Program) (fn : Func) (m : Nat) (s : St) : Tree (SV × Heap) :=
 match resS P fn s with
 | none => .fail
 | some v => match finIds m v s.h with
  | ids => match idsOk m ids with
   | true => (match finR P fn ids s with | some r => .ret r | none => .fail)
   | false => .fail
def slotsOf (n : Nat) (l : List (Nat × SV)) : List SV := (List.range n).map fun i => match l.find? (·.1 == i) with | some p => p.2 | none => .any
def enterT (fn : Func) (args : List V1) : List SV := args.map .one ++ List.replicate (fn.ntmps - args.length) .any
def bodyT (S : Tab) (P : Program) (un : Code -> Bool) (fn : Func) (c : Code) (vs : List V1) (hl : Heap) : Tree (SV × Heap) :=
 (runK S P un 4000 [.code c] ⟨enterT fn vs, hl⟩).bind fun
  | .fin s => finT P fn hl.length s
  | .stop .. => .fail
def Tab.put (S : Tab) (f : FuncId) (k : Nat) (T : List V1 -> Heap -> Tree (SV × Heap)) : Tab :=
 { S with n := fun g => if g = f then k else S.n g, T := fun g => if g = f then T else S.T g, vf := fun g => if g = f then false else S.vf g }
def Tab.putV (S : Tab) (f : FuncId) (T : List V1 -> Heap -> Tree (SV × Heap)) : Tab :=
 { S with n := fun g => if g = f then 0 else S.n g, T := fun g => if g = f then T else S.T g, vf := fun g => if g = f then true else S.vf g }
def Tab.own (S : Tab) (l : List Nat) : Tab := { S with vm := fun d => seen d l }
def Tab.empty (gl : GlobT) : Tab := { gl, n := fun _ => 0, T := fun _ _ _ => .fail }
def firstRegion : Code -> Option Nat
 | .region id _ _ => some id
 | .seq a b => match firstRegion a with | some r => some r | none => firstRegion b
 | .block _ c => firstRegion c
 | .loop c => firstRegion c
 | .scope c => firstRegion c
 | .cond _ a b => match firstRegion a with | some r => some r | none => firstRegion b
 | _ => none
def only (rs : List Nat) (c : Code) : Bool := match firstRegion c with | some r => seen r rs | none => false
def allLoops : Code -> Bool := fun _ => true
def noLoops : Code -> Bool := fun _ => false
end Go.SX
namespace Go.SX
open Go
structure Env where
 β : Nat -> Option Nat
 H : Heap
 w : World
 R : Nat -> Prop
def live : Blk -> Bool
 | .vals _ => true
 | .arr .. => true
 | _ => false
def InK (k : IntKind) (n : Int) : Prop := k.min <= n /\ n <= k.max
def single : Value -> Prop
 | .agg _ => False
 | .tuple _ => False
 | _ => True
def Rows (sz : Nat) {α : Type} (Q : α -> List Value -> Prop) (xs : List α) (at_ : Nat) (c : Array Value) : Prop :=
 ∀ i (h : i < xs.length), ∃ us, Q xs[i] us /\ us.length = sz /\ ∀ j, j < sz -> c[at_ + (i * sz + j)]? = us[j]?
def PtrAt (E : Env) (b i es o k n : Nat) (v : Value) : Prop :=
 (∃ kb, E.β b = some kb /\ v = .pointer (some ⟨kb, i * es + (o + k), none⟩)) /\ (n = 0 /\ k = 0 \/ k < n)
def RelPtr (E : Env) (b i es o k n : Nat) (v : Value) : Prop :=
 match getB E.H b with
 | .vals _ => PtrAt E b i es o k n v
 | .arr t xs _ _ => (∃ a, v = .pointer (some a)) /\ (es = t.size -> PtrAt E b i es o k n v) /\ i < xs.length
 | .frz t xs => (∃ a, v = .pointer (some a)) /\ (es = t.size -> PtrAt E b i es o k n v) /\ i < xs.length
 | .gone => ∃ a, v = .pointer (some a)
 | .dead => False
def SlAt (E : Env) (b sz off len : Nat) (n : Nat) (v : Value) : Prop :=
 ∃ a cap, v = .slice a len cap /\ len <= cap /\ cap < 9223372036854775808 /\ off + len <= n /\
  ((E.β b = none /\ cap = 0) \/ ∃ k c e fz, E.β b = some k /\ (cap = 0 \/ a = some ⟨k, off * sz, none⟩) /\ E.w.heap[k]? = some (.cells c e fz) /\ (off + cap) * sz = c.size)
def RelSl (E : Env) (b off len : Nat) (v : Value) : Prop :=
 match getB E.H b with
 | .arr t xs _ _ => SlAt E b t.size off len xs.length v
 | .frz t xs => SlAt E b t.size off len xs.length v
 | .gone => ∃ a cap, v = .slice a len cap /\ len <= cap /\ cap < 9223372036854775808 /\ (cap = 0 \/ ∃ q, a = some q)
 | _ => False
def RelRef (E : Env) : RefD -> Value -> Prop
 | .nil, v => v = .slice none 0 0
 | .own b off len, v => single v /\ RelSl E b off len v
 | .raw a len cap, v => v = .slice a len cap
def RoSl (E : Env) (sz : Nat) {α : Type} (Q : α -> List Value -> Prop) (xs : List α) (len : Nat) (v : Value) : Prop :=
 ∃ a cap, v = .slice a len cap /\ len <= xs.length /\ xs.length <= cap /\ cap < 9223372036854775808 /\ 0 < sz /\
  (xs ≠ [] -> ∃ k off c e fz, a = some ⟨k, off, none⟩ /\ E.R k /\ E.w.heap[k]? = some (.cells c e fz) /\ Rows sz Q xs off c)
def RoT (E : Env) : (t : DTy) -> t.den -> List Value -> Prop
 | .unit, _, vs => vs = []
 | .int k, d, vs => vs = [.int k d] /\ InK k d
 | .bool, d, vs => vs = [.bool d]
 | .str, d, vs => vs = [.string d]
 | .ws k n, d, vs => List.length (α := Int) d = n /\ (∀ x ∈ (show List Int from d), InK k x) /\ vs = List.map (Value.int k) d
 | .pair a b, d, vs => ∃ v1 v2, vs = v1 ++ v2 /\ RoT E a d.1 v1 /\ RoT E b d.2 v2
 | .sl t, d, vs => ∃ v, vs = [v] /\ RoSl E t.size (RoT E t) d.1 d.2 v
 | .ref, d, vs => ∃ v, vs = [v] /\ RelRef E d v
 | .vp, d, vs => vs = [.pointer (some d)]
def RelSla (E : Env) (b o n off len : Nat) (v : Value) : Prop :=
 match getB E.H b with
 | .vals _ => ∃ a cap, v = .slice a len cap /\ len <= cap /\ cap < 9223372036854775808 /\ off + cap = n /\ (cap = 0 \/ ∃ k, E.β b = some k /\ a = some ⟨k, o + off, none⟩)
 | .gone => ∃ a cap, v = .slice a len cap /\ len <= cap /\ cap < 9223372036854775808 /\ off + cap = n /\ (cap = 0 \/ ∃ q, a = some q)
 | _ => False
def RelRp (E : Env) (t : DTy) (d : t.den) (o k : Nat) (v : Value) : Prop :=
 ∃ kb off c e fz us, v = .pointer (some ⟨kb, off + (o + k), none⟩) /\ E.R kb /\ E.w.heap[kb]? = some (.cells c e fz) /\ RoT E t d us /\ us.length = t.size /\ ∀ j, j < t.size -> c[off + j]? = us[j]?
def RelCap (E : Env) : Cell -> Value -> Prop
 | .ptr b i es o k n, v => single v /\ RelPtr E b i es o k n v
 | .vptr a, v => v = .pointer (some a)
 | .rptr t d o k, v => RelRp E t d o k v
 | _, _ => False
def RelCaps (E : Env) : List Cell -> List Value -> Prop
 | [], us => us = []
 | x :: xs, us => ∃ u us', us = u :: us' /\ RelCap E x u /\ RelCaps E xs us'
def RelC (E : Env) : Cell -> Value -> Prop
 | .any, v => single v
 | .int _ k n, v => v = .int k n /\ InK k n
 | .bool _ b, v => v = .bool b
 | .str s, v => v = .string s
 | .nilp, v => v = .pointer none
 | .nils, v => v = .slice none 0 0
 | .nilif, v => v = .nilIface
 | .nilfn, v => v = .nilFunc
 | .ptr b i es o k n, v => single v /\ RelPtr E b i es o k n v
 | .rptr t d o k, v => RelRp E t d o k v
 | .sl b off len, v => single v /\ RelSl E b off len v
 | .sla b o n off len, v => single v /\ RelSla E b o n off len v
 | .ro t xs len, v => RoSl E t.size (RoT E t) xs len v
 | .ifc t x, v => ∃ u, v = .iface t u /\ RelC E x u
 | .ifd T t d, v => ∃ cs : Array Value, v = .iface T (.agg cs) /\ RoT E t d cs.toList
 | .fn f cs, v => ∃ us : Array Value, v = .func (.func f) #[] us /\ RelCaps E cs us.toList
 | .vptr a, v => v = .pointer (some a)
 | .ref d, v => RelRef E d v
def RelF (E : Env) : FCell -> List Value -> Prop
 | .c x, vs => ∃ v, vs = [v] /\ RelC E x v
 | .ws k n xs, vs => xs.length = n /\ (∀ x ∈ xs, InK k x) /\ vs = xs.map (Value.int k)
def RelFs (E : Env) : List FCell -> List Value -> Prop
 | [], vs => vs = []
 | f :: fs, vs => ∃ v1 v2, vs = v1 ++ v2 /\ RelF E f v1 /\ RelFs E fs v2
def RelV (E : Env) : V1 -> Value -> Prop
 | .c x, v => RelC E x v
 | .g fs, v => ∃ cs : Array Value, v = .agg cs /\ RelFs E fs cs.toList
def RelVs (E : Env) : List V1 -> List Value -> Prop
 | [], us => us = []
 | v :: vs, us => ∃ u us', us = u :: us' /\ RelV E v u /\ RelVs E vs us'
def RelS (E : Env) : SV -> Value -> Prop
 | .any, _ => True
 | .one v, u => RelV E v u
 | .tup vs, u => ∃ us : Array Value, u = .tuple us /\ RelVs E vs us.toList
def RelTs (E : Env) : List SV -> List Value -> Prop
 | [], us => us = []
 | v :: vs, us => ∃ u us', us = u :: us' /\ RelS E v u /\ RelTs E vs us'
def NoFz (fz : Nat × Nat) (n : Nat) : Prop := ∀ i, i < n -> ¬ (fz.1 <= i /\ i < fz.2)
def NoFzV (fz : Nat × Nat) (n : Nat) : Prop := NoFz fz n /\ fz = (0, 0)
def NoFzT (t : DTy) (fz : Nat × Nat) (n : Nat) : Prop := NoFz fz n /\ (t = .int .u8 \/ fz = (0, 0))
def RepB (E : Env) (b : Nat) : Blk -> Prop
 | .vals fs => ∃ k c e fz, E.β b = some k /\ E.w.heap[k]? = some (.cells c e fz) /\ NoFzV fz c.size /\ RelFs E fs c.toList
 | .arr t xs lo _ => lo <= xs.length /\ 0 < t.size /\
   ((E.β b = none /\ xs = []) \/ ∃ k c e fz, E.β b = some k /\ E.w.heap[k]? = some (.cells c e fz) /\ NoFzT t fz c.size /\ Rows t.size (RoT E t) xs 0 c)
 | .frz t xs => 0 < t.size /\ ((E.β b = none /\ xs = []) \/ ∃ k c e fz, E.β b = some k /\ E.w.heap[k]? = some (.cells c e fz) /\ Rows t.size (RoT E t) xs 0 c /\
   ∀ b', live (getB E.H b') = true -> E.β b' = some k -> ∃ xs' lo par, getB E.H b' = .arr t xs' lo par /\ b ∈ par /\ xs.length <= lo)
 | .gone => True
 | .dead => True
structure RepH (G : GlobT) (E : Env) : Prop where
 ro : ∀ k, E.R k -> k < E.w.heap.size /\ ∀ b, live (getB E.H b) = true -> E.β b ≠ some k
 inj : ∀ b b' k, live (getB E.H b) = true -> live (getB E.H b') = true -> E.β b = some k -> E.β b' = some k -> b = b'
 blk : ∀ b, RepB E b (getB E.H b)
 glob : ∀ g t d, G g = some ⟨t, d⟩ -> RelRp E t d 0 0 (.pointer (some ⟨g, 0, none⟩)) /\ t.rf = false
def BExt (E E' : Env) (b : Nat) : Blk -> Blk -> Prop
 | .dead, _ => True
 | _, .gone => True
 | .vals _, .vals _ => E'.β b = E.β b
 | .arr t xs _ _, .arr t' xs' _ _ => t = t' /\ xs.length <= xs'.length /\ E'.β b = E.β b
 | .arr t xs _ _, .frz t' xs' => t = t' /\ xs.length <= xs'.length /\ E'.β b = E.β b
 | .frz t xs, .frz t' xs' => t = t' /\ xs.length <= xs'.length /\ E'.β b = E.β b
 | _, _ => False
structure Ext (E E' : Env) : Prop where
 os : E'.w.os = E.w.os
 tape : E'.w.tape = E.w.tape
 output : E'.w.output = E.w.output
 size : E.w.heap.size <= E'.w.heap.size
 ro : ∀ k, E.R k -> E'.R k
 rnew : ∀ k, E'.R k -> E.R k \/ E.w.heap.size <= k \/ ∃ b, live (getB E.H b) = true /\ E.β b = some k
 keep : ∀ k, k < E.w.heap.size -> (∀ b, live (getB E.H b) = true -> E.β b ≠ some k) -> E'.w.heap[k]? = E.w.heap[k]?
 cells : ∀ (k : Nat) (c : Array Value) (e : TypeId) (fz : Nat × Nat), E.w.heap[k]? = some (Obj.cells c e fz) -> ∃ (c' : Array Value) (fz' : Nat × Nat), E'.w.heap[k]? = some (Obj.cells c' e fz') /\ c'.size = c.size
 blk : ∀ b, BExt E E' b (getB E.H b) (getB E'.H b)
 fresh : ∀ b k, live (getB E'.H b) = true -> E'.β b = some k -> (∃ b0, live (getB E.H b0) = true /\ E.β b0 = some k) \/ E.w.heap.size <= k
theorem Ext.refl (E : Env) : Ext E E where
 os := rfl
 tape := rfl
 output := rfl
 size := Nat.le_refl _
 ro := fun _ h => h
 rnew := fun _ h => .inl h
 keep := fun _ _ _ => rfl
 cells := fun k c e fz h => ⟨c, fz, h, rfl⟩
 blk := fun b => by cases getB E.H b <;> simp [BExt]
 fresh := fun b k h1 h2 => .inl ⟨b, h1, h2⟩
theorem BExt.trans {E E' E'' : Env} {b : Nat} {k k' k'' : Blk} (h : BExt E E' b k k') (h' : BExt E' E'' b k' k'') : BExt E E'' b k k'' := by
 cases k <;> cases k' <;> cases k'' <;> first | exact h.elim | exact h'.elim | exact trivial | exact Eq.trans (show E''.β b = E'.β b from h') h | exact ⟨h.1.trans h'.1, Nat.le_trans h.2.1 h'.2.1, h'.2.2.trans h.2.2⟩
theorem Ext.trans {E E' E'' : Env} (h : Ext E E') (h' : Ext E' E'') : Ext E E'' where
 os := h'.os.trans h.os
 tape := h'.tape.trans h.tape
 output := h'.output.trans h.output
 size := Nat.le_trans h.size h'.size
 ro := fun k hk => h'.ro k (h.ro k hk)
 rnew := fun k hk => by
  rcases h'.rnew k hk with h1 | h1 | ⟨b, hl, hb⟩
  ·exact h.rnew k h1
  ·exact .inr (.inl (Nat.le_trans h.size h1))
  ·rcases h.fresh b k hl hb with h2 | h2
   ·exact .inr (.inr h2)
   ·exact .inr (.inl h2)
 keep := fun k hk hno => by
  rw [h'.keep k (Nat.lt_of_lt_of_le hk h.size), h.keep k hk hno];intro b hl hb;rcases h.fresh b k hl hb with ⟨b0, h2, h3⟩ | h2
  ·exact hno b0 h2 h3
  ·omega
 cells := fun k c e fz hc => by
  obtain ⟨c', fz', h1, h2⟩ := h.cells k c e fz hc;obtain ⟨c'', fz'', h3, h4⟩ := h'.cells k c' e fz' h1;exact ⟨c'', fz'', h3, h4.trans h2⟩
 blk := fun b => (h.blk b).trans (h'.blk b)
 fresh := fun b k hl hb => by
  rcases h'.fresh b k hl hb with ⟨b0, h1, h2⟩ | h1
  ·exact h.fresh b0 k h1 h2
  ·exact .inr (Nat.le_trans h.size h1)
section mono
variable {G : GlobT} {E E' : Env} (hE : RepH G E) (x : Ext E E')
include hE x
theorem roHeap {k : Nat} (h : E.R k) : E'.w.heap[k]? = E.w.heap[k]? := x.keep k (hE.ro k h).1 (hE.ro k h).2
theorem RoSl.ext {sz : Nat} {α : Type} {Q Q' : α -> List Value -> Prop} {xs : List α} {len : Nat} {v : Value}
  (hq : ∀ a us, Q a us -> Q' a us) (h : RoSl E sz Q xs len v) : RoSl E' sz Q' xs len v := by
 obtain ⟨a, cap, h1, h2, h3, h4, h5, h6⟩ := h;refine ⟨a, cap, h1, h2, h3, h4, h5, fun hne => ?_⟩
 obtain ⟨k, off, c, e, fz, g1, g2, g3, g4⟩ := h6 hne;refine ⟨k, off, c, e, fz, g1, x.ro k g2, (roHeap hE x g2).trans g3, fun i hi => ?_⟩
 obtain ⟨us, q1, q2, q3⟩ := g4 i hi;exact ⟨us, hq _ _ q1, q2, q3⟩
omit hE in
theorem SlAt.ext {b sz off len n n' : Nat} {v : Value} (hn : n <= n') (hb : E'.β b = E.β b) (h : SlAt E b sz off len n v) : SlAt E' b sz off len n' v := by
 obtain ⟨a, cap, h1, h2, h3, h4, h5⟩ := h;refine ⟨a, cap, h1, h2, h3, by omega, ?_⟩
 rcases h5 with h5 | ⟨k, c, e, fz, g1, g2, g3, g4⟩
 ·exact .inl ⟨hb.trans h5.1, h5.2⟩
 ·obtain ⟨c', fz', q1, q2⟩ := x.cells k c e fz g3;exact .inr ⟨k, c', e, fz', hb.trans g1, g2, q1, g4.trans q2.symm⟩
omit hE x in
theorem SlAt.gone {b sz off len n : Nat} {v : Value} (h : SlAt E b sz off len n v) : ∃ a cap, v = .slice a len cap /\ len <= cap /\ cap < 9223372036854775808 /\ (cap = 0 \/ ∃ q, a = some q) := by
 obtain ⟨a, cap, h1, h2, h3, _, h5⟩ := h;refine ⟨a, cap, h1, h2, h3, ?_⟩
 rcases h5 with h5 | ⟨k, c, e, fz, _, h6, _⟩
 ·exact .inl h5.2
 ·exact h6.imp id (fun h6 => ⟨_, h6⟩)
omit hE in
theorem RelSl.ext {b off len : Nat} {v : Value} (h2 : RelSl E b off len v) : RelSl E' b off len v := by
 have hb := x.blk b
 unfold RelSl at *;cases h3 : getB E.H b <;> cases h4 : getB E'.H b <;> simp only [h3, h4, BExt] at hb h2 ⊢
 ·obtain ⟨rfl, h5, h6⟩ := hb;exact SlAt.ext x h5 h6 h2
 ·obtain ⟨rfl, h5, h6⟩ := hb;exact SlAt.ext x h5 h6 h2
 ·exact SlAt.gone h2
 ·obtain ⟨rfl, h5, h6⟩ := hb;exact SlAt.ext x h5 h6 h2
 ·exact SlAt.gone h2
 ·exact h2
omit hE in
theorem RelRef.ext {d : RefD} {v : Value} (h : RelRef E d v) : RelRef E' d v := by
 cases d with
 | nil => exact h
 | own b off len => exact ⟨h.1, RelSl.ext x h.2⟩
 | raw a len cap => exact h
theorem RoT.ext : ∀ (t : DTy) (d : t.den) (vs : List Value), RoT E t d vs -> RoT E' t d vs
 | .unit, _, _, h => h
 | .int _, _, _, h => h
 | .bool, _, _, h => h
 | .str, _, _, h => h
 | .ws _ _, _, _, h => h
 | .pair a b, d, vs, h => by
  obtain ⟨v1, v2, h1, h2, h3⟩ := h;exact ⟨v1, v2, h1, RoT.ext a _ _ h2, RoT.ext b _ _ h3⟩
 | .sl t, d, vs, h => by
  obtain ⟨v, h1, h2⟩ := h;exact ⟨v, h1, RoSl.ext hE x (fun a us => RoT.ext t a us) h2⟩
 | .ref, d, vs, h => by
  obtain ⟨v, h1, h2⟩ := h;exact ⟨v, h1, RelRef.ext x h2⟩
 | .vp, _, _, h => h
theorem RelRp.ext {t : DTy} {d : t.den} {o k : Nat} {v : Value} (h : RelRp E t d o k v) : RelRp E' t d o k v := by
 obtain ⟨kb, off, c, e, fz, us, h1, h2, h3, h4, h5, h6⟩ := h;exact ⟨kb, off, c, e, fz, us, h1, x.ro kb h2, (roHeap hE x h2).trans h3, RoT.ext hE x t d us h4, h5, h6⟩
omit hE in
theorem RelPtr.ext {b i es o k n : Nat} {v : Value} (h2 : RelPtr E b i es o k n v) : RelPtr E' b i es o k n v := by
  have hb := x.blk b
  unfold RelPtr PtrAt at *;cases h3 : getB E.H b <;> cases h4 : getB E'.H b <;> simp only [h3, h4, BExt] at hb h2 ⊢
  ·rw [hb]; exact h2
  ·obtain ⟨⟨kb, _, e⟩, _⟩ := h2; exact ⟨_, e⟩
  ·obtain ⟨rfl, h5, h6⟩ := hb; rw [h6]; exact ⟨h2.1, h2.2.1, by have := h2.2.2; omega⟩
  ·obtain ⟨rfl, h5, h6⟩ := hb; rw [h6]; exact ⟨h2.1, h2.2.1, by have := h2.2.2; omega⟩
  ·exact h2.1
  ·obtain ⟨rfl, h5, h6⟩ := hb; rw [h6]; exact ⟨h2.1, h2.2.1, by have := h2.2.2; omega⟩
  ·exact h2.1
  ·exact h2
theorem RelCap.ext {y : Cell} {v : Value} (h : RelCap E y v) : RelCap E' y v := by
 cases y <;> first | exact h.elim | exact h | exact ⟨h.1, RelPtr.ext x h.2⟩ | exact RelRp.ext hE x h
theorem RelCaps.ext : ∀ {ys : List Cell} {vs : List Value}, RelCaps E ys vs -> RelCaps E' ys vs
 | [], _, h => h
 | y :: ys, _, h => by
  obtain ⟨u, us, rfl, h1, h2⟩ := h;exact ⟨u, us, rfl, RelCap.ext hE x h1, RelCaps.ext h2⟩
theorem RelC.ext : ∀ (y : Cell) (v : Value), RelC E y v -> RelC E' y v
 | .any, _, h => h
 | .int .., _, h => h
 | .bool .., _, h => h
 | .str _, _, h => h
 | .nilp, _, h => h
 | .nils, _, h => h
 | .nilif, _, h => h
 | .nilfn, _, h => h
 | .fn .., _, h => by
  obtain ⟨us, h1, h2⟩ := h;exact ⟨us, h1, RelCaps.ext hE x h2⟩
 | .vptr _, _, h => h
 | .rptr t d o k, v, h => RelRp.ext hE x h
 | .ro t xs len, v, h => RoSl.ext hE x (fun a us => RoT.ext hE x t a us) h
 | .ifc t y, v, h => by
  obtain ⟨u, h1, h2⟩ := h;exact ⟨u, h1, RelC.ext y u h2⟩
 | .ifd T t d, v, h => by
  obtain ⟨cs, h1, h2⟩ := h;exact ⟨cs, h1, RoT.ext hE x t d _ h2⟩
 | .ptr b i es o k n, v, h => ⟨h.1, RelPtr.ext x h.2⟩
 | .sl b off len, v, h => ⟨h.1, RelSl.ext x h.2⟩
 | .ref d, v, h => RelRef.ext x h
 | .sla b o n off len, v, h => by
  obtain ⟨h1, h2⟩ := h;refine ⟨h1, ?_⟩
  have hb := x.blk b
  unfold RelSla at *;cases h3 : getB E.H b <;> cases h4 : getB E'.H b <;> simp only [h3, h4, BExt] at hb h2 ⊢
  ·rw [hb]; exact h2
  ·obtain ⟨a, cap, g1, g2, g3, g4, g5⟩ := h2;exact ⟨a, cap, g1, g2, g3, g4, g5.imp id (fun ⟨k, _, h6⟩ => ⟨_, h6⟩)⟩
  ·exact h2
theorem RelF.ext : ∀ (f : FCell) (vs : List Value), RelF E f vs -> RelF E' f vs
 | .c y, vs, h => by
  obtain ⟨v, h1, h2⟩ := h;exact ⟨v, h1, RelC.ext hE x y v h2⟩
 | .ws .., _, h => h
theorem RelFs.ext : ∀ (fs : List FCell) (vs : List Value), RelFs E fs vs -> RelFs E' fs vs
 | [], _, h => h
 | f :: fs, vs, h => by
  obtain ⟨v1, v2, h1, h2, h3⟩ := h;exact ⟨v1, v2, h1, RelF.ext hE x f v1 h2, RelFs.ext fs v2 h3⟩
theorem RelV.ext : ∀ (y : V1) (v : Value), RelV E y v -> RelV E' y v
 | .c y, v, h => RelC.ext hE x y v h
 | .g fs, v, h => by
  obtain ⟨cs, h1, h2⟩ := h;exact ⟨cs, h1, RelFs.ext hE x fs _ h2⟩
theorem RelVs.ext : ∀ (ys : List V1) (vs : List Value), RelVs E ys vs -> RelVs E' ys vs
 | [], _, h => h
 | y :: ys, vs, h => by
  obtain ⟨u, us, h1, h2, h3⟩ := h;exact ⟨u, us, h1, RelV.ext hE x y u h2, RelVs.ext ys us h3⟩
theorem RelS.ext : ∀ (y : SV) (v : Value), RelS E y v -> RelS E' y v
 | .any, _, h => h
 | .one y, v, h => RelV.ext hE x y v h
 | .tup ys, v, h => by
  obtain ⟨us, h1, h2⟩ := h;exact ⟨us, h1, RelVs.ext hE x ys _ h2⟩
theorem RelTs.ext : ∀ (ys : List SV) (vs : List Value), RelTs E ys vs -> RelTs E' ys vs
 | [], _, h => h
 | y :: ys, vs, h => by
  obtain ⟨u, us, h1, h2, h3⟩ := h;exact ⟨u, us, h1, RelS.ext hE x y u h2, RelTs.ext ys us h3⟩
end mono
end Go.SX
namespace Go.SX
open Go
variable {E : Env}
theorem RoT.len : ∀ {t : DTy} {d : t.den} {vs : List Value}, RoT E t d vs -> vs.length = t.size
 | .unit, _, _, h => by subst h; rfl
 | .int _, _, _, h => by rw [h.1]; rfl
 | .bool, _, _, h => by rw [h]; rfl
 | .str, _, _, h => by rw [h]; rfl
 | .ws k n, d, vs, h => by
  obtain ⟨h1, _, h3⟩ := h;rw [h3]; exact (List.length_map (as := (show List Int from d)) _).trans h1
 | .pair a b, d, vs, h => by
  obtain ⟨v1, v2, rfl, h2, h3⟩ := h;rw [List.length_append, RoT.len h2, RoT.len h3]; rfl
 | .sl t, d, vs, h => by obtain ⟨v, rfl, _⟩ := h; rfl
 | .ref, d, vs, h => by obtain ⟨v, h1, _⟩ := h; rw [h1]; rfl
 | .vp, d, vs, h => by
  have h : vs = [.pointer (some d)] := h
  rw [h]; rfl
theorem RelF.len {f : FCell} {vs : List Value} (h : RelF E f vs) : vs.length = f.size := by
 cases f with
 | c x => obtain ⟨v, rfl, _⟩ := h; rfl
 | ws k n xs => obtain ⟨h1, _, rfl⟩ := h; rw [List.length_map, h1]; rfl
theorem RelFs.len : ∀ {fs : List FCell} {vs : List Value}, RelFs E fs vs -> vs.length = fsize fs
 | [], vs, h => by subst h; rfl
 | f :: fs, vs, h => by
  obtain ⟨v1, v2, rfl, h2, h3⟩ := h;rw [List.length_append, RelF.len h2, RelFs.len h3]; rfl
theorem RelFs.append : ∀ {fs gs : List FCell} {v1 v2 : List Value}, RelFs E fs v1 -> RelFs E gs v2 -> RelFs E (fs ++ gs) (v1 ++ v2)
 | [], gs, v1, v2, h1, h2 => by subst h1; exact h2
 | f :: fs, gs, v1, v2, h1, h2 => by
  obtain ⟨u1, u2, rfl, h3, h4⟩ := h1;exact ⟨u1, u2 ++ v2, by rw [List.append_assoc], h3, RelFs.append h4 h2⟩
theorem RelFs.split : ∀ {fs gs : List FCell} {vs : List Value}, RelFs E (fs ++ gs) vs -> ∃ v1 v2, vs = v1 ++ v2 /\ RelFs E fs v1 /\ RelFs E gs v2
 | [], gs, vs, h => ⟨[], vs, rfl, rfl, h⟩
 | f :: fs, gs, vs, h => by
  obtain ⟨u1, u2, rfl, h3, h4⟩ := h;obtain ⟨v1, v2, rfl, h5, h6⟩ := RelFs.split h4;exact ⟨u1 ++ v1, v2, by rw [List.append_assoc], ⟨u1, v1, rfl, h3, h5⟩, h6⟩
theorem relFs_one {x : Cell} {v : Value} (h : RelC E x v) : RelFs E [.c x] [v] := ⟨[v], [], rfl, ⟨v, rfl, h⟩, rfl⟩
theorem relFs_one_inv {x : Cell} {vs : List Value} (h : RelFs E [.c x] vs) : ∃ v, vs = [v] /\ RelC E x v := by
 obtain ⟨v1, v2, rfl, ⟨v, rfl, h2⟩, rfl⟩ := h;exact ⟨v, rfl, h2⟩
theorem toF_rel : ∀ (t : DTy) (d : t.den) (vs : List Value), RoT E t d vs -> RelFs E (toF t d) vs
 | .unit, _, _, h => h
 | .int k, d, vs, h => by obtain ⟨rfl, h2⟩ := h; exact relFs_one (x := .int false k d) ⟨rfl, h2⟩
 | .bool, d, vs, h => by
  have h : vs = [.bool d] := h
  subst h; exact relFs_one (x := .bool false d) rfl
 | .str, d, vs, h => by
  have h : vs = [.string d] := h
  subst h; exact relFs_one (x := .str d) rfl
 | .ws k n, d, vs, h => ⟨vs, [], by simp, h, rfl⟩
 | .pair a b, d, vs, h => by
  obtain ⟨v1, v2, rfl, h2, h3⟩ := h;exact RelFs.append (toF_rel a _ _ h2) (toF_rel b _ _ h3)
 | .sl t, d, vs, h => by
  obtain ⟨v, rfl, h2⟩ := h;exact relFs_one (x := .ro t d.1 d.2) h2
 | .ref, d, vs, h => by
  obtain ⟨v, h1, h2⟩ := h;rw [h1];exact relFs_one (x := .ref d) h2
 | .vp, d, vs, h => by
  have h : vs = [.pointer (some d)] := h
  subst h; exact relFs_one (x := .vptr d) rfl
theorem toF_rel_inv : ∀ (t : DTy) (d : t.den) (vs : List Value), RelFs E (toF t d) vs -> RoT E t d vs
 | .unit, _, _, h => h
 | .int k, d, vs, h => by
  obtain ⟨v, rfl, h2⟩ := relFs_one_inv h;obtain ⟨rfl, h3⟩ := h2;exact ⟨rfl, h3⟩
 | .bool, d, vs, h => by
  obtain ⟨v, rfl, h2⟩ := relFs_one_inv h;have h2 : v = .bool d := h2
  subst h2; rfl
 | .str, d, vs, h => by
  obtain ⟨v, rfl, h2⟩ := relFs_one_inv h;have h2 : v = .string d := h2
  subst h2; rfl
 | .ws k n, d, vs, h => by
  obtain ⟨v1, v2, rfl, h2, rfl⟩ := h;rw [List.append_nil]; exact h2
 | .pair a b, d, vs, h => by
  obtain ⟨v1, v2, rfl, h2, h3⟩ := RelFs.split h;exact ⟨v1, v2, rfl, toF_rel_inv a _ _ h2, toF_rel_inv b _ _ h3⟩
 | .sl t, d, vs, h => by
  obtain ⟨v, rfl, h2⟩ := relFs_one_inv h;exact ⟨v, rfl, h2⟩
 | .ref, d, vs, h => by
  obtain ⟨v, h1, h2⟩ := relFs_one_inv h;exact ⟨v, h1, h2⟩
 | .vp, d, vs, h => by
  obtain ⟨v, h1, h2⟩ := relFs_one_inv h;have h2 : v = .pointer (some d) := h2
  rw [h1, h2]; rfl
theorem castL_eq {t u : DTy} {xs : List t.den} {ys : List u.den} (h : castL xs = some ys) : ∃ e : t = u, e ▸ xs = ys := by
 unfold castL at h;split at h
 ·rename_i e; exact ⟨e, smI h⟩
 ·cases h
theorem relFs_cons_c {x : Cell} {fs : List FCell} {vs : List Value} (h : RelFs E (.c x :: fs) vs) : ∃ v us, vs = v :: us /\ RelC E x v /\ RelFs E fs us := by
 obtain ⟨v1, v2, rfl, ⟨v, rfl, h2⟩, h3⟩ := h;exact ⟨v, v2, rfl, h2, h3⟩
theorem relFs_cons_ws {k : IntKind} {n : Nat} {xs : List Int} {fs : List FCell} {vs : List Value} (h : RelFs E (.ws k n xs :: fs) vs) :
  ∃ us, vs = xs.map (Value.int k) ++ us /\ xs.length = n /\ (∀ x ∈ xs, InK k x) /\ RelFs E fs us := by
 obtain ⟨v1, v2, rfl, ⟨h1, h2, rfl⟩, h3⟩ := h;exact ⟨v2, rfl, h1, h2, h3⟩
theorem ofF_rel : ∀ (t : DTy) {fs : List FCell} {d : t.den} {rest : List FCell} {vs : List Value}, ofF t fs = some (d, rest) -> RelFs E fs vs ->
  ∃ v1 v2, vs = v1 ++ v2 /\ RoT E t d v1 /\ RelFs E rest v2
 | .unit, fs, d, rest, vs, h, hr => by
  simp only [ofF, Option.some.injEq, Prod.mk.injEq] at h;obtain ⟨_, rfl⟩ := h;exact ⟨[], vs, rfl, rfl, hr⟩
 | .int k, fs, d, rest, vs, h, hr => by
  simp only [ofF] at h;split at h
  ·split at h
   ·rename_i hk; subst hk;obtain ⟨rfl, rfl⟩ := Prod.mk.inj (smI h);obtain ⟨v, us, rfl, ⟨rfl, h2⟩, h3⟩ := relFs_cons_c hr;exact ⟨[_], us, rfl, ⟨rfl, h2⟩, h3⟩
   ·cases h
  ·cases h
 | .bool, fs, d, rest, vs, h, hr => by
  simp only [ofF] at h;split at h
  ·obtain ⟨rfl, rfl⟩ := Prod.mk.inj (smI h);obtain ⟨v, us, rfl, h2, h3⟩ := relFs_cons_c hr;exact ⟨[v], us, rfl, by rw [show v = _ from h2]; rfl, h3⟩
  ·cases h
 | .str, fs, d, rest, vs, h, hr => by
  simp only [ofF] at h;split at h
  ·obtain ⟨rfl, rfl⟩ := Prod.mk.inj (smI h);obtain ⟨v, us, rfl, h2, h3⟩ := relFs_cons_c hr;exact ⟨[v], us, rfl, by rw [show v = _ from h2]; rfl, h3⟩
  ·cases h
 | .ws k n, fs, d, rest, vs, h, hr => by
  simp only [ofF] at h;split at h
  ·split at h
   ·rename_i hk; obtain ⟨rfl, rfl⟩ := hk;obtain ⟨rfl, rfl⟩ := Prod.mk.inj (smI h);obtain ⟨us, rfl, h2, h3, h4⟩ := relFs_cons_ws hr;exact ⟨_, us, rfl, ⟨h2, h3, rfl⟩, h4⟩
   ·cases h
  ·cases h
 | .pair a b, fs, d, rest, vs, h, hr => by
  simp only [ofF] at h;split at h
  ·rename_i x r h1;split at h
   ·rename_i y r' h2;obtain ⟨rfl, rfl⟩ := Prod.mk.inj (smI h);obtain ⟨v1, v2, rfl, g1, g2⟩ := ofF_rel a h1 hr;obtain ⟨v3, v4, rfl, g3, g4⟩ := ofF_rel b h2 g2;exact ⟨v1 ++ v3, v4, by rw [List.append_assoc], ⟨v1, v3, rfl, g1, g3⟩, g4⟩
   ·cases h
  ·cases h
 | .sl t, fs, d, rest, vs, h, hr => by
  simp only [ofF] at h;split at h
  ·split at h
   ·rename_i hz;obtain ⟨rfl, rfl⟩ := Prod.mk.inj (smI h);obtain ⟨v, us, rfl, h2, h3⟩ := relFs_cons_c hr;have h2 : v = .slice none 0 0 := h2
    subst h2;exact ⟨[_], us, rfl, ⟨_, rfl, none, 0, rfl, Nat.le_refl _, Nat.le_refl _, by decide, hz, fun h => absurd rfl h⟩, h3⟩
   ·cases h
  ·split at h
   ·rename_i xs len fs' ys hc;obtain ⟨rfl, rfl⟩ := Prod.mk.inj (smI h);obtain ⟨e, he⟩ := castL_eq hc;subst e;simp only at he
    subst he;obtain ⟨v, us, rfl, h2, h3⟩ := relFs_cons_c hr;exact ⟨[v], us, rfl, ⟨v, rfl, h2⟩, h3⟩
   ·cases h
  ·cases h
 | .ref, fs, d, rest, vs, h, hr => by
  simp only [ofF] at h;split at h
  all_goals first | (cases h; done) | skip
  all_goals
   obtain ⟨h1, h2⟩ := Prod.mk.inj (smI h);obtain ⟨v, us, hv, h2', h3⟩ := relFs_cons_c hr;subst h1 h2;exact ⟨[v], us, hv, ⟨v, rfl, h2'⟩, h3⟩
 | .vp, fs, d, rest, vs, h, hr => by
  simp only [ofF] at h;split at h
  ·obtain ⟨h1, h2⟩ := Prod.mk.inj (smI h);obtain ⟨v, us, hv, h2', h3⟩ := relFs_cons_c hr;subst h1 h2;have h2' : v = .pointer (some _) := h2'
   subst h2';exact ⟨_, us, hv, rfl, h3⟩
  ·cases h
theorem ofFall_rel {t : DTy} {fs : List FCell} {d : t.den} {vs : List Value} (h : ofFall t fs = some d) (hr : RelFs E fs vs) : RoT E t d vs := by
 unfold ofFall at h;split at h
 ·rename_i d' h1;obtain rfl := smI h;obtain ⟨v1, v2, rfl, h2, h3⟩ := ofF_rel t h1 hr;have h3 : v2 = [] := h3
  subst h3;rw [List.append_nil]; exact h2
 ·cases h
def KN (k n : Nat) : Prop := n = 0 /\ k = 0 \/ k < n
theorem getC_rel : ∀ {fs : List FCell} {o k n : Nat} {x : Cell} {vs : List Value}, getC fs o k n = some x -> KN k n -> RelFs E fs vs ->
  ∃ v, vs[o + k]? = some v /\ RelC E x v
 | [], _, _, _, _, _, h, _, _ => by simp [getC] at h
 | .c y :: fs, o, k, n, x, vs, h, hk, hr => by
  obtain ⟨v, us, rfl, h2, h3⟩ := relFs_cons_c hr;cases o with
  | zero =>
   cases n with
   | zero =>
    simp only [getC, Option.some.injEq] at h;subst h;rcases hk with ⟨_, rfl⟩ | hk
    ·exact ⟨v, rfl, h2⟩
    ·omega
   | succ n => simp [getC] at h
  | succ o =>
   obtain ⟨v', g1, g2⟩ := getC_rel (fs := fs) (o := o) h hk h3;exact ⟨v', by rw [show o + 1 + k = (o + k) + 1 from by omega, List.getElem?_cons_succ]; exact g1, g2⟩
 | .ws kd m xs :: fs, o, k, n, x, vs, h, hk, hr => by
  obtain ⟨us, rfl, h2, h3, h4⟩ := relFs_cons_ws hr;cases o with
  | zero =>
   simp only [getC] at h;split at h
   ·rename_i hm;obtain rfl := smI h;have hlt : k < xs.length := by rcases hk with ⟨hn, rfl⟩ | hk <;> omega
    have hd : xs.getD k 0 = xs[k] := by simp [List.getD, hlt]
    refine ⟨.int kd (xs.getD k 0), ?_, rfl, h3 _ (by rw [hd]; exact List.getElem_mem hlt)⟩
    rw [Nat.zero_add, List.getElem?_append_left (by simpa using hlt), List.getElem?_map, hd, List.getElem?_eq_getElem hlt]
    rfl
   ·cases h
  | succ o =>
   simp only [getC] at h;split at h
   ·rename_i hle;obtain ⟨v', g1, g2⟩ := getC_rel h hk h4;refine ⟨v', ?_, g2⟩
    rw [List.getElem?_append_right (by simp; omega), List.length_map, h2, show o + 1 + k - m = o + 1 - m + k from by omega]
    exact g1
   ·cases h
theorem takeF_rel : ∀ {fs : List FCell} {n : Nat} {r : List FCell} {vs : List Value}, takeF fs n = some r -> RelFs E fs vs -> RelFs E r (vs.take n) /\ n <= vs.length
 | fs, 0, r, vs, h, hr => by
  have h : some [] = some r := by cases fs <;> exact h
  obtain rfl := smI h;exact ⟨rfl, Nat.zero_le _⟩
 | [], n + 1, r, vs, h, hr => by simp [takeF] at h
 | f :: fs, n + 1, r, vs, h, hr => by
  obtain ⟨v1, v2, rfl, h2, h3⟩ := hr;have hl := RelF.len h2
  simp only [takeF] at h;split at h
  ·cases h
  ·rename_i s hs;split at h
   ·rename_i hle;split at h
    ·rename_i r' h4;obtain rfl := smI h;obtain ⟨g1, g2⟩ := takeF_rel h4 h3;refine ⟨⟨v1, v2.take (n - s), ?_, h2, g1⟩, ?_⟩
     ·rw [List.take_append, List.take_of_length_le (by omega), show n + 1 - v1.length = n - s from by omega]
     ·rw [List.length_append]; omega
    ·cases h
   ·cases h
theorem dropF_rel : ∀ {fs : List FCell} {n : Nat} {r : List FCell} {vs : List Value}, dropF fs n = some r -> RelFs E fs vs -> RelFs E r (vs.drop n) /\ n <= vs.length
 | fs, 0, r, vs, h, hr => by
  have h : some fs = some r := by cases fs <;> exact h
  obtain rfl := smI h;exact ⟨hr, Nat.zero_le _⟩
 | [], n + 1, r, vs, h, hr => by simp [dropF] at h
 | f :: fs, n + 1, r, vs, h, hr => by
  obtain ⟨v1, v2, rfl, h2, h3⟩ := hr;have hl := RelF.len h2
  simp only [dropF] at h;split at h
  ·obtain ⟨g1, g2⟩ := dropF_rel h h3;refine ⟨?_, by rw [List.length_append]; omega⟩
   rw [List.drop_append, List.drop_eq_nil_of_le (by omega), List.nil_append, hl]
   exact g1
  ·cases h
theorem setC_rel : ∀ {fs : List FCell} {o k n : Nat} {y : Cell} {r : List FCell} {vs : List Value} {v : Value}, setC fs o k n y = some r -> KN k n -> RelFs E fs vs -> RelC E y v ->
  RelFs E r (vs.set (o + k) v) /\ o + k < vs.length
 | [], _, _, _, _, _, _, _, h, _, _, _ => by simp [setC] at h
 | .c x :: fs, o, k, n, y, r, vs, v, h, hk, hr, hv => by
  obtain ⟨v0, us, rfl, h2, h3⟩ := relFs_cons_c hr;cases o with
  | zero =>
   cases n with
   | zero =>
    rcases hk with ⟨_, rfl⟩ | hk
    ·simp only [setC, Option.some.injEq] at h;subst h;exact ⟨⟨[v], us, rfl, ⟨v, rfl, hv⟩, h3⟩, by simp⟩
    ·omega
   | succ n => simp [setC] at h
  | succ o =>
   simp only [setC] at h;split at h
   ·rename_i r' h4;obtain rfl := smI h;obtain ⟨g1, g2⟩ := setC_rel h4 hk h3 hv;rw [show o + 1 + k = (o + k) + 1 from by omega]
    exact ⟨⟨[v0], us.set (o + k) v, rfl, ⟨v0, rfl, h2⟩, g1⟩, by simp; omega⟩
   ·cases h
 | .ws kd m xs :: fs, o, k, n, y, r, vs, v, h, hk, hr, hv => by
  obtain ⟨us, rfl, h2, h3, h4⟩ := relFs_cons_ws hr;cases o with
  | zero =>
   simp only [setC] at h;split at h
   ·split at h
    ·rename_i l kd' n' hm;obtain ⟨rfl, rfl, hn⟩ := hm;obtain rfl := smI h;obtain ⟨rfl, hv⟩ := hv;have hlt : k < xs.length := by rcases hk with ⟨hn, rfl⟩ | hk <;> omega
     rw [Nat.zero_add];refine ⟨⟨(xs.set k n').map (Value.int kd), us, ?_, ⟨by simpa using h2, ?_, rfl⟩, h4⟩, by simp; omega⟩
     ·rw [List.set_append_left _ _ (by simpa using hlt), List.map_set]
     ·intro x hx;rcases List.mem_or_eq_of_mem_set hx with h | h
      ·exact h3 x h
      ·subst h; exact hv
    ·cases h
   ·cases h
  | succ o =>
   simp only [setC] at h;split at h
   ·rename_i hle;split at h
    ·rename_i r' h5;obtain rfl := smI h;obtain ⟨g1, g2⟩ := setC_rel h5 hk h4 hv;refine ⟨⟨xs.map (Value.int kd), us.set (o + 1 - m + k) v, ?_, ⟨h2, h3, rfl⟩, g1⟩, by simp; omega⟩
     rw [List.set_append_right _ _ (by simp; omega), List.length_map, h2, show o + 1 + k - m = o + 1 - m + k from by omega]
    ·cases h
   ·cases h
theorem setG_rel : ∀ {fs : List FCell} {o : Nat} {new r : List FCell} {vs us : List Value}, setG fs o new = some r -> RelFs E fs vs -> RelFs E new us ->
  RelFs E r (vs.take o ++ us ++ vs.drop (o + us.length)) /\ o + us.length <= vs.length
 | fs, 0, new, r, vs, us, h, hr, hn => by
  have h : (match dropF fs (fsize new) with | some r => some (new ++ r) | none => none) = some r := by cases fs <;> exact h
  split at h
  ·rename_i r' h1;obtain rfl := smI h;obtain ⟨g1, g2⟩ := dropF_rel h1 hr;rw [<- RelFs.len hn] at g1 g2;refine ⟨?_, by omega⟩
   rw [List.take_zero, List.nil_append, Nat.zero_add];exact RelFs.append hn g1
  ·cases h
 | [], _ + 1, _, _, _, _, h, _, _ => by simp [setG] at h
 | f :: fs, o + 1, new, r, vs, us, h, hr, hn => by
  obtain ⟨v1, v2, rfl, h2, h3⟩ := hr;have hl := RelF.len h2
  simp only [setG] at h;split at h
  ·split at h
   ·rename_i hle r' h4;obtain rfl := smI h;obtain ⟨g1, g2⟩ := setG_rel h4 h3 hn;refine ⟨⟨v1, _, ?_, h2, g1⟩, by rw [List.length_append]; omega⟩
    rw [List.take_append, List.take_of_length_le (by omega), List.drop_append, List.drop_eq_nil_of_le (by omega), hl, List.nil_append,
     show o + 1 + us.length - f.size = o + 1 - f.size + us.length from by omega]
    simp only [List.append_assoc]
   ·cases h
  ·cases h
theorem wsAt_rel : ∀ {fs : List FCell} {o : Nat} {kd : IntKind} {m : Nat} {xs : List Int} {vs : List Value}, wsAt fs o = some (kd, m, xs) -> RelFs E fs vs ->
  xs.length = m /\ (∀ x ∈ xs, InK kd x) /\ (vs.drop o).take m = xs.map (Value.int kd) /\ o + m <= vs.length
 | [], _, _, _, _, _, h, _ => by simp [wsAt] at h
 | .c x :: fs, o, kd, m, xs, vs, h, hr => by
  obtain ⟨v0, us, rfl, h2, h3⟩ := relFs_cons_c hr;cases o with
  | zero => simp [wsAt] at h
  | succ o =>
   simp only [wsAt] at h;rw [if_pos (show (FCell.c x).size <= o + 1 from Nat.le_add_left 1 o)] at h
   change wsAt fs (o + 1 - 1) = _ at h
   obtain ⟨g1, g2, g3, g4⟩ := wsAt_rel h h3;exact ⟨g1, g2, by simpa using g3, by simp; omega⟩
 | .ws kd' m' ys :: fs, o, kd, m, xs, vs, h, hr => by
  obtain ⟨us, rfl, h2, h3, h4⟩ := relFs_cons_ws hr;cases o with
  | zero =>
   simp only [wsAt, Option.some.injEq, Prod.mk.injEq] at h;obtain ⟨rfl, rfl, rfl⟩ := h;exact ⟨h2, h3, by rw [List.drop_zero, List.take_append, List.take_of_length_le (by simp; omega)]; simp [h2], by simp; omega⟩
  | succ o =>
   simp only [wsAt] at h;by_cases hle : m' <= o + 1
   ·rw [if_pos (show (FCell.ws kd' m' ys).size <= o + 1 from hle)] at h
    change wsAt fs (o + 1 - m') = _ at h
    obtain ⟨g1, g2, g3, g4⟩ := wsAt_rel h h4;refine ⟨g1, g2, ?_, by simp; omega⟩
    rw [List.drop_append, List.drop_eq_nil_of_le (by simp; omega), List.nil_append, List.length_map, h2]
    exact g3
   ·rw [if_neg (show ¬ (FCell.ws kd' m' ys).size <= o + 1 from hle)] at h; cases h
end Go.SX
