/- SX, part 16q: operations that ask for cells alone. -/
import Derived.Test.YtdblbibjggeikaaGreatDoorA7
import Derived.Conc.Events
set_option linter.unusedSectionVars false
set_option linter.unusedVariables false
set_option linter.unusedSimpArgs false
namespace Go.SX
open Go
variable {P : Program}
theorem Obl.bind {α β : Type} {s : Sem α} {f : α -> Sem β} {v : World} (h : Obl P v s) (hf : ∀ a v', s.run P v = .ok a v' -> Obl P v' (f a)) : Obl P v (s >>= f) := by
 intro M w hv hfit es es' b v' he;have e0 : ∀ (u : World) (es : Array Event), (s >>= f).runT P u es = match s.runT P u es with
   | (.ok a w', es') => (f a).runT P w' es'
   | (.halt h w', es') => (.halt h w', es') := fun u es => Sem.runT_bind' P s f u es
 rw [e0] at he;split at he
 ·rename_i a v1 es1 h1;obtain ⟨w1, n1, q1, q2, q3, q4, q5⟩ := h M w hv hfit es es1 a v1 h1;have hr : s.run P v = .ok a v1 := by rw [<- Sem.runT_fst P s v es, h1]
  obtain ⟨w2, n2, r1, r2, r3, r4, r5⟩ := hf a v1 hr M w1 q2 (hfit.kept q3) es1 es' b v' he;refine ⟨w2, n1 ++ n2, ?_, r2, q3.trans r3, by rw [r4, q4, Array.append_assoc], fun e hm => ?_⟩
  ·rw [e0, q1]; exact r1
  ·rcases Array.mem_append.1 hm with hm | hm
   ·exact (q5 e hm).mono r3.size
   ·exact r5 e hm
 ·cases he
theorem Dead.bind_l {α β : Type} : ∀ {s : Sem α} {f : α -> Sem β}, Dead P s -> Dead P (s.bind f)
 | .pure _, _, h => h.elim
 | .load m a k, f, h => fun v => (h v).bind_l
 | .store m a v k, f, h => Dead.bind_l (s := k) h
 | .new o k, f, h => fun r => (h r).bind_l
 | .shape r k, f, h => fun s => (h s).bind_l
 | .freeze a n k, f, h => Dead.bind_l (s := k) h
 | .frozen a k, f, h => fun b => (h b).bind_l
 | .getObj r k, f, h => fun o => (h o).bind_l
 | .setObj r o k, f, h => Dead.bind_l (s := k) h
 | .choose q k, f, h => fun n => (h n).bind_l
 | .sys c k, f, h => fun r => (h r).bind_l
 | .program k, f, h => Dead.bind_l (s := k P) h
 | .mark m k, f, h => Dead.bind_l (s := k) h
 | .halt h, f, _ => trivial
theorem Dead.bind_r {α β : Type} : ∀ {s : Sem α} {f : α -> Sem β}, (∀ a, Dead P (f a)) -> Dead P (s.bind f)
 | .pure a, _, h => h a
 | .load m a k, f, h => fun v => (Dead.bind_r h)
 | .store m a v k, f, h => Dead.bind_r (s := k) h
 | .new o k, f, h => fun r => (Dead.bind_r h)
 | .shape r k, f, h => fun s => (Dead.bind_r h)
 | .freeze a n k, f, h => Dead.bind_r (s := k) h
 | .frozen a k, f, h => fun b => (Dead.bind_r h)
 | .getObj r k, f, h => fun o => (Dead.bind_r h)
 | .setObj r o k, f, h => Dead.bind_r (s := k) h
 | .choose q k, f, h => fun n => (Dead.bind_r h)
 | .sys c k, f, h => fun r => (Dead.bind_r h)
 | .program k, f, h => Dead.bind_r (s := k P) h
 | .mark m k, f, h => Dead.bind_r (s := k) h
 | .halt h, f, _ => trivial
theorem Blind.bind' {α β : Type} : ∀ {s : Sem α} {f : α -> Sem β}, Blind P s -> (∀ a, Blind P (f a)) -> Blind P (s.bind f)
 | .pure a, _, _, hf => hf a
 | .load m a k, f, h, hf => fun v => (h v).bind' hf
 | .store m a v k, f, h, hf => Blind.bind' (s := k) h hf
 | .new o k, f, h, hf => h.imp (fun h => ⟨h.1, fun r => (h.2 r).bind' hf⟩) (fun h r => (h r).bind_l)
 | .shape r k, f, h, _ => fun s => (h s).bind_l
 | .freeze a n k, f, h, _ => Dead.bind_l (s := k) h
 | .frozen a k, f, h, _ => fun b => (h b).bind_l
 | .getObj r k, f, h, _ => fun o => (h o).bind_l
 | .setObj r o k, f, h, _ => Dead.bind_l (s := k) h
 | .choose q k, f, h, hf => fun n => (h n).bind' hf
 | .sys c k, f, h, _ => fun r => (h r).bind_l
 | .program k, f, h, hf => Blind.bind' (s := k P) h hf
 | .mark m k, f, h, hf => h.imp (fun ⟨h1, h2⟩ => ⟨h1, Blind.bind' (s := k) h2 hf⟩) (fun h => Dead.bind_l (s := k) h)
 | .halt h, f, _, _ => trivial
theorem Blind.bind {α β : Type} {s : Sem α} {f : α -> Sem β} (h : Blind P s) (hf : ∀ a, Blind P (f a)) : Blind P (s >>= f) := h.bind' hf
theorem Dead.blind {α : Type} : ∀ {s : Sem α}, Dead P s -> Blind P s
 | .pure _, h => h.elim
 | .load m a k, h => fun v => (h v).blind
 | .store m a v k, h => Dead.blind (s := k) h
 | .new o k, h => .inr h
 | .shape r k, h => h
 | .freeze a n k, h => h
 | .frozen a k, h => h
 | .getObj r k, h => h
 | .setObj r o k, h => h
 | .choose q k, h => fun n => (h n).blind
 | .sys c k, h => h
 | .program k, h => Dead.blind (s := k P) h
 | .mark m k, h => .inr h
 | .halt h, _ => trivial
section
variable {α : Type}
theorem b_pure (a : α) : Blind P (pure a : Sem α) := trivial
theorem b_stuck {s : String} : Blind P (stuck s : Sem α) := trivial
theorem b_unsup {u : Unsupported} : Blind P (unsupported u : Sem α) := trivial
theorem b_load {a : Addr} {m : Go.Mode} : Blind P (load a m) := fun _ => trivial
theorem b_store {a : Addr} {v : Value} {m : Go.Mode} : Blind P (store a v m) := trivial
theorem b_choose {q : Question} : Blind P (choose q) := fun _ => trivial
theorem b_program : Blind P program := trivial
theorem b_ite {c : Prop} [Decidable c] {x y : Sem α} (hx : Blind P x) (hy : Blind P y) : Blind P (if c then x else y) := by split <;> assumption
theorem b_typeInfo {t : TypeId} : Blind P (typeInfo t) := by
 refine b_program.bind fun p => ?_
 split <;> trivial
theorem b_underlying {t : TypeId} : Blind P (underlying t) := by
 refine b_program.bind fun p => ?_
 split <;> trivial
theorem b_zeroValue {t : TypeId} : Blind P (zeroValue t) := by
 refine b_typeInfo.bind fun p => ?_
 split <;> trivial
theorem b_sizeOf {t : TypeId} : Blind P (sizeOf t) := b_typeInfo.bind fun _ => trivial
theorem b_isAgg {t : TypeId} : Blind P (isAgg t) := by
 refine b_underlying.bind fun p => ?_
 split <;> trivial
theorem b_loadCellsFrom {a : Addr} : ∀ {n i : Nat} {acc : Array Value}, Blind P (loadCellsFrom a i n acc)
 | 0, _, _ => trivial
 | n + 1, _, _ => b_load.bind fun _ => b_loadCellsFrom
theorem b_loadCells {a : Addr} {n : Nat} : Blind P (loadCells a n) := b_loadCellsFrom
theorem b_storeCells {a : Addr} : ∀ {vs : List Value} {i : Nat}, Blind P (storeCells a vs i)
 | [], _ => trivial
 | v :: vs, _ => b_store.bind fun _ => b_storeCells
theorem b_loadVar {t : TypeId} {a : Addr} : Blind P (loadVar t a) := by
 refine b_isAgg.bind fun b => ?_
 split
 ·exact b_sizeOf.bind fun _ => b_loadCells.bind fun _ => trivial
 ·exact b_load
theorem b_storeVar {t : TypeId} {a : Addr} {v : Value} : Blind P (storeVar t a v) := by
 refine b_sizeOf.bind fun n => ?_
 split
 ·exact Blind.bind b_stuck fun _ => b_storeCells
 ·exact Blind.bind (b_pure ()) fun _ => b_storeCells
theorem b_newRow {t : TypeId} {c : Array Value} : Blind P (newRow t c) := Blind.bind (s := newObj _) (.inl ⟨⟨_, _, _, rfl⟩, fun _ => trivial⟩) fun _ => trivial
theorem b_newVar {t : TypeId} {v : Value} : Blind P (newVar t v) := b_newRow
theorem b_part {t : TypeId} {cs : Array Value} {off : Nat} : Blind P (part t cs off) := by
 refine b_isAgg.bind fun b => ?_
 split
 ·exact b_sizeOf.bind fun _ => trivial
 ·split <;> trivial
theorem b_elemOf {t : TypeId} : Blind P (elemOf t) := by
 refine b_underlying.bind fun d => ?_
 split <;> trivial
theorem b_asIntOf {v : Value} : Blind P (asIntOf v) := by unfold asIntOf; split <;> trivial
theorem b_asInt {v : Value} : Blind P (asInt v) := b_asIntOf.bind fun _ => trivial
theorem b_asBool {v : Value} : Blind P (asBool v) := by unfold asBool; split <;> trivial
theorem b_asAgg {v : Value} : Blind P (asAgg v) := by unfold asAgg; split <;> trivial
theorem b_runtimePanic {e : RuntimeError} : Blind P (runtimePanic e : Sem α) := by
 refine b_program.bind fun p => ?_
 cases e with
 | bounds => trivial
 | error => trivial
 | plain => trivial
 | nilDeref => trivial
 | typeAssertion => exact b_elemOf.bind fun _ => b_newVar.bind fun _ => trivial
 | panicNil => exact b_elemOf.bind fun _ => b_newVar.bind fun _ => trivial
 | unhashable => trivial
theorem b_asAddr {v : Value} : Blind P (asAddr v) := by
 unfold asAddr;split
 ·trivial
 ·exact b_runtimePanic
 ·trivial
theorem b_boundsPanic {k : IntKind} {x y : Int} {c : BoundsCode} : Blind P (boundsPanic k x y c : Sem α) := by
 unfold boundsPanic;split
 ·refine Blind.bind ?_ fun _ => b_runtimePanic
  exact b_choose.bind' fun _ => trivial
 ·exact Blind.bind (b_pure _) fun _ => b_runtimePanic
theorem b_askRoom {n : Nat} : Blind P (askRoom n) := by
 unfold askRoom;split
 ·exact .inl ⟨rfl, trivial⟩
 ·trivial
theorem b_sureAddr {v : Value} : Blind P (Instr.sureAddr v) := by unfold Instr.sureAddr; split <;> trivial
end
theorem b_alloc {t : TypeId} {old : Value} : Blind P (Instr.alloc t true old) := by
 refine b_zeroValue.bind fun z => ?_
 exact b_newVar.bind fun _ => trivial
theorem b_box {t : TypeId} {v : Value} : Blind P (Instr.box t v) := b_newVar.bind fun _ => trivial
theorem b_loadAt {t : TypeId} {v : Value} : Blind P (Instr.loadAt t v) := b_sureAddr.bind fun _ => b_loadVar
theorem b_storeAt {t : TypeId} {v u : Value} : Blind P (Instr.storeAt t v u) := b_sureAddr.bind fun _ => b_storeVar
theorem b_indexAt {t : TypeId} {x i : Value} : Blind P (Instr.indexAt t x i) := by
 refine b_asIntOf.bind fun ⟨k, i⟩ => ?_
 refine b_underlying.bind fun d => ?_
 have key : ∀ (base : Option Addr) (len : Nat) (elem : TypeId), Blind P (do
   let d' <- underlying t
   let tiny := len <= 1 && (match d' with | .array .. => true | _ => false)
   match base with
   | some a =>
    if 0 <= i /\ i < len then do pure (Value.pointer (some (a.add (i.toNat * (<- sizeOf elem)))))
    else if tiny then unsupported (.noEntry "op/indexAddr.an index out of range at an array of length 0 or 1 (ledger 616)")
    else boundsPanic k i len .index
   | none => boundsPanic k i 0 .index) := fun base len elem => by
  refine b_underlying.bind fun d' => ?_
  cases base with
  | none => exact b_boundsPanic
  | some a =>
   show Blind P (if _ then _ else _)
   split
   ·exact b_sizeOf.bind fun _ => trivial
   ·exact b_ite b_unsup b_boundsPanic
 split
 ·exact b_sureAddr.bind fun a => Blind.bind (b_pure _) fun ⟨_, _, _⟩ => key _ _ _
 ·exact Blind.bind (b_pure _) fun ⟨_, _, _⟩ => key _ _ _
 ·exact Blind.bind b_stuck fun ⟨_, _, _⟩ => key _ _ _
theorem b_sliceBound {x : Value} {y : Nat} {c : BoundsCode} : Blind P (Instr.sliceBound x y c) := by
 refine b_asIntOf.bind fun ⟨k, i⟩ => ?_
 show Blind P (if _ then _ else _)
 split
 ·trivial
 ·exact b_boundsPanic
theorem b_sliceBounds {b : Bool} {l c : Nat} {lo hi mx : Option Value} : Blind P (Instr.sliceBounds b l c lo hi mx) := by
 cases mx with
 | none =>
  cases hi with
  | none => cases lo with
   | none => trivial
   | some v => exact Blind.bind (b_pure c) fun _ => Blind.bind (b_pure l) fun _ => b_sliceBound.bind fun _ => trivial
  | some u => cases lo with
   | none => exact Blind.bind (b_pure c) fun _ => b_sliceBound.bind fun _ => trivial
   | some v => exact Blind.bind (b_pure c) fun _ => b_sliceBound.bind fun _ => b_sliceBound.bind fun _ => trivial
 | some x =>
  cases hi with
  | none => cases lo with
   | none => exact b_sliceBound.bind fun _ => trivial
   | some v => exact b_sliceBound.bind fun _ => Blind.bind b_stuck fun _ => b_sliceBound.bind fun _ => trivial
  | some u => cases lo with
   | none => exact b_sliceBound.bind fun _ => b_sliceBound.bind fun _ => trivial
   | some v => exact b_sliceBound.bind fun _ => b_sliceBound.bind fun _ => b_sliceBound.bind fun _ => trivial
theorem b_slice {t : TypeId} {x : Value} {lo hi mx : Option Value} : Blind P (Instr.slice t x lo hi mx) := by
 refine b_underlying.bind fun d => ?_
 split
 ·split
  ·trivial
  ·exact b_sliceBounds.bind fun _ => trivial
 ·exact b_sliceBounds.bind fun _ => b_sizeOf.bind fun _ => trivial
 ·refine b_asAddr.bind fun a => b_underlying.bind fun d => ?_
  split
  ·exact b_sliceBounds.bind fun _ => b_sizeOf.bind fun _ => trivial
  ·trivial
 ·trivial
theorem b_sliceAt {t : TypeId} {x : Value} {lo hi mx : Option Value} : Blind P (Instr.sliceAt t x lo hi mx) := by
 refine b_underlying.bind fun d => ?_
 split
 ·exact b_sureAddr.bind fun a => b_sliceBounds.bind fun _ => b_sizeOf.bind fun _ => trivial
 ·exact b_slice
theorem b_mapL {α β : Type} {f : α -> Sem β} (hf : ∀ a, Blind P (f a)) : ∀ {l : List α}, Blind P (l.mapM f)
 | [] => by rw [List.mapM_nil]; trivial
 | a :: l => by
  rw [List.mapM_cons];exact (hf a).bind fun _ => (b_mapL hf).bind fun _ => trivial
theorem b_mapA {α β : Type} {f : α -> Sem β} (hf : ∀ a, Blind P (f a)) {l : Array α} : Blind P (l.mapM f) := by
 rw [Array.mapM_eq_mapM_toList];exact Blind.bind' (b_mapL hf) fun _ => trivial
theorem b_build {t : TypeId} {ps : Array (Nat × Value)} : Blind P (Instr.build t ps) := by
 refine b_zeroValue.bind fun z => b_underlying.bind fun d => ?_
 split
 ·refine Blind.bind (b_mapA fun f => ?_) fun pl => ?_
  ·exact b_sizeOf.bind fun _ => b_pure _
  ·split <;> trivial
 ·refine b_sizeOf.bind fun n => ?_
  split <;> trivial
 ·trivial
theorem b_buildSlice {t : TypeId} {n : Nat} {ps : Array (Nat × Value)} : Blind P (Instr.buildSlice t n ps) := by
 refine b_underlying.bind fun d => ?_
 split
 ·refine b_sizeOf.bind fun sz => ?_
  rename_i elem;by_cases h1 : n * sz > 2 ^ 24 <;> by_cases h2 : n * sz = 0 <;> simp only [h1, h2, if_true, if_false]
  ·exact absurd h1 (by omega)
  ·exact Blind.bind b_unsup fun _ => b_zeroValue.bind fun _ => Blind.bind (b_pure _) fun _ => by split <;> first | exact b_newRow.bind (fun _ => b_pure _) | exact b_stuck
  ·exact Blind.bind (b_pure _) fun _ => by split <;> first | exact b_newRow.bind (fun _ => b_pure _) | exact b_stuck
  ·exact b_zeroValue.bind fun _ => Blind.bind (b_pure _) fun _ => by split <;> first | exact b_newRow.bind (fun _ => b_pure _) | exact b_stuck
 ·trivial
theorem b_field {t : TypeId} {x : Value} {f : Nat} : Blind P (Instr.field t x f) := by
 refine b_underlying.bind fun d => ?_
 split
 ·split
  ·exact b_asAgg.bind fun _ => b_part
  ·trivial
 ·trivial
theorem b_index {t : TypeId} {x i : Value} : Blind P (Instr.index t x i) := by
 refine b_asIntOf.bind fun ⟨k, i⟩ => b_underlying.bind fun d => ?_
 split
 ·exact b_ite (b_sizeOf.bind fun _ => b_part) b_boundsPanic
 ·split
  ·trivial
  ·exact b_boundsPanic
 ·trivial
theorem b_makeInterface {t : TypeId} {x : Value} : Blind P (Instr.makeInterface t x) := by
 refine b_underlying.bind fun d => ?_
 split <;> trivial
theorem b_extract {x : Value} {i : Nat} : Blind P (Instr.extract x i) := by
 unfold Instr.extract;split
 ·split <;> trivial
 ·trivial
theorem b_makeSlice {t : TypeId} {l c : Value} : Blind P (Instr.makeSlice t l c) := by
 refine b_underlying.bind fun d => ?_
 split
 ·refine b_asInt.bind fun len => b_asInt.bind fun cap => b_typeInfo.bind fun ti => ?_
  have k2 : ∀ (zero : Array Value) (elem : TypeId) (m l c : Nat), Blind P (do
    let a <- newRow elem ((Array.range m).map (zero[· % zero.size]!))
    pure (Value.slice (some a) l c)) := fun _ _ _ _ _ => b_newRow.bind fun _ => trivial
  have k1 : ∀ (u : PUnit) (elem : TypeId) (c l b : Nat), Blind P (do
    askRoom (c * b)
    let n := c * (<- sizeOf elem)
    let zero <- if n = 0 then pure #[] else do pure (<- zeroValue elem).cells
    let a <- newRow elem ((Array.range n).map (zero[· % zero.size]!))
    pure (Value.slice (some a) l c)) := fun _ elem c l b => by
   refine b_askRoom.bind fun _ => b_sizeOf.bind fun sz => ?_
   show Blind P (if _ then _ else _)
   split
   ·exact Blind.bind (b_pure _) fun _ => k2 _ _ _ _ _
   ·exact b_zeroValue.bind fun _ => Blind.bind (b_pure _) fun _ => k2 _ _ _ _ _
  show Blind P (if _ then _ else _)
  split
  ·show Blind P (if _ then _ else _)
   split
   ·exact b_runtimePanic.bind fun u => k1 u _ _ _ _
   ·show Blind P (if _ then _ else _)
    split
    ·exact b_runtimePanic.bind fun u => k1 u _ _ _ _
    ·refine b_choose.bind fun n => ?_
     exact b_runtimePanic.bind fun u => k1 u _ _ _ _
  ·exact k1 ⟨⟩ _ _ _ _
 ·trivial
theorem b_intArith {op : BinOp} {k : IntKind} {x y : Int} : Blind P (Op.intArith op k x y) := by unfold Op.intArith; split <;> trivial
theorem b_intDiv {op : BinOp} {k : IntKind} {x y : Int} : Blind P (Op.intDiv op k x y) := by
 unfold Op.intDiv;split
 ·exact b_runtimePanic
 ·split <;> trivial
theorem b_intBits {op : BinOp} {k : IntKind} {x y : Int} : Blind P (Op.intBits op k x y) := by unfold Op.intBits; split <;> trivial
theorem b_shift {op : BinOp} {k k' : IntKind} {x y : Int} : Blind P (Op.shift op k x k' y) := by
 unfold Op.shift;split
 ·exact b_runtimePanic
 ·split <;> trivial
theorem b_intCmp {op : BinOp} {x y : Int} : Blind P (Op.intCmp op x y) := by unfold Op.intCmp; split <;> trivial
theorem b_stringOp {op : BinOp} {x y : ByteArray} : Blind P (Op.stringOp op x y) := by
 unfold Op.stringOp;split
 ·split <;> trivial
 all_goals trivial
theorem b_unary {op : UnOp} {x : Value} : Blind P (Op.unary op x) := by
 unfold Op.unary;split
 ·exact b_intArith
 ·exact b_intBits
 all_goals trivial
theorem b_lenOf {x : Value} : Blind P (Builtin.lenOf x) := by unfold Builtin.lenOf; split <;> trivial
theorem b_firstCells {sz n : Nat} {x : Value} : Blind P (Builtin.firstCells sz n x) := by
 unfold Builtin.firstCells;split
 ·exact b_loadCells
 all_goals trivial
end Go.SX
namespace Go.SX
open Go
variable {P : Program} {v : World}
def sc : Value -> Bool
 | .int _ _ => true
 | .bool _ => true
 | .string _ => true
 | _ => false
def noP (x : Value) : Prop := sc x = true \/ ∃ cs : Array Value, x = .agg cs /\ ∀ c ∈ cs, sc c = true
theorem o_pure {α : Type} (a : α) : Obl P v (pure a : Sem α) := (b_pure a).obl
theorem obl_forIn {α β : Type} {f : α -> β -> Sem (ForInStep β)} {I : Prop} : ∀ {l : List α} {b : β} {v : World}, (∀ a ∈ l, ∀ b v, Obl P v (f a b)) -> Obl P v (forIn l b f)
 | [], b, v, _ => by rw [List.forIn_nil]; exact o_pure b
 | a :: l, b, v, h => by
  rw [List.forIn_cons];refine Obl.bind (h a List.mem_cons_self b v) fun s v' _ => ?_
  cases s with
  | done b => exact o_pure b
  | yield b => exact obl_forIn (I := I) fun a ha => h a (List.mem_cons_of_mem _ ha)
theorem part_noP {t : TypeId} {cs : Array Value} {off : Nat} {w w' : World} {u : Value} (h : ∀ c ∈ cs, sc c = true) (hr : (part t cs off).run P w = .ok u w') : noP u := by
 unfold part at hr;rw [Sem.run_bind] at hr;cases h1 : (isAgg t).run P w with
 | halt => rw [h1] at hr; cases hr
 | ok b w1 =>
  rw [h1] at hr;simp only [Result.andThen_ok] at hr;cases b with
  | true =>
   simp only [if_true, Sem.run_bind] at hr;cases h2 : (sizeOf t).run P w1 with
   | halt => rw [h2] at hr; cases hr
   | ok n w2 =>
    rw [h2] at hr;simp only [Result.andThen_ok, Sem.run_pure, Result.ok.injEq] at hr;obtain ⟨rfl, _⟩ := hr;refine .inr ⟨_, rfl, fun c hc => h c ?_⟩
    obtain ⟨i, hi, rfl⟩ := Array.mem_iff_getElem.1 hc;rw [Array.getElem_extract];exact Array.getElem_mem _
  | false =>
   simp only [Bool.false_eq_true, if_false] at hr;split at hr
   ·rename_i c hc;simp only [Sem.run_pure, Result.ok.injEq] at hr;obtain ⟨rfl, _⟩ := hr;exact .inl (h _ (Array.mem_of_getElem? hc))
   ·cases hr
theorem o_equalIn : ∀ {d : Nat} {t : TypeId} {x y : Value} {v : World}, noP x -> noP y -> Obl P v (Op.equalIn d t x y)
 | 0, t, x, y, v, _, _ => Blind.obl (s := unsupported _) trivial
 | d + 1, t, x, y, v, hx, hy => by
  rw [Op.equalIn];refine Obl.bind b_underlying.obl fun de v1 hde => ?_
  rcases hx with hx | ⟨xs, rfl, hx⟩
  ·rcases hy with hy | ⟨ys, rfl, hy⟩
   ·cases x <;> first | cases hx | skip
    all_goals cases y <;> first | cases hy | skip
    all_goals cases de <;> first | exact Blind.obl b_stuck | exact o_pure _ | (simp only; split <;> first | exact Blind.obl b_stuck | exact o_pure _)
   ·cases x <;> first | cases hx | skip
    all_goals cases de <;> exact Blind.obl b_stuck
  ·rcases hy with hy | ⟨ys, rfl, hy⟩
   ·cases y <;> first | cases hy | skip
    all_goals cases de <;> exact Blind.obl b_stuck
   ·cases de
    case struct fields =>
     simp only
     refine Obl.bind b_program.obl fun p v2 _ => ?_
     have loop : ∀ v, Obl P v (do
       for f in (fields : Array Field) do
        if f.name ≠ "_" then
         if !(<- Op.equalIn d f.type (<- part f.type xs f.offset) (<- part f.type ys f.offset)) then return false
       pure true : Sem Bool) := fun v => by
      simp only
      rw [<- Array.forIn_toList];refine Obl.bind (obl_forIn (I := True) fun f _ r v => ?_) fun r v' _ => ?_
      ·split
       ·refine Obl.bind b_part.obl fun a v1 h1 => Obl.bind b_part.obl fun b v2 h2 => Obl.bind (o_equalIn (part_noP hx h1) (part_noP hy h2)) fun c v3 _ => ?_
        split <;> exact o_pure _
       ·exact o_pure _
      ·split <;> exact o_pure _
     split
     ·exact Obl.bind (Blind.obl (s := unsupported _) trivial) fun _ _ _ => loop _
     ·exact loop _
    case array n e =>
     simp only
     refine Obl.bind b_sizeOf.obl fun m v2 _ => ?_
     rw [Std.Legacy.Range.forIn_eq_forIn_range'];refine Obl.bind (obl_forIn (I := True) fun f _ r v => ?_) fun r v' _ => ?_
     ·refine Obl.bind b_part.obl fun a v1 h1 => Obl.bind b_part.obl fun b v2 h2 => Obl.bind (o_equalIn (part_noP hx h1) (part_noP hy h2)) fun c v3 _ => ?_
      split <;> exact o_pure _
     ·split <;> exact o_pure _
    all_goals exact Blind.obl b_stuck
theorem o_eqGuard {op : BinOp} {T : TypeId} {xo yo : Operand} {x y : Value} (hx : noP x) (hy : noP y) (hg : (∃ cs, x = .agg cs) -> P.eqGuardType P.depth T = false) : Obl P v (eqGuard op T xo yo x y) := by
 have key : Obl P v (match x, y with
  | .nilIface, .nilIface => (if (xo matches .const _) || (yo matches .const _) then pure () else do
   if ← Op.eqGuardIn Op.maxDepth T x y then unsupported (.noEntry "binop/eql: two nil values of an interface type with methods, neither of them the literal nil") else pure () : Sem Unit)
  | .agg _, .agg _ => (do
   if !(<- program).eqGuardType (<- program).depth T then pure () else do
   if ← Op.eqGuardIn Op.maxDepth T x y then unsupported (.noEntry "binop/eql: two nil values of an interface type with methods, in a part of a struct or an array") else pure ())
  | _, _ => pure ()) := by
  rcases hx with hx | ⟨xs, rfl, hx⟩
  ·cases x <;> first | exact absurd hx Bool.false_ne_true | exact o_pure _
  ·rcases hy with hy | ⟨ys, rfl, hy⟩
   ·cases y <;> first | exact absurd hy Bool.false_ne_true | exact o_pure _
   ·refine Obl.bind b_program.obl fun p v1 h1 => Obl.bind b_program.obl fun p' v2 h2 => ?_
    have e1 : p = P := by cases h1; rfl
    have e2 : p' = P := by cases h2; rfl
    subst e1 e2;rw [hg ⟨_, rfl⟩];exact o_pure _
 unfold eqGuard;cases op <;> first | exact key | exact o_pure _
theorem o_equal {T : TypeId} {x y : Value} (hx : noP x) (hy : noP y) : Obl P v (Op.equal T x y) := o_equalIn hx hy
theorem o_binOp {op : BinOp} {T : TypeId} {x y : Value} (hx : noP x) (hy : noP y) : Obl P v (binOp op T x y) := by
 have he : Obl P v (do pure (.bool (<- Op.equal T x y)) : Sem Value) := Obl.bind (o_equal hx hy) fun _ _ _ => o_pure _
 have hn : Obl P v (do pure (.bool (!(<- Op.equal T x y))) : Sem Value) := Obl.bind (o_equal hx hy) fun _ _ _ => o_pure _
 rcases hx with hx | ⟨xs, rfl, hx⟩
 ·rcases hy with hy | ⟨ys, rfl, hy⟩
  ·cases x <;> first | exact absurd hx Bool.false_ne_true | skip
   all_goals cases y <;> first | exact absurd hy Bool.false_ne_true | skip
   all_goals cases op <;> first | exact he | exact hn | exact Blind.obl b_stuck | exact Blind.obl (s := Op.shift _ _ _ _ _) b_shift | exact Blind.obl (s := Op.stringOp _ _ _) b_stringOp | skip
   all_goals simp only [binOp]
   all_goals first | exact Blind.obl b_shift | exact Blind.obl b_stringOp | skip
   all_goals split <;> first | exact Blind.obl b_stuck | exact Blind.obl b_intArith | exact Blind.obl b_intDiv | exact Blind.obl b_intBits | exact Blind.obl b_intCmp
  ·cases x <;> first | exact absurd hx Bool.false_ne_true | skip
   all_goals cases op <;> first | exact he | exact hn | exact Blind.obl b_stuck
 ·rcases hy with hy | ⟨ys, rfl, hy⟩
  ·cases y <;> first | exact absurd hy Bool.false_ne_true | skip
   all_goals cases op <;> first | exact he | exact hn | exact Blind.obl b_stuck
  ·cases op <;> first | exact he | exact hn | exact Blind.obl b_stuck
theorem o_bin {op : BinOp} {T : TypeId} {xo yo : Operand} {x y : Value} (hx : noP x) (hy : noP y) (hg : (∃ cs, x = .agg cs) -> P.eqGuardType P.depth T = false) : Obl P v (do eqGuard op T xo yo x y; binOp op T x y) :=
 Obl.bind (o_eqGuard hx hy hg) fun _ _ _ => o_binOp hx hy
theorem o_binP {op : BinOp} {T e : TypeId} {xo yo : Operand} {a : Option Addr} (hT : P.underlying T = some (.pointer e)) (hop : op = .eql \/ op = .neq) : Obl P v (do eqGuard op T xo yo (.pointer a) (.pointer none); binOp op T (.pointer a) (.pointer none)) := by
 have hq : ∀ v, Obl P v (Op.equal T (.pointer a) (.pointer none)) := fun v => by
  show Obl P v (Op.equalIn (9999 + 1) T _ _)
  rw [Op.equalIn];refine Obl.bind b_underlying.obl fun de v1 h1 => ?_
  rw [run_underlying hT] at h1;cases h1
  cases a <;> exact o_pure _
 refine Obl.bind (by unfold eqGuard; split <;> exact o_pure _) fun _ v1 _ => ?_
 rcases hop with rfl | rfl
 ·exact Obl.bind (hq _) fun _ _ _ => o_pure _
 ·exact Obl.bind (hq _) fun _ _ _ => o_pure _
theorem o_fieldAt {S : TypeId} {a : Value} {f n : Nat} {fields : Array Field} {fd : Field} (h1 : P.underlying S = some (.struct fields)) (h2 : fields[f]? = some fd) (h5 : ∀ w, (sizeOf fd.type).run P w = .ok n w) (hn : n ≠ 0) : Obl P v (Instr.fieldAt S a f) := by
 refine Obl.bind b_underlying.obl fun de v1 hde => ?_
 rw [run_underlying h1] at hde;cases hde
 simp only [h2];refine Obl.bind b_sureAddr.obl fun ad v2 _ => Obl.bind ?_ fun _ _ _ => o_pure _
 refine Obl.bind b_sizeOf.obl fun m v3 h3 => ?_
 rw [h5] at h3;cases h3
 rw [if_neg hn];exact o_pure _
theorem b_guard {c : Prop} [Decidable c] {β : Type} {s : Sem Unit} {jp : Unit -> Sem β} (hs : Blind P s) (hj : ∀ u, Blind P (jp u)) : Blind P (if c then (s >>= jp) else jp ()) := b_ite (hs.bind hj) (hj ())
theorem b_append {ts : Array TypeId} {t : TypeId} {args : Array Value} : Blind P (Builtin.append_ ts t args) := by
 unfold Builtin.append_;split
 ·refine b_underlying.bind fun d => ?_
  split
  ·split
   ·rename_i base sLen sCap _;refine b_sizeOf.bind fun size => ?_
    extract_lets j0 jz
    have hz : ∀ z, Blind P (jz z) := fun z => by
     dsimp (config := { zeta := false }) only [jz]
     extract_lets jn
     have hn : ∀ n, Blind P (jn n) := fun n => by
      dsimp (config := { zeta := false }) only [jn]
      extract_lets app need jA jB jC
      have ha : Blind P app := b_ite b_firstCells (b_ite (b_pure _) (b_zeroValue.bind fun _ => b_pure _))
      have hA : ∀ u, Blind P (jA u) := fun _ => b_pure _
      have hB : ∀ u, Blind P (jB u) := fun _ => b_choose.bind fun _ => b_typeInfo.bind fun _ => b_askRoom.bind fun _ => b_firstCells.bind fun _ => ha.bind fun _ => b_zeroValue.bind fun _ => b_newRow.bind fun _ => b_pure _
      have hC : ∀ u, Blind P (jC u) := fun _ => b_typeInfo.bind fun _ => b_guard (b_ite b_runtimePanic (Dead.blind (Dead.bind_r fun b => by cases b <;> exact trivial))) hB
      refine b_ite (ha.bind fun new => ?_) (b_typeInfo.bind fun _ => b_guard b_runtimePanic hC)
      split
      ·exact b_storeCells.bind hA
      ·exact hA ()
     refine b_ite ?_ (b_lenOf.bind hn)
     refine b_asInt.bind fun l => ?_
     extract_lets l' j1 j2
     have h1 : ∀ u, Blind P (j1 u) := fun _ => Blind.bind (b_pure _) hn
     have h2 : ∀ u, Blind P (j2 u) := fun _ => b_typeInfo.bind fun _ => b_ite (b_choose.bind fun _ => b_runtimePanic.bind h1) (h1 ())
     exact b_guard b_runtimePanic h2
    split
    ·exact b_underlying.bind fun _ => Blind.bind (b_pure _) hz
    ·exact Blind.bind (b_pure _) hz
   ·trivial
  ·trivial
 ·trivial
theorem seen_sub {f : FuncId} {es : Array Event} {e : Event} (h : e ∈ Go.seen P f es) : e ∈ es := by
 unfold Go.seen at h;simp only at h
 rw [<- Array.foldl_toList] at h;have key : ∀ (l : List Event) (s : Bool × Array Event), e ∈ (l.foldl (fun (x : Bool × Array Event) e =>
   match x with
   | (q, kept) => match e.loc with
    | .mark (.extern f) => ((P.funcs[f]?).any (·.norace), kept)
    | _ => (q, if q && !e.sync then kept else kept.push e)) s).2 -> e ∈ s.2 \/ e ∈ l := by
  intro l
  induction l with
  | nil => exact fun s h => .inl h
  | cons y l ih =>
   intro s h;rw [List.foldl_cons] at h;rcases ih _ h with h | h
   ·obtain ⟨q, kept⟩ := s;simp only at h
    split at h
    ·exact .inl h
    ·simp only at h
     split at h
     ·exact .inl h
     ·rcases Array.mem_push.1 h with h | rfl
      ·exact .inl h
      ·exact .inr List.mem_cons_self
   ·exact .inr (List.mem_cons_of_mem _ h)
 rcases key es.toList _ h with h | h
 ·simp at h
 ·simpa using h
theorem b_results {fn : Func} {tmps : Array Value} : Blind P (results fn tmps) := by
 unfold results;refine Blind.bind (b_mapA fun r => ?_) fun vs => b_pure _
 split
 ·exact b_pure _
 ·exact b_asAddr.bind fun _ => b_loadVar
theorem o_callFunc {f : FuncId} {fn : Func} {c : Code} {us : Array Value} (hf : P.funcs[f]? = some fn) (hb : fn.body = some c) (hn : (fn.name == "runtime.NumGoroutine") = false) : Obl P v (callFunc f us) := by
 refine Obl.bind b_program.obl fun p v1 h1 => ?_
 cases h1
 simp only [hf, hn, Bool.false_eq_true, if_false, hb, Option.isNone_some];exact o_pure _
theorem o_callExtern {f : FuncId} {fn : Func} {us : Array Value} {e : Array Value → Sem Value} (hf : P.funcs[f]? = some fn) (hb : fn.body.isNone = true) (hn : (fn.name == "runtime.NumGoroutine") = false) (h1 : Extern.findNext fn = none) (h2 : Extern.find fn = some e) (he : Blind P (e us)) : Obl P v (callFunc f us) := by
 refine Obl.bind b_program.obl fun p v1 hp => ?_
 cases hp
 simp only [hf, hn, Bool.false_eq_true, if_false, hb, if_true, h1, h2];refine Obl.bind (Blind.obl (s := mark (.extern f)) (.inl ⟨rfl, trivial⟩)) fun _ _ _ => ?_
 exact (he.bind fun _ => b_pure _).obl
theorem o_method {T : TypeId} {name : String} {f : FuncId} (h : methodF P T name = some f) {u : Value} : Obl P v (method (P.types.size + Made.depth) T u name) := by
 unfold methodF at h;split at h
 ·rename_i i hi;split at h
  ·rename_i m hm;have hti : ∀ w : World, (typeInfo T).run P w = .ok i w := fun w => by simp [typeInfo, hi]
   have hstep : ∀ (g : FuncId) (b : Bool), m.path.isEmpty = true -> m.func = some (g, b) -> (∀ v wr, Obl P v (receiverAt T (.val u) b wr)) -> Obl P v (method (P.types.size + Made.depth) T u name) := fun g b hp hf hr => by
    have hp' : m.path.toList = [] := by simpa using hp
    show Obl P v (method ((P.types.size + 99) + 1) T u name)
    generalize P.types.size + 99 = n
    rw [method];refine Obl.bind b_typeInfo.obl fun i' v1 h1 => ?_
    rw [hti] at h1;cases h1
    simp only [hm, hp', follow, hf];refine Obl.bind (o_pure _) fun x v2 h2 => ?_
    cases h2
    exact Obl.bind (hr _ _) fun _ _ _ => o_pure _
   split at h
   ·rename_i q1 q2 q3;refine hstep _ true q1 q2 (fun v wr => ?_)
    refine Obl.bind b_underlying.obl fun d v1 h1 => ?_
    rw [run_underlying q3] at h1;cases h1
    exact o_pure _
   ·cases h
   ·cases h
   ·rename_i g d hno q1 q2 q3;refine hstep _ false q1 q2 (fun v wr => ?_)
    refine Obl.bind b_underlying.obl fun d' v1 h1 => ?_
    rw [run_underlying q3] at h1;cases h1
    cases d <;> first | exact o_pure _ | exact (hno _ rfl).elim
   ·cases h
  ·cases h
 ·cases h
def Quiet {α : Type} (P : Program) (s : Sem α) (a : α) : Prop := ∀ (w : World) (es : Array Event), s.runT P w es = (.ok a w, es)
theorem quiet_pure {α : Type} (a : α) : Quiet P (pure a : Sem α) a := fun _ _ => rfl
theorem Quiet.bind {α β : Type} {s : Sem α} {f : α -> Sem β} {a : α} {b : β} (h : Quiet P s a) (hf : Quiet P (f a) b) : Quiet P (s >>= f) b := fun w es => by
 have e := Sem.runT_bind' P s f w es
 rw [h w es] at e;exact e.trans (hf w es)
theorem Quiet.then {α β : Type} {s : Sem α} {f : α -> Sem β} {a : α} (h : Quiet P s a) (w : World) (es : Array Event) : (s >>= f).runT P w es = (f a).runT P w es := by
 have e := Sem.runT_bind' P s f w es
 rw [h w es] at e;exact e
theorem quiet_typeInfo {T : TypeId} {i : TypeInfo} (hi : P.info? T = some i) : Quiet P (typeInfo T) i := fun w es => by
 show ((match P.info? T with | some i => pure i | none => stuck "no such type") : Sem TypeInfo).runT P w es = _
 rw [hi]; rfl
theorem quiet_underlying {T : TypeId} {d : TypeDesc} (hd : P.underlying T = some d) : Quiet P (underlying T) d := fun w es => by
 show ((match P.underlying T with | some d => pure d | none => stuck "no such type") : Sem TypeDesc).runT P w es = _
 rw [hd]; rfl
theorem quiet_method {T : TypeId} {name : String} {f : FuncId} (h : methodF P T name = some f) {u : Value} : Quiet P (method (P.types.size + Made.depth) T u name) (f, u) := by
 unfold methodF at h;split at h
 ·rename_i i hi;split at h
  ·rename_i m hm;have hstep : ∀ (g : FuncId) (b : Bool), m.path.isEmpty = true -> m.func = some (g, b) -> (∀ wr, Quiet P (receiverAt T (.val u) b wr) u) -> Quiet P (method (P.types.size + Made.depth) T u name) (g, u) := fun g b hp hf hr => by
    have hp' : m.path.toList = [] := by simpa using hp
    show Quiet P (method ((P.types.size + 99) + 1) T u name) _
    generalize P.types.size + 99 = n
    rw [method];refine (quiet_typeInfo hi).bind ?_
    simp only [hm, hp', follow, hf];exact (quiet_pure _).bind ((hr _).bind (quiet_pure _))
   split at h
   ·rename_i q1 q2 q3;obtain rfl := smI h;exact hstep _ true q1 q2 (fun wr => (quiet_underlying q3).bind (quiet_pure _))
   ·cases h
   ·cases h
   ·rename_i g d hno q1 q2 q3;obtain rfl := smI h;refine hstep _ false q1 q2 (fun wr => (quiet_underlying q3).bind ?_)
    cases d <;> first | exact quiet_pure _ | exact (hno _ rfl).elim
   ·cases h
  ·cases h
 ·cases h
theorem runT_callMethod {T : TypeId} {u : Value} {m : String} {us : Array Value} {f : FuncId} (hm : methodF P T m = some f) (w : World) (es : Array Event) : (callMethod (.iface T u) m us).runT P w es = (callFunc f (#[u] ++ us)).runT P w es := by
 have e : callMethod (.iface T u) m us = (program >>= fun p => (method (p.types.size + Made.depth) T u m >>= fun x => callFunc x.1 (#[x.2] ++ us))) := rfl
 have q : Quiet P program P := fun _ _ => rfl
 rw [e, q.then, (quiet_method hm).then]
end Go.SX
