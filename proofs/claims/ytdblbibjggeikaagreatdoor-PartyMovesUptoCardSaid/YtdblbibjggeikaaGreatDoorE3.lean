/- The WaitGroup's functions and types in the program. -/
import Derived.Test.YtdblbibjggeikaaGreatDoorProg
import Derived.Conc.WgGenN3
import Derived.KernelRfl
import Derived.Test.YtdblbibjggeikaaGreatDoorE2
import Derived.Conc.AtomicLaws2
set_option linter.unusedSectionVars false
set_option linter.unusedVariables false
set_option linter.unusedSimpArgs false
namespace Go.Sc
open Go Go.Proofs
set_option maxRecDepth 100000
abbrev wgL : Go.Conc.Lib.WgLink := { add := 235, done := 237, wait := 239, relMerge := 255, disable := 256, enable := 257, inBubble := 258, associate := 259, fatal := 260, uOr := 261, uAdd := 262, raceRead := 263, uLoad := 264, uStore := 265, disassociate := 266, semrelease := 267, acquire := 268, isAssociated := 269, uCas := 270, raceWrite := 271, semacquire := 272, orU64 := 278, addU64 := 279, loadU64 := 280, storeU64 := 281, casU64 := 282, tWgP := 385, tUP := 387, tAssoc := 388, tWg := 366, tAU := 363, tU64 := 24, tUint := 225, tU32 := 364, tPU32 := 392, tPAU := 406, tPU64 := 408, tNoCopy := 361, tANoCopy := 349, tAlign64 := 350 }
theorem wgH : Go.Conc.Lib.WgLib Tryz.prog wgL :=
 ⟨Tryz.func235, Tryz.func237, Tryz.func239, Tryz.func255, Tryz.func256, Tryz.func257, Tryz.func258, Tryz.func259, Tryz.func260, Tryz.func261, Tryz.func262, Tryz.func263, Tryz.func264, Tryz.func265, Tryz.func266, Tryz.func267, Tryz.func268, Tryz.func269, Tryz.func270, Tryz.func271, Tryz.func272, Tryz.func278, Tryz.func279, Tryz.func280, Tryz.func281, Tryz.func282, Tryz.underlying385, Tryz.runUnderlying385, Tryz.sizeOf385, Tryz.isAgg385, Tryz.zeroValue385, Tryz.underlying387, Tryz.runUnderlying387, Tryz.sizeOf387, Tryz.isAgg387, Tryz.zeroValue387, Tryz.underlying388, Tryz.runUnderlying388, Tryz.sizeOf388, Tryz.isAgg388, Tryz.zeroValue388, Tryz.underlying366, Tryz.runUnderlying366, Tryz.sizeOf366, Tryz.isAgg366, Tryz.zeroValue366, Tryz.underlying363, Tryz.runUnderlying363, Tryz.sizeOf363, Tryz.isAgg363, Tryz.zeroValue363, Tryz.underlying24, Tryz.runUnderlying24, Tryz.sizeOf24, Tryz.isAgg24, Tryz.zeroValue24, Tryz.underlying225, Tryz.runUnderlying225, Tryz.sizeOf225, Tryz.isAgg225, Tryz.zeroValue225, Tryz.underlying364, Tryz.runUnderlying364, Tryz.sizeOf364, Tryz.isAgg364, Tryz.zeroValue364, Tryz.underlying392, Tryz.runUnderlying392, Tryz.sizeOf392, Tryz.isAgg392, Tryz.zeroValue392, Tryz.underlying406, Tryz.runUnderlying406, Tryz.sizeOf406, Tryz.isAgg406, Tryz.zeroValue406, Tryz.underlying408, Tryz.runUnderlying408, Tryz.sizeOf408, Tryz.isAgg408, Tryz.zeroValue408, Tryz.underlying0, Tryz.runUnderlying0, Tryz.sizeOf0, Tryz.isAgg0, Tryz.zeroValue0, Tryz.underlying3, Tryz.runUnderlying3, Tryz.sizeOf3, Tryz.isAgg3, Tryz.zeroValue3, Tryz.underlying4, Tryz.runUnderlying4, Tryz.sizeOf4, Tryz.isAgg4, Tryz.zeroValue4, Tryz.underlying9, Tryz.runUnderlying9, Tryz.sizeOf9, Tryz.isAgg9, Tryz.zeroValue9, Tryz.underlying20, Tryz.runUnderlying20, Tryz.sizeOf20, Tryz.isAgg20, Tryz.zeroValue20, Tryz.underlying21, Tryz.runUnderlying21, Tryz.sizeOf21, Tryz.isAgg21, Tryz.zeroValue21, by kernel_rfl, by kernel_rfl⟩
end Go.Sc
namespace Go.Sc
open Go Go.SX Go.Proofs
variable [Level]
def mB (x y : Int) : Blk := .vals [.c (.int false .i64 x), .c (.int false .i64 y)]
def TAddO (vs : List V1) (hl : Heap) : Tree (SV × Heap) :=
 match vs, hl with
 | [.c (.ptr 0 0 0 0 0 0), .c (.int _ .i64 d)], [.vals [.c (.int _ .i64 x), .c (.int _ .i64 y)]] => .ret (.one (.c (.int false .i64 (iw (x + d)))), [mB (iw (x + d)) y])
 | [.c (.ptr 0 0 0 1 0 0), .c (.int _ .i64 d)], [.vals [.c (.int _ .i64 x), .c (.int _ .i64 y)]] => .ret (.one (.c (.int false .i64 (iw (y + d)))), [mB x (iw (y + d))])
 | _, _ => .fail
def TLoadO (vs : List V1) (hl : Heap) : Tree (SV × Heap) :=
 match vs, hl with
 | [.c (.ptr 0 0 0 0 0 0)], [.vals [.c (.int false .i64 x), .c (.int false .i64 y)]] => .ret (.one (.c (.int false .i64 x)), [mB x y])
 | [.c (.ptr 0 0 0 1 0 0)], [.vals [.c (.int false .i64 x), .c (.int false .i64 y)]] => .ret (.one (.c (.int false .i64 y)), [mB x y])
 | _, _ => .fail
theorem b_read {P : Program} {t : Extern.Atomic.T} {a : Addr} : Blind P (Extern.Atomic.read t a) := by
 unfold Extern.Atomic.read;refine b_load.bind fun v => ?_
 split
 ·split <;> first | exact b_pure _ | exact b_unsup
 ·exact b_pure _
 ·exact b_pure _
 ·exact b_unsup
theorem b_update {P : Program} {op : IntKind -> Int -> Int -> Sem Value} {k : IntKind} {rn : Bool} (hop : ∀ x y, Blind P (op k x y)) (us : Array Value) : Blind P (Extern.Atomic.update op k rn us) := by
 have key : ∀ x y : Value, Blind P (Extern.Atomic.update op k rn #[x, y]) := fun x y =>
  b_asAddr.bind fun a => b_read.bind fun old => b_asInt.bind fun i => b_asInt.bind fun j => (hop _ _).bind fun new => b_store.bind fun _ => b_pure _
 rcases us with ⟨_ | ⟨x, _ | ⟨y, _ | ⟨c, l⟩⟩⟩⟩ <;> first | exact key _ _ | exact b_stuck
theorem b_loadT {P : Program} {t : Extern.Atomic.T} (us : Array Value) : Blind P (Extern.Atomic.loadT t us) := by
 have key : ∀ x : Value, Blind P (Extern.Atomic.loadT t #[x]) := fun x => b_asAddr.bind fun a => b_read
 rcases us with ⟨_ | ⟨x, _ | ⟨y, l⟩⟩⟩ <;> first | exact key _ | exact b_stuck
theorem iwIn (x : Int) : InK .i64 (iw x) := by
 unfold iw;rw [inI, IntKind.wrap_i64];omega
section
variable {G : GlobT} {E : Env} {x y d : Int} {l1 l2 : Bool}
theorem mB_cells (hrep : RepH G E) (hB : getB E.H 0 = .vals [.c (.int l1 .i64 x), .c (.int l2 .i64 y)]) : ∃ k c e, E.β 0 = some k /\ E.w.heap[k]? = some (.cells c e (0, 0)) /\ c.toList = [.int .i64 x, .int .i64 y] /\ InK .i64 x /\ InK .i64 y := by
 obtain ⟨k, c, e, fz, g1, g2, g3, g4⟩ := hrep.vals hB;have hz : fz = (0, 0) := g3.2
 subst hz;obtain ⟨v1, v2, e1, ⟨v0, e2, e3, i1⟩, v3, v4, e4, ⟨v5, e5, e6, i2⟩, e7⟩ := g4;have e7 : v4 = [] := e7
 exact ⟨k, c, e, g1, g2, by rw [e1, e2, e4, e5, e7, e3, e6]; rfl, i1, i2⟩
theorem mB_set (hrep : RepH G E) (hB : getB E.H 0 = .vals [.c (.int l1 .i64 x), .c (.int l2 .i64 y)]) {k : Nat} {c : Array Value} {e : TypeId} (hk : E.β 0 = some k) (hc : E.w.heap[k]? = some (.cells c e (0, 0))) (hcl : c.toList = [.int .i64 x, .int .i64 y]) {o : Nat} {v x' y' : Int} (ho : o < 2)
  (hv : ([.int .i64 x, .int .i64 y] : List Value).take o ++ [.int .i64 v] ++ ([.int .i64 x, .int .i64 y] : List Value).drop (o + 1) = [.int .i64 x', .int .i64 y']) (hx : InK .i64 x') (hy : InK .i64 y') :
  RepH G ⟨E.β, setB E.H 0 (mB x' y'), E.w.setCell ⟨k, o, none⟩ (.int .i64 v), E.R⟩ /\ Ext E ⟨E.β, setB E.H 0 (mB x' y'), E.w.setCell ⟨k, o, none⟩ (.int .i64 v), E.R⟩ := by
 have hsz : c.size = 2 := by rw [<- Array.length_toList, hcl]; rfl
 obtain ⟨c', w1, w2, w3, w4, w5, w6⟩ := setCells_heap [Value.int .i64 v] o E.w c hc (by simp; omega)
 have hl : live (getB E.H 0) = true := by rw [hB]; rfl
 refine env_write hrep hl hk (w' := E.w.setCell ⟨k, o, none⟩ (.int .i64 v)) w6 hc w5 w4 w1 w3 (blk := mB x' y') (by
  rw [hB]
  show RelFs E [.c (.int false .i64 x'), .c (.int false .i64 y')] c'.toList
  rw [w2, hcl];have e : ([.int .i64 x, .int .i64 y] : List Value).drop (o + [Value.int .i64 v].length) = ([.int .i64 x, .int .i64 y] : List Value).drop (o + 1) := rfl
  rw [e, hv];exact ⟨[.int .i64 x'], [.int .i64 y'], rfl, ⟨_, rfl, rfl, hx⟩, [.int .i64 y'], [], rfl, ⟨_, rfl, rfl, hy⟩, rfl⟩)
  (fun p t xs hp hpk => (hrep.noPar hl hk (fun t xs lo par h => by rw [hB] at h; cases h) hp hpk).elim)
end
theorem ok_AddO {G : GlobT} : EntryOk Tryz.prog G 276 TAddO := by
 intro vs hl r hl' hr E us hE hrep hvs;refine ⟨o_callExtern (fn := Tryz.f276) (by kernel_rfl) (by kernel_rfl) (by kernel_rfl) (by kernel_rfl) (e := Extern.Atomic.update (Op.intArith .add) .i64 true) (by kernel_rfl) (b_update (fun x y => b_intArith) us), .inr ?_⟩
 unfold TAddO at hr;split at hr
 ·rename_i l d l1 x l2 y;obtain ⟨rfl, rfl⟩ := Prod.mk.inj (val_ret hr);have hB : getB E.H 0 = .vals [.c (.int l1 .i64 x), .c (.int l2 .i64 y)] := by rw [hE]; rfl
  obtain ⟨k, c, e, hk, hc, hcl, ix, iy⟩ := mB_cells hrep hB;obtain ⟨u0, _, e0, ⟨_, hp⟩, u1, _, e1, ⟨rfl, _⟩, e2⟩ := hvs;unfold RelPtr at hp;rw [hB] at hp;obtain ⟨⟨kb, hk', rfl⟩, _⟩ := hp;rw [hk] at hk';obtain rfl := smI hk';subst e2 e1;obtain rfl : us = #[.pointer (some ⟨k, 0, none⟩), .int .i64 d] := by cases us; simp_all
  have hcell : E.w.cell? ⟨k, 0, none⟩ = some (.int .i64 x) := by
   have : c[0]? = some (.int .i64 x) := by rw [<- Array.getElem?_toList, hcl]; rfl
   simp [World.cell?, hc, this]
  have hfz : E.w.frozen? ⟨k, 0, none⟩ = false := by simp [World.frozen?, hc]
  obtain ⟨p1, p2⟩ := mB_set hrep hB hk hc hcl (o := 0) (v := iw (x + d)) (x' := iw (x + d)) (y' := y) (by omega) rfl (iwIn _) iy
  have hH : setB E.H 0 (mB (iw (x + d)) y) = [mB (iw (x + d)) y] := by rw [hE]; rfl
  rw [hH] at p1 p2;refine ⟨.int .i64 (iw (x + d)), E.w.setCell ⟨k, 0, none⟩ (.int .i64 (iw (x + d))), ?_, E.β, E.R, p1, p2, rfl, iwIn _⟩
  rw [run_callFunc_extern (fn := Tryz.f276) (by kernel_rfl) (by kernel_rfl) (by kernel_rfl) (by kernel_rfl) (e := Extern.Atomic.update (Op.intArith .add) .i64 true) (by kernel_rfl), Conc.run_add_entry hcell hfz]
  rfl
 ·rename_i l d l1 x l2 y;obtain ⟨rfl, rfl⟩ := Prod.mk.inj (val_ret hr);have hB : getB E.H 0 = .vals [.c (.int l1 .i64 x), .c (.int l2 .i64 y)] := by rw [hE]; rfl
  obtain ⟨k, c, e, hk, hc, hcl, ix, iy⟩ := mB_cells hrep hB;obtain ⟨u0, _, e0, ⟨_, hp⟩, u1, _, e1, ⟨rfl, _⟩, e2⟩ := hvs;unfold RelPtr at hp;rw [hB] at hp;obtain ⟨⟨kb, hk', rfl⟩, _⟩ := hp;rw [hk] at hk';obtain rfl := smI hk';subst e2 e1;obtain rfl : us = #[.pointer (some ⟨k, 1, none⟩), .int .i64 d] := by cases us; simp_all
  have hcell : E.w.cell? ⟨k, 1, none⟩ = some (.int .i64 y) := by
   have : c[1]? = some (.int .i64 y) := by rw [<- Array.getElem?_toList, hcl]; rfl
   simp [World.cell?, hc, this]
  have hfz : E.w.frozen? ⟨k, 1, none⟩ = false := by simp [World.frozen?, hc]
  obtain ⟨p1, p2⟩ := mB_set hrep hB hk hc hcl (o := 1) (v := iw (y + d)) (x' := x) (y' := iw (y + d)) (by omega) rfl ix (iwIn _)
  have hH : setB E.H 0 (mB x (iw (y + d))) = [mB x (iw (y + d))] := by rw [hE]; rfl
  rw [hH] at p1 p2;refine ⟨.int .i64 (iw (y + d)), E.w.setCell ⟨k, 1, none⟩ (.int .i64 (iw (y + d))), ?_, E.β, E.R, p1, p2, rfl, iwIn _⟩
  rw [run_callFunc_extern (fn := Tryz.f276) (by kernel_rfl) (by kernel_rfl) (by kernel_rfl) (by kernel_rfl) (e := Extern.Atomic.update (Op.intArith .add) .i64 true) (by kernel_rfl), Conc.run_add_entry hcell hfz]
  rfl
 ·cases hr
theorem run_load_entry {P : Program} {ad : Addr} {v : Int} {w : World} (hc : w.cell? ad = some (.int .i64 v)) : (Extern.Atomic.loadT (.int .i64) #[.pointer (some ad)]).run P w = .ok (.int .i64 v) w := by
 change Sem.run P (do
  let a' <- asAddr (.pointer (some ad))
  Extern.Atomic.read (.int .i64) a') w = _
 simp [Extern.Atomic.read, asAddr, hc, Result.andThen]
theorem ok_LoadO {G : GlobT} : EntryOk Tryz.prog G 277 TLoadO := by
 intro vs hl r hl' hr E us hE hrep hvs;refine ⟨o_callExtern (fn := Tryz.f277) (by kernel_rfl) (by kernel_rfl) (by kernel_rfl) (by kernel_rfl) (e := Extern.Atomic.loadT (.int .i64)) (by kernel_rfl) (b_loadT us), .inr ?_⟩
 unfold TLoadO at hr;split at hr
 ·rename_i x y;obtain ⟨rfl, rfl⟩ := Prod.mk.inj (val_ret hr);have hB : getB E.H 0 = .vals [.c (.int false .i64 x), .c (.int false .i64 y)] := by rw [hE]; rfl
  obtain ⟨k, c, e, hk, hc, hcl, ix, iy⟩ := mB_cells hrep hB;obtain ⟨u0, _, e0, ⟨_, hp⟩, e2⟩ := hvs;unfold RelPtr at hp;rw [hB] at hp;obtain ⟨⟨kb, hk', rfl⟩, _⟩ := hp;rw [hk] at hk';obtain rfl := smI hk';subst e2;obtain rfl : us = #[.pointer (some ⟨k, 0, none⟩)] := by cases us; simp_all
  have hcell : E.w.cell? ⟨k, 0, none⟩ = some (.int .i64 x) := by
   have : c[0]? = some (.int .i64 x) := by rw [<- Array.getElem?_toList, hcl]; rfl
   simp [World.cell?, hc, this]
  refine ⟨.int .i64 x, E.w, ?_, E.β, E.R, ?_, ?_, rfl, ix⟩
  ·rw [run_callFunc_extern (fn := Tryz.f277) (by kernel_rfl) (by kernel_rfl) (by kernel_rfl) (by kernel_rfl) (e := Extern.Atomic.loadT (.int .i64)) (by kernel_rfl), run_load_entry hcell]
   rfl
  ·show RepH G ⟨E.β, [.vals [.c (.int false .i64 x), .c (.int false .i64 y)]], E.w, E.R⟩
   rw [<- hE]; exact hrep
  ·show Ext E ⟨E.β, [.vals [.c (.int false .i64 x), .c (.int false .i64 y)]], E.w, E.R⟩
   rw [<- hE]; exact Ext.refl E
 ·rename_i x y;obtain ⟨rfl, rfl⟩ := Prod.mk.inj (val_ret hr);have hB : getB E.H 0 = .vals [.c (.int false .i64 x), .c (.int false .i64 y)] := by rw [hE]; rfl
  obtain ⟨k, c, e, hk, hc, hcl, ix, iy⟩ := mB_cells hrep hB;obtain ⟨u0, _, e0, ⟨_, hp⟩, e2⟩ := hvs;unfold RelPtr at hp;rw [hB] at hp;obtain ⟨⟨kb, hk', rfl⟩, _⟩ := hp;rw [hk] at hk';obtain rfl := smI hk';subst e2;obtain rfl : us = #[.pointer (some ⟨k, 1, none⟩)] := by cases us; simp_all
  have hcell : E.w.cell? ⟨k, 1, none⟩ = some (.int .i64 y) := by
   have : c[1]? = some (.int .i64 y) := by rw [<- Array.getElem?_toList, hcl]; rfl
   simp [World.cell?, hc, this]
  refine ⟨.int .i64 y, E.w, ?_, E.β, E.R, ?_, ?_, rfl, iy⟩
  ·rw [run_callFunc_extern (fn := Tryz.f277) (by kernel_rfl) (by kernel_rfl) (by kernel_rfl) (by kernel_rfl) (e := Extern.Atomic.loadT (.int .i64)) (by kernel_rfl), run_load_entry hcell]
   rfl
  ·show RepH G ⟨E.β, [.vals [.c (.int false .i64 x), .c (.int false .i64 y)]], E.w, E.R⟩
   rw [<- hE]; exact hrep
  ·show Ext E ⟨E.β, [.vals [.c (.int false .i64 x), .c (.int false .i64 y)]], E.w, E.R⟩
   rw [<- hE]; exact Ext.refl E
 ·cases hr
noncomputable def L4 : Tab := (L3.put 276 0 TAddO).put 277 0 TLoadO
theorem okL4 : SpecOk Tryz.prog L4 := (okL3.put ok_AddO).put ok_LoadO
theorem ai_0 (x y d : Int) (l1 l2 : Bool) : (bodyT L4 Tryz.prog allLoops Tryz.f253 (cd Tryz.f253) [.c (.ptr 0 0 0 0 0 0), .c (.int false .i64 d)] [.vals [.c (.int l1 .i64 x), .c (.int l2 .i64 y)]]).path [] = some ([], .one (.c (.int false .i64 (iw (x + d)))), [mB (iw (x + d)) y]) := by kernel_rfl
theorem ai_1 (x y d : Int) (l1 l2 : Bool) : (bodyT L4 Tryz.prog allLoops Tryz.f253 (cd Tryz.f253) [.c (.ptr 0 0 0 1 0 0), .c (.int false .i64 d)] [.vals [.c (.int l1 .i64 x), .c (.int l2 .i64 y)]]).path [] = some ([], .one (.c (.int false .i64 (iw (y + d)))), [mB x (iw (y + d))]) := by kernel_rfl
theorem ok_I64AddO : EntryOk Tryz.prog G0 253 TAddO := by
 refine EntryOk.sub (bodyT_ok okL4 mx (un := allLoops) (fn := Tryz.f253) (c := cd Tryz.f253) (by kernel_rfl) (by kernel_rfl) (by kernel_rfl)).unlit (fun vs hl r ok h => ?_)
 unfold TAddO at h;split at h
 ·rename_i l d l1 x l2 y;obtain rfl := val_ret h;exact Tree.path_val (ai_0 x y d l1 l2)
 ·rename_i l d l1 x l2 y;obtain rfl := val_ret h;exact Tree.path_val (ai_1 x y d l1 l2)
 ·cases h
theorem lo_0 (x y : Int) : (bodyT L4 Tryz.prog allLoops Tryz.f254 (cd Tryz.f254) [.c (.ptr 0 0 0 0 0 0)] [mB x y]).path [] = some ([], .one (.c (.int false .i64 x)), [mB x y]) := by kernel_rfl
theorem lo_1 (x y : Int) : (bodyT L4 Tryz.prog allLoops Tryz.f254 (cd Tryz.f254) [.c (.ptr 0 0 0 1 0 0)] [mB x y]).path [] = some ([], .one (.c (.int false .i64 y)), [mB x y]) := by kernel_rfl
theorem ok_I64LoadO : EntryOk Tryz.prog G0 254 TLoadO := by
 refine EntryOk.sub (bodyT_ok okL4 mx (un := allLoops) (fn := Tryz.f254) (c := cd Tryz.f254) (by kernel_rfl) (by kernel_rfl) (by kernel_rfl)) (fun vs hl r ok h => ?_)
 unfold TLoadO at h;split at h
 ·rename_i x y;obtain rfl := val_ret h;exact Tree.path_val (lo_0 x y)
 ·rename_i x y;obtain rfl := val_ret h;exact Tree.path_val (lo_1 x y)
 ·cases h
noncomputable def L5 : Tab := (L4.put 253 0 TAddO).put 254 0 TLoadO
theorem okL5 : SpecOk Tryz.prog L5 := (okL4.put ok_I64AddO).put ok_I64LoadO
def TmaddO (vs : List V1) (hl : Heap) : Tree (SV × Heap) :=
 match vs, hl with
 | [.c (.ptr 0 0 0 0 0 0), .g [.ws .u64 4 p], .g [.ws .u64 4 q]], [.vals [.c (.int _ .i64 x), .c (.int _ .i64 y)]] => .ret (.one (ws (limbs ((val p + val q) % ell))), [mB (iw (x + 1)) y])
 | _, _ => .fail
def TmdoubleO (vs : List V1) (hl : Heap) : Tree (SV × Heap) :=
 match vs, hl with
 | [.c (.ptr 0 0 0 0 0 0), .g [.ws .u64 4 p]], [.vals [.c (.int _ .i64 x), .c (.int _ .i64 y)]] => .ret (.one (ws (limbs ((val p + val p) % ell))), [mB x (iw (y + 1))])
 | _, _ => .fail
def TmcostO (vs : List V1) (hl : Heap) : Tree (SV × Heap) :=
 match vs, hl with
 | [.c (.ptr 0 0 0 0 0 0)], [.vals [.c (.int false .i64 x), .c (.int false .i64 y)]] => .ret (.one (.g [.c (.int false .i64 x), .c (.int false .i64 y)]), [mB x y])
 | _, _ => .fail
theorem mo_1 (p q : List Int) (x y : Int) (l1 l2 : Bool) : (bodyT L5 Tryz.prog allLoops Tryz.f231 (cd Tryz.f231) [.c (.ptr 0 0 0 0 0 0), ws p, ws q] [.vals [.c (.int l1 .i64 x), .c (.int l2 .i64 y)]]).path [] = some ([], .one (ws (limbs ((val p + val q) % ell))), [mB (iw (x + 1)) y]) := by kernel_rfl
theorem mo_2 (p : List Int) (x y : Int) (l1 l2 : Bool) : (bodyT L5 Tryz.prog allLoops Tryz.f232 (cd Tryz.f232) [.c (.ptr 0 0 0 0 0 0), ws p] [.vals [.c (.int l1 .i64 x), .c (.int l2 .i64 y)]]).path [] = some ([], .one (ws (limbs ((val p + val p) % ell))), [mB x (iw (y + 1))]) := by kernel_rfl
theorem mo_3 (x y : Int) : (bodyT L5 Tryz.prog allLoops Tryz.f234 (cd Tryz.f234) [.c (.ptr 0 0 0 0 0 0)] [mB x y]).path [] = some ([], .one (.g [.c (.int false .i64 x), .c (.int false .i64 y)]), [mB x y]) := by kernel_rfl
theorem ok_maddO : EntryOk Tryz.prog G0 231 TmaddO := by
 refine EntryOk.sub (bodyT_ok okL5 mx (un := allLoops) (fn := Tryz.f231) (c := cd Tryz.f231) (by kernel_rfl) (by kernel_rfl) (by kernel_rfl)) (fun vs hl r ok h => ?_)
 unfold TmaddO at h;split at h
 ·rename_i p q l1 x l2 y;obtain rfl := val_ret h;exact Tree.path_val (mo_1 p q x y l1 l2)
 ·cases h
theorem ok_mdoubleO : EntryOk Tryz.prog G0 232 TmdoubleO := by
 refine EntryOk.sub (bodyT_ok okL5 mx (un := allLoops) (fn := Tryz.f232) (c := cd Tryz.f232) (by kernel_rfl) (by kernel_rfl) (by kernel_rfl)) (fun vs hl r ok h => ?_)
 unfold TmdoubleO at h;split at h
 ·rename_i p l1 x l2 y;obtain rfl := val_ret h;exact Tree.path_val (mo_2 p x y l1 l2)
 ·cases h
theorem ok_mcostO : EntryOk Tryz.prog G0 234 TmcostO := by
 refine EntryOk.sub (bodyT_ok okL5 mx (un := allLoops) (fn := Tryz.f234) (c := cd Tryz.f234) (by kernel_rfl) (by kernel_rfl) (by kernel_rfl)) (fun vs hl r ok h => ?_)
 unfold TmcostO at h;split at h
 ·rename_i x y;obtain rfl := val_ret h;exact Tree.path_val (mo_3 x y)
 ·cases h
noncomputable def L6 : Tab := ((L5.put 231 0 TmaddO).put 232 0 TmdoubleO).put 234 0 TmcostO
theorem okL6 : SpecOk Tryz.prog L6 := ((okL5.put ok_maddO).put ok_mdoubleO).put ok_mcostO
end Go.Sc
