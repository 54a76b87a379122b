/- SX, part 16: conversions, copy. -/
import Derived.Test.YtdblbibjggeikaaGreatDoorA6
import Derived.Laws.BytesString
import Derived.Laws.IdiomStrings
import Derived.StepT
set_option linter.unusedSectionVars false
set_option linter.unusedVariables false
set_option linter.unusedSimpArgs false
namespace Go.SX
open Go
variable {G : GlobT} {E : Env} {P : Program}
theorem convT_sound (hE : RepH G E) {look : Look} (hk : LookOk E look) {nid : Nat} (hn : fresh1 E nid) {src dst : TypeId} {x : SV} {u : Value} {r : Res} (hx : RelS E x u) (h : (convT P look nid src dst x).val = some r) : SemOk P G E (convert src dst u) r := by
 unfold convT at h;split at h
 ·rename_i k' k l kk n hs hd;obtain rfl := val_ret h;obtain ⟨rfl, _⟩ := hx;exact SemOk.pure hE (u := .int k (k.wrap n)) (by simp [convert, run_underlying hs, run_underlying hd, Conv.intToInt]) ⟨rfl, inK_wrap _ _⟩
 ·cases h
end Go.SX
namespace Go.SX
open Go
variable {P : Program} {G : GlobT} {E : Env}
theorem rep_rel {fs : List FCell} {vs : List Value} (h : RelFs E fs vs) : ∀ n, RelFs E (rep fs n) (List.replicate n vs).flatten
 | 0 => rfl
 | n + 1 => by
  rw [List.replicate_succ, List.flatten_cons];exact RelFs.append h (rep_rel h n)
theorem buildSliceV_sound (hE : RepH G E) {nid : Nat} (hn : fresh1 E nid) {T : TypeId} {len : Nat} {ps : List (Nat × SV)} {parts : Array (Nat × Value)} {r : Res} (hp : RelPs E ps parts.toList) (h : (buildSliceV P nid T len ps).val = some r) :
  SemOk P G E (Instr.buildSlice T len parts) r := by
 unfold buildSliceV at h;split at h
 ·rename_i e hT;split at h
  ·cases h
  ·rename_i z hz;split at h
   ·rename_i hs;obtain ⟨hs1, hs2, hs3, hs4⟩ := hs;obtain ⟨fs, hf, h⟩ := val_opt h;obtain rfl := val_ret h;obtain ⟨v, _, hv, i, hi, hiz⟩ := zeroF_rel (E := E) hz;have hvl : v.cells.size = 1 := by
     have := RelFs.len hv
     rw [Array.length_toList] at this;omega
    have hsz : i.size = 1 := by simpa [Program.cellsOf, hi] using hs2
    have hzc : (Array.range (len * 1)).map (v.cells[· % v.cells.size]!) = ((List.replicate len v.cells.toList).flatten).toArray := by
     apply Array.ext'; rw [range_zero_cells hvl (by omega)]
    obtain ⟨cells, g1, g2⟩ := putAll_sound hf hp (cells := ((List.replicate len v.cells.toList).flatten).toArray) (by simpa using rep_rel hv len)
    have hrun := run_buildSlice (P := P) (parts := parts) (cells := cells) (len := len) hT hi hiz hs2 (by omega) (by omega) (by rw [hzc]; exact g1) (fun h0 => by omega) (fun h0 => by omega) E.w
    refine ⟨_, _, hrun, ?_⟩
    obtain ⟨q1, q2⟩ := env_alloc hE hn.1 hn.2 (w' := E.w.alloc (.cells cells e)) (c := cells) (e := e) (fz := (0, 0)) (same_alloc _ _) rfl (noFzV0 _) (blk := .vals fs) g2;refine ⟨_, _, q1, q2, trivial, ?_⟩
    unfold RelSla;rw [show getB (setBs E.H [(nid, Blk.vals fs)]) nid = _ from getB_setB_same hn.1]
    exact ⟨_, _, rfl, Nat.le_refl _, by omega, Nat.zero_add _, .inr ⟨E.w.heap.size, if_pos rfl, rfl⟩⟩
   ·cases h
 ·cases h
theorem capT_sound (hE : RepH G E) {args : List SV} {types : Array TypeId} {vs : Array Value} {ty : TypeId} {r : Res} (ha : RelTs E args vs.toList) (h : (capT P args types.toList).val = some r) :
  SemOk P G E (Builtin.cap_ types ty vs) r := by
 unfold capT at h;cases h
theorem copyT_sound (hE : RepH G E) {look : Look} (hk : LookOk E look) {args : List SV} {types : Array TypeId} {vs : Array Value} {ty : TypeId} {r : Res} (ha : RelTs E args vs.toList) (h : (copyT P look args types.toList).val = some r) :
  SemOk P G E (Builtin.copy_ types ty vs) r := by
 unfold copyT at h;cases h
theorem clearT_sound (hE : RepH G E) {look : Look} (hk : LookOk E look) {args : List SV} {types : Array TypeId} {vs : Array Value} {ty : TypeId} {r : Res} (ha : RelTs E args vs.toList) (h : (clearT P look args types.toList).val = some r) :
  SemOk P G E (Builtin.clear_ types ty vs) r := by
 unfold clearT at h;cases h
end Go.SX
namespace Go.SX
open Go
variable {P : Program}
inductive Kd where
 | own | lock | off
 deriving DecidableEq
def offO : Obj := .number ⟨0, 0, none⟩ false
def ghO : Kd -> Obj -> Obj
 | .own, .cells c e fz => .cells c e fz
 | .lock, .cells c e _ => .cells c e (0, c.size)
 | _, _ => offO
def ghost (M : Nat -> Kd) (w : World) : World := { w with heap := w.heap.mapIdx fun k o => ghO (M k) o }
theorem ghost_get (M : Nat -> Kd) (w : World) (k : Nat) : (ghost M w).heap[k]? = (w.heap[k]?).map (ghO (M k)) := by
 simp [ghost]
theorem ghost_size (M : Nat -> Kd) (w : World) : (ghost M w).heap.size = w.heap.size := by simp [ghost]
theorem world_ext {v w : World} (h1 : ∀ k : Nat, v.heap[k]? = w.heap[k]?) (h2 : v.tape = w.tape) (h3 : v.drawn = w.drawn) (h4 : v.os = w.os) (h5 : v.output = w.output) : v = w := by
 cases v; cases w
 simp only at h1 h2 h3 h4 h5
 subst h2 h3 h4 h5;have := Array.ext_getElem? h1
 subst this;rfl
def EvOk (M : Nat -> Kd) (w : World) (e : Event) : Prop :=
 (∃ a, e.loc = .cell a /\ a.block < w.heap.size /\ M a.block ≠ .off /\ (e.write = true -> M a.block = .own)) \/ (e.loc = .mark .noRoom) \/ ∃ f, e.loc = .mark (.extern f)
theorem EvOk.mono {M : Nat -> Kd} {w w' : World} {e : Event} (h : EvOk M w e) (hs : w.heap.size <= w'.heap.size) : EvOk M w' e := by
 rcases h with ⟨a, h1, h2, h3⟩ | h
 ·exact .inl ⟨a, h1, Nat.lt_of_lt_of_le h2 hs, h3⟩
 ·exact .inr h
structure Stood (M : Nat -> Kd) (w w' : World) : Prop where
 size : w.heap.size <= w'.heap.size
 off : ∀ k, k < w.heap.size -> M k ≠ .own -> w'.heap[k]? = w.heap[k]?
 os : w'.os = w.os
 tape : w'.tape = w.tape
 output : w'.output = w.output
theorem Stood.refl {M : Nat -> Kd} (w : World) : Stood M w w := ⟨Nat.le_refl _, fun _ _ _ => rfl, rfl, rfl, rfl⟩
theorem Stood.trans {M : Nat -> Kd} {a b c : World} (h : Stood M a b) (h' : Stood M b c) : Stood M a c :=
 ⟨Nat.le_trans h.size h'.size, fun k hk hm => (h'.off k (Nat.lt_of_lt_of_le hk h.size) hm).trans (h.off k hk hm), h'.os.trans h.os, h'.tape.trans h.tape, h'.output.trans h.output⟩
def Fit (M : Nat -> Kd) (w : World) : Prop := ∀ k, w.heap.size <= k -> M k = .own
theorem Fit.kept {M : Nat -> Kd} {w w' : World} (h : Fit M w) (hk : Stood M w w') : Fit M w' := fun k h' => h k (Nat.le_trans hk.size h')
def Obl {α : Type} (P : Program) (v : World) (s : Sem α) : Prop :=
 ∀ (M : Nat -> Kd) (w : World), ghost M w = v -> Fit M w -> ∀ (es es' : Array Event) (a : α) (v' : World), s.runT P v es = (.ok a v', es') ->
  ∃ w' new, s.runT P w es = (.ok a w', es') /\ ghost M w' = v' /\ Stood M w w' /\ es' = es ++ new /\ ∀ e ∈ new, EvOk M w' e
def Dead {α : Type} (P : Program) : Sem α -> Prop
 | .pure _ => False
 | .load _ _ k => ∀ v, Dead P (k v)
 | .store _ _ _ k => Dead P k
 | .new _ k => ∀ r, Dead P (k r)
 | .shape _ k => ∀ s, Dead P (k s)
 | .freeze _ _ k => Dead P k
 | .frozen _ k => ∀ b, Dead P (k b)
 | .getObj _ k => ∀ o, Dead P (k o)
 | .setObj _ _ k => Dead P k
 | .choose _ k => ∀ n, Dead P (k n)
 | .sys _ k => ∀ r, Dead P (k r)
 | .program k => Dead P (k P)
 | .mark _ k => Dead P k
 | .halt _ => True
def okMark : Mark -> Bool
 | .noRoom => true
 | .extern _ => true
 | _ => false
def Blind {α : Type} (P : Program) : Sem α -> Prop
 | .pure _ => True
 | .load _ _ k => ∀ v, Blind P (k v)
 | .store _ _ _ k => Blind P k
 | .new o k => ((∃ c e fz, o = .cells c e fz) /\ ∀ r, Blind P (k r)) \/ ∀ r, Dead P (k r)
 | .shape _ k => ∀ s, Dead P (k s)
 | .freeze _ _ k => Dead P k
 | .frozen _ k => ∀ b, Dead P (k b)
 | .getObj _ k => ∀ o, Dead P (k o)
 | .setObj _ _ k => Dead P k
 | .choose _ k => ∀ n, Blind P (k n)
 | .sys _ k => ∀ r, Dead P (k r)
 | .program k => Blind P (k P)
 | .mark m k => (okMark m = true /\ Blind P k) \/ Dead P k
 | .halt _ => True
theorem runT_store {α : Type} (m : Mode) (a : Addr) (v : Value) (k : Sem α) : (∀ (w : World) (es : Array Event), ∃ h, (Sem.store m a v k).runT P w es = (.halt h w, es)) \/
  (∀ (w : World) (es : Array Event), (Sem.store m a v k).runT P w es = (match w.cell? a with
   | some _ => if w.frozen? a then (.halt (.unsupported (.unsafePointer "a write to bytes that a string shares")) w, es) else k.runT P (w.setCell a v) (es.push ⟨.cell a, true, m == .atomic⟩)
   | none => match w.farStore P a v (m == .atomic) with
    | .ok (w, touched) => k.runT P w (es ++ touched.toArray.map (⟨.cell ·, true, m == .atomic⟩))
    | .error h => (.halt h w, es))) := by
 cases v <;> first | exact .inr (fun _ _ => rfl) | exact .inl (fun _ _ => ⟨_, rfl⟩)
theorem Dead.not_ok {α : Type} : ∀ {s : Sem α}, Dead P s -> ∀ {w w' : World} {es es' : Array Event} {a : α}, s.runT P w es ≠ (.ok a w', es')
 | .pure _, h, _, _, _, _, _, _ => h
 | .load m a k, h, w, w', es, es', x, he => by
  simp only [Sem.runT] at he;split at he
  ·exact (h _).not_ok he
  ·split at he
   ·exact (h _).not_ok he
   ·cases he
 | .store m a v k, h, w, w', es, es', x, he => by
  have h : Dead P k := h
  rcases runT_store (P := P) m a v k with e | e
  ·obtain ⟨hh, e⟩ := e w es;rw [e] at he; cases he
  ·rw [e w es] at he;split at he
   ·split at he
    ·cases he
    ·exact h.not_ok he
   ·split at he
    ·exact h.not_ok he
    ·cases he
 | .new o k, h, w, w', es, es', x, he => (h _).not_ok he
 | .shape r k, h, w, w', es, es', x, he => (h _).not_ok he
 | .freeze a n k, h, w, w', es, es', x, he => Dead.not_ok (s := k) h he
 | .frozen a k, h, w, w', es, es', x, he => (h _).not_ok he
 | .getObj r k, h, w, w', es, es', x, he => by
  simp only [Sem.runT] at he;split at he
  ·cases he
  ·exact (h _).not_ok he
  ·cases he
 | .setObj r o k, h, w, w', es, es', x, he => by
  have h : Dead P k := h
  simp only [Sem.runT] at he;split at he
  ·cases he
  ·exact h.not_ok he
  ·cases he
 | .choose q k, h, w, w', es, es', x, he => by
  simp only [Sem.runT] at he;split at he
  ·exact (h _).not_ok he
  ·exact (h _).not_ok he
 | .sys c k, h, w, w', es, es', x, he => (h _).not_ok he
 | .program k, h, w, w', es, es', x, he => Dead.not_ok (s := k P) h he
 | .mark m k, h, w, w', es, es', x, he => Dead.not_ok (s := k) h he
 | .halt _, _, w, w', es, es', x, he => by cases he
section
variable {M : Nat -> Kd} {w : World}
theorem gh_cells {k : Nat} {c : Array Value} {e : TypeId} {fz : Nat × Nat} (h : (ghost M w).heap[k]? = some (.cells c e fz)) : ∃ fz', w.heap[k]? = some (.cells c e fz') /\ ((M k = .own /\ fz' = fz) \/ (M k = .lock /\ fz = (0, c.size))) := by
 rw [ghost_get] at h;obtain ⟨o, ho, h⟩ := Option.map_eq_some_iff.1 h;cases hm : M k with
 | own =>
  rw [hm] at h;cases o <;> simp only [ghO, offO] at h <;> first | cases h | skip
  exact ⟨_, ho, .inl ⟨rfl, rfl⟩⟩
 | lock =>
  rw [hm] at h;cases o <;> simp only [ghO, offO] at h <;> first | cases h | skip
  exact ⟨_, ho, .inr ⟨rfl, rfl⟩⟩
 | off =>
  rw [hm] at h;cases o <;> simp only [ghO, offO] at h <;> cases h
theorem gh_cell {a : Addr} {v : Value} (h : (ghost M w).cell? a = some v) : w.cell? a = some v /\ M a.block ≠ .off /\ a.block < w.heap.size := by
 unfold World.cell? at h ⊢;split at h
 ·rename_i c e fz hc;obtain ⟨fz', h1, h2⟩ := gh_cells hc;rw [h1];exact ⟨h, by rcases h2 with ⟨h2, _⟩ | ⟨h2, _⟩ <;> rw [h2] <;> decide, (Array.getElem?_eq_some_iff.1 h1).1⟩
 ·cases h
theorem gh_noview (k : Nat) (a : Addr) (t : TypeId) : (ghost M w).heap[k]? ≠ some (.view a t) := by
 rw [ghost_get];intro h;obtain ⟨o, ho, h⟩ := Option.map_eq_some_iff.1 h;cases hm : M k <;> rw [hm] at h <;> cases o <;> simp only [ghO, offO] at h <;> cases h
theorem gh_far {a : Addr} {b : Bool} {x : Value × List Addr} : (ghost M w).farLoad P a b ≠ .ok x := by
 unfold World.farLoad;split
 ·rename_i h; exact absurd h (gh_noview _ _ _)
 ·intro h; cases h
theorem gh_farS {a : Addr} {v : Value} {b : Bool} {x : World × List Addr} : (ghost M w).farStore P a v b ≠ .ok x := by
 unfold World.farStore;split
 ·rename_i h; exact absurd h (gh_noview _ _ _)
 ·intro h; cases h
theorem gh_own {a : Addr} {v : Value} (h : (ghost M w).cell? a = some v) (hz : (ghost M w).frozen? a = false) : M a.block = .own /\ w.frozen? a = false := by
 unfold World.cell? at h;unfold World.frozen? at hz ⊢;split at h
 ·rename_i c e fz hc;obtain ⟨fz', h1, h2⟩ := gh_cells hc;rw [hc] at hz;rw [h1];rcases h2 with ⟨h2, rfl⟩ | ⟨h2, rfl⟩
  ·exact ⟨h2, hz⟩
  ·exfalso;split at h
   ·cases h
   ·have := (Array.getElem?_eq_some_iff.1 h).1
    simp only [Bool.and_eq_false_iff, decide_eq_false_iff_not] at hz;omega
 ·cases h
theorem gh_set {a : Addr} {v : Value} (hm : M a.block = .own) : ghost M (w.setCell a v) = (ghost M w).setCell a v := by
 refine world_ext (fun k => ?_) rfl rfl rfl rfl
 rw [ghost_get]
 show Option.map (ghO (M k)) ((w.heap.modify a.block _)[k]?) = ((ghost M w).heap.modify a.block _)[k]?
 rw [Array.getElem?_modify, Array.getElem?_modify, ghost_get]
 split
 ·rename_i e;subst e;cases hk : w.heap[a.block]? with
  | none => rfl
  | some o =>
   simp only [Option.map_some, hm];cases o <;> rfl
 ·rfl
theorem gh_push (hf : Fit M w) {c : Array Value} {e : TypeId} {fz : Nat × Nat} : ghost M { w with heap := w.heap.push (.cells c e fz) } = { ghost M w with heap := (ghost M w).heap.push (.cells c e fz) } := by
 refine world_ext (fun k => ?_) rfl rfl rfl rfl
 rw [ghost_get]
 show Option.map (ghO (M k)) ((w.heap.push _)[k]?) = ((ghost M w).heap.push _)[k]?
 rw [Array.getElem?_push, Array.getElem?_push, ghost_size, ghost_get]
 split
 ·rename_i e;subst e;rw [hf _ (Nat.le_refl _)];rfl
 ·rfl
end
theorem push_new (es : Array Event) (e : Event) : es.push e = es ++ #[e] := by simp
theorem Blind.obl {α : Type} : ∀ {s : Sem α}, Blind P s -> ∀ {v : World}, Obl P v s
 | .pure a, _, v, M, w, hv, hf, es, es', x, v', he => by
  cases he
  exact ⟨w, #[], rfl, hv, Stood.refl w, by simp, by simp⟩
 | .load m a k, h, v, M, w, hv, hf, es, es', x, v', he => by
  subst hv;simp only [Sem.runT] at he ⊢;split at he
  ·rename_i u hu;obtain ⟨h1, h2, h2'⟩ := gh_cell hu;rw [h1];obtain ⟨w', new, q1, q2, q3, q4, q5⟩ := (h u).obl M w rfl hf _ _ _ _ he;refine ⟨w', #[⟨.cell a, false, m == .atomic⟩] ++ new, q1, q2, q3, by rw [q4, push_new, Array.append_assoc], fun e hm => ?_⟩
   rcases Array.mem_append.1 hm with hm | hm
   ·simp only [List.mem_toArray, List.mem_cons, List.not_mem_nil, or_false] at hm;subst hm;exact .inl ⟨a, rfl, Nat.lt_of_lt_of_le h2' q3.size, h2, fun h => by cases h⟩
   ·exact q5 e hm
  ·split at he
   ·rename_i hq; exact absurd hq gh_far
   ·cases he
 | .store m a u k, h, v, M, w, hv, hf, es, es', x, v', he => by
  subst hv;have h : Blind P k := h
  rcases runT_store (P := P) m a u k with e | e
  ·obtain ⟨hh, e⟩ := e (ghost M w) es;rw [e] at he; cases he
  ·rw [e (ghost M w) es] at he;rw [e w es];split at he
   ·rename_i z hz;split at he
    ·cases he
    ·rename_i hfz;obtain ⟨g1, g2⟩ := gh_own hz (by simpa using hfz)
     obtain ⟨g3, _, g4⟩ := gh_cell hz;rw [g3];simp only [g2, Bool.false_eq_true, if_false];rw [<- gh_set g1] at he;have hsz : (w.setCell a u).heap.size = w.heap.size := by simp [World.setCell]
     obtain ⟨w', new, q1, q2, q3, q4, q5⟩ := h.obl M (w.setCell a u) rfl (fun k hk => hf k (by rw [<- hsz]; exact hk)) _ _ _ _ he
     refine ⟨w', #[⟨.cell a, true, m == .atomic⟩] ++ new, q1, q2, Stood.trans ⟨Nat.le_of_eq hsz.symm, fun k hk hm => ?_, rfl, rfl, rfl⟩ q3, by rw [q4, push_new, Array.append_assoc], fun e' hm => ?_⟩
     ·show (w.heap.modify a.block _)[k]? = _
      rw [Array.getElem?_modify, if_neg (fun h => hm (by rw [<- h]; exact g1))]
     ·rcases Array.mem_append.1 hm with hm | hm
      ·simp only [List.mem_toArray, List.mem_cons, List.not_mem_nil, or_false] at hm;subst hm;exact .inl ⟨a, rfl, Nat.lt_of_lt_of_le (by rw [hsz]; exact g4) q3.size, by rw [g1]; decide, fun _ => g1⟩
      ·exact q5 e' hm
   ·split at he
    ·rename_i hq; exact absurd hq gh_farS
    ·cases he
 | .new o k, h, v, M, w, hv, hf, es, es', x, v', he => by
  subst hv;rcases h with ⟨⟨c, e, fz, rfl⟩, h⟩ | h
  rotate_left
  ·exact absurd he (h _).not_ok
  simp only [Sem.runT] at he ⊢;rw [ghost_size, <- gh_push hf] at he;have hf' : Fit M { w with heap := w.heap.push (.cells c e fz) } := fun k hk => hf k (by simp at hk; omega)
  obtain ⟨w', new, q1, q2, q3, q4, q5⟩ := (h w.heap.size).obl M _ rfl hf' _ _ _ _ he;exact ⟨w', new, q1, q2, Stood.trans (b := { w with heap := w.heap.push (.cells c e fz) }) ⟨by simp, fun k hk _ => by simp [Array.getElem?_push, Nat.ne_of_lt hk], rfl, rfl, rfl⟩ q3, q4, q5⟩
 | .shape r k, h, v, M, w, hv, hf, es, es', x, v', he => absurd he (h _).not_ok
 | .freeze a n k, h, v, M, w, hv, hf, es, es', x, v', he => absurd he (Dead.not_ok (s := k) h)
 | .frozen a k, h, v, M, w, hv, hf, es, es', x, v', he => absurd he (h _).not_ok
 | .getObj r k, h, v, M, w, hv, hf, es, es', x, v', he => by
  simp only [Sem.runT] at he;split at he
  ·cases he
  ·exact absurd he (h _).not_ok
  ·cases he
 | .setObj r o k, h, v, M, w, hv, hf, es, es', x, v', he => by
  have h : Dead P k := h
  simp only [Sem.runT] at he;split at he
  ·cases he
  ·exact absurd he h.not_ok
  ·cases he
 | .choose q k, h, v, M, w, hv, hf, es, es', x, v', he => by
  subst hv;simp only [Sem.runT] at he ⊢;split at he
  ·rename_i hq;rw [if_pos hq];exact (h 0).obl M w rfl hf _ _ _ _ he
  ·rename_i hq;rw [if_neg hq];obtain ⟨w', new, q1, q2, q3, q4, q5⟩ := (h _).obl M { w with drawn := w.drawn + 1 } rfl hf _ _ _ _ he
   exact ⟨w', new, q1, q2, ⟨q3.size, q3.off, q3.os, q3.tape, q3.output⟩, q4, q5⟩
 | .sys c k, h, v, M, w, hv, hf, es, es', x, v', he => absurd he (h _).not_ok
 | .program k, h, v, M, w, hv, hf, es, es', x, v', he => Blind.obl (s := k P) h M w hv hf _ _ _ _ he
 | .mark m k, h, v, M, w, hv, hf, es, es', x, v', he => by
  rcases h with ⟨hm, h⟩ | h
  ·obtain ⟨w', new, q1, q2, q3, q4, q5⟩ := Blind.obl (s := k) h M w hv hf _ _ _ _ he;refine ⟨w', #[⟨.mark m, false, true⟩] ++ new, q1, q2, q3, by rw [q4, push_new, Array.append_assoc], fun e hm' => ?_⟩
   rcases Array.mem_append.1 hm' with hm' | hm'
   ·simp only [List.mem_toArray, List.mem_cons, List.not_mem_nil, or_false] at hm';subst hm';cases m with
    | noRoom => exact .inr (.inl rfl)
    | extern f => exact .inr (.inr ⟨f, rfl⟩)
    | _ => cases hm
   ·exact q5 e hm'
  ·exact absurd he (Dead.not_ok (s := k) h)
 | .halt _, _, v, M, w, hv, hf, es, es', x, v', he => by cases he
end Go.SX
