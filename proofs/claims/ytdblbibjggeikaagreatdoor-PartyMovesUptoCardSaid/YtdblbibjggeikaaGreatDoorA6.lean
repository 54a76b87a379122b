/- SX, part 14: append, copy, conversions, stores. -/
import Derived.Test.YtdblbibjggeikaaGreatDoorA5
import Derived.Lib.AppendZeros
set_option linter.unusedSectionVars false
set_option linter.unusedVariables false
set_option linter.unusedSimpArgs false
namespace Go.SX
open Go
variable {G : GlobT} {E : Env} {P : Program}
def ElemRows (E : Env) (t : DTy) (xs : List t.den) (news : List Value) : Prop :=
 news.length = xs.length * t.size /\ ∀ i (h : i < xs.length), ∃ us, RoT E t xs[i] us /\ us.length = t.size /\ ∀ j, j < t.size -> news[i * t.size + j]? = us[j]?
theorem Rows.elems {t : DTy} {xs : List t.den} {c : Array Value} {at_ : Nat} (h : Rows t.size (RoT E t) xs at_ c) (hz : 0 < t.size) : ElemRows E t xs ((c.toList.drop at_).take (xs.length * t.size)) := by
 have hle : xs.length = 0 \/ at_ + xs.length * t.size <= c.size := by
  rcases Nat.eq_zero_or_pos xs.length with h0 | h0
  ·exact .inl h0
  ·right;obtain ⟨us, _, h2, h3⟩ := h (xs.length - 1) (by omega)
   have := h3 (t.size - 1) (by omega)
   have hlt : t.size - 1 < us.length := by omega
   rw [List.getElem?_eq_getElem hlt] at this
   have := (Array.getElem?_eq_some_iff.1 this).1
   have e : xs.length * t.size = (xs.length - 1) * t.size + t.size := by
    rw [<- Nat.succ_mul]; congr 1; omega
   omega
 refine ⟨?_, fun i hi => ?_⟩
 ·have e1 : c.toList.length = c.size := Array.length_toList
  rw [List.length_take, List.length_drop, e1];rcases hle with h0 | h0
  ·rw [h0]; simp
  ·omega
 ·obtain ⟨us, q1, q2, q3⟩ := h i hi;refine ⟨us, q1, q2, fun j hj => ?_⟩
  rw [<- q3 j hj, List.getElem?_take, if_pos (by
   have : (i + 1) * t.size <= xs.length * t.size := Nat.mul_le_mul_right _ hi
   rw [Nat.add_mul] at this;omega), List.getElem?_drop, Array.getElem?_toList]
theorem ElemRows.single {t : DTy} {xs : List t.den} {news : List Value} (h : ElemRows E t xs news) (hz : 0 < t.size) : ∀ v ∈ news, SX.single v := by
 intro v hv;obtain ⟨q, hq, rfl⟩ := List.getElem_of_mem hv;have hi : q / t.size < xs.length := by
  rw [Nat.div_lt_iff_lt_mul hz, <- h.1]; exact hq
 obtain ⟨us, q1, q2, q3⟩ := h.2 (q / t.size) hi;have := q3 (q % t.size) (Nat.mod_lt _ hz)
 rw [Nat.mul_comm (q / t.size), Nat.div_add_mod, List.getElem?_eq_getElem hq, List.getElem?_eq_getElem (by rw [q2]; exact Nat.mod_lt _ hz)] at this
 rw [smI this];exact RoT.single q1 _ (List.getElem_mem _)
structure SrcOk (P : Program) (E : Env) (t : DTy) (u : Value) (xs : List t.den) (news : List Value) : Prop where
 len : ∀ w' : World, (Builtin.lenOf u).run P w' = .ok xs.length w'
 rows : ElemRows E t xs news
 first : ∀ (w' : World) (n : Nat), w'.heap = E.w.heap -> n <= xs.length -> (Builtin.firstCells t.size n u).run P w' = .ok (news.take (n * t.size)).toArray w'
theorem firstCells_at {w : World} {k off len cap n sz : Nat} {news : List Value} (hat : At w k off news) (hn : n * sz <= news.length) :
  (Builtin.firstCells sz n (.slice (some ⟨k, off, none⟩) len cap)).run P w = .ok (news.take (n * sz)).toArray w := by
 have := (hat.sub 0 (n * sz)).run (P := P)
 simp only [List.drop_zero, Nat.add_zero, List.length_take, Nat.min_eq_left hn] at this;simp only [Builtin.firstCells];exact this
theorem at_heap {w w' : World} (h : w'.heap = w.heap) {k base : Nat} {vs : List Value} (ha : At w k base vs) : At w' k base vs := fun j v hv => by
 have := ha j v hv
 unfold World.cell? at this ⊢;rw [h]; exact this
theorem rows_at {w : World} {k off sz : Nat} {c : Array Value} {e : TypeId} {fz : Nat × Nat} (hc : w.heap[k]? = some (.cells c e fz)) (m : Nat) : At w k off ((c.toList.drop off).take m) := fun j v hv => by
 rw [cell_of hc];rw [List.getElem?_take] at hv
 split at hv
 ·rw [List.getElem?_drop, Array.getElem?_toList] at hv; exact hv
 ·cases hv
theorem src_rows {t : DTy} {xs : List t.den} {k off len cap : Nat} {c : Array Value} {e : TypeId} {fz : Nat × Nat} (hc : E.w.heap[k]? = some (.cells c e fz)) (hr : Rows t.size (RoT E t) xs off c) (hz : 0 < t.size) (hl : xs.length = len) :
  SrcOk P E t (.slice (some ⟨k, off, none⟩) len cap) xs ((c.toList.drop off).take (xs.length * t.size)) := by
 have hel := hr.elems hz
 refine ⟨fun w' => by rw [hl]; rfl, hel, fun w' n hw hn => ?_⟩
 exact firstCells_at (at_heap hw (rows_at (sz := t.size) hc _)) (by rw [hel.1]; exact Nat.mul_le_mul_right _ hn)
theorem src_empty {t : DTy} {a : Option Addr} {cap : Nat} : SrcOk P E t (.slice a 0 cap) ([] : List t.den) [] := by
 refine ⟨fun w' => rfl, ⟨by simp, fun i hi => by simp at hi⟩, fun w' n hw hn => ?_⟩
 have hn : n = 0 := by simpa using hn
 subst hn;cases a with
 | none => simp [Builtin.firstCells]
 | some a => simp [Builtin.firstCells, loadCells, loadCellsFrom]
theorem take_full {α : Type} {xs : List α} {n : Nat} (h : n <= xs.length) : (xs.take n).length = n := by rw [List.length_take]; omega
theorem Rows.take {sz : Nat} {α : Type} {Q : α -> List Value -> Prop} {xs : List α} {at_ : Nat} {c : Array Value} (h : Rows sz Q xs at_ c) (n : Nat) : Rows sz Q (xs.take n) at_ c := fun i hi => by
 rw [List.length_take] at hi;obtain ⟨us, q1, q2, q3⟩ := h i (by omega)
 exact ⟨us, by rw [List.getElem_take]; exact q1, q2, q3⟩
theorem Rows.drop {sz : Nat} {α : Type} {Q : α -> List Value -> Prop} {xs : List α} {at_ : Nat} {c : Array Value} (h : Rows sz Q xs at_ c) (n : Nat) : Rows sz Q (xs.drop n) (at_ + n * sz) c := fun i hi => by
 rw [List.length_drop] at hi;obtain ⟨us, q1, q2, q3⟩ := h (n + i) (by omega)
 refine ⟨us, by rw [List.getElem_drop]; exact q1, q2, fun j hj => ?_⟩
 rw [<- q3 j hj]; congr 1; rw [Nat.add_mul]; omega
theorem src_sl (hE : RepH G E) {b off len : Nat} {t : DTy} {xs : List t.den} {u : Value} (hb : (∃ lo par, getB E.H b = .arr t xs lo par) \/ getB E.H b = .frz t xs) (hx : RelC E (.sl b off len) u) :
  ∃ news, SrcOk P E t u ((xs.drop off).take len) news := by
 obtain ⟨f1, f2, f3⟩ := hE.fits hb;have hs : SlAt E b t.size off len xs.length u := by
  obtain ⟨_, hx⟩ := hx;unfold RelSl at hx;rcases hb with ⟨lo, par, hb⟩ | hb <;> rw [hb] at hx <;> exact hx
 obtain ⟨a, cap, rfl, h1, h2, h3, h4⟩ := hs;rcases Nat.eq_zero_or_pos len with h0 | h0
 ·subst h0;rw [List.take_zero];exact ⟨[], src_empty⟩
 ·rcases h4 with ⟨h4, h5⟩ | ⟨k, c, e, fz, h4, h5, h6, h7⟩
  ·omega
  ·have h5 := h5.resolve_left (by omega)
   subst h5;obtain ⟨c', e', fz', g1, g2⟩ := blockRows hE hb h4;rw [h6] at g1; cases g1;have hr := (g2.drop off).take len
   rw [Nat.zero_add] at hr;exact ⟨_, src_rows h6 hr f1 (take_full (by rw [List.length_drop]; omega))⟩
theorem src_ro {t : DTy} {xs : List t.den} {len : Nat} {u : Value} (hx : RelC E (.ro t xs len) u) : ∃ news, SrcOk P E t u (xs.take len) news := by
 obtain ⟨a, cap, rfl, h1, h2, h3, h4, h5⟩ := hx;rcases Nat.eq_zero_or_pos len with h0 | h0
 ·subst h0;rw [List.take_zero];exact ⟨[], src_empty⟩
 ·obtain ⟨k, off, c, e, fz, rfl, g2, g3, g4⟩ := h5 (fun e => by rw [e] at h1; simp at h1; omega)
  exact ⟨_, src_rows g3 (g4.take len) h4 (take_full h1)⟩
theorem src_sla (hE : RepH G E) {b o n off len m : Nat} {kd : IntKind} {fs : List FCell} {xs : List Int} {u : Value} (hb : getB E.H b = .vals fs) (hw : wsAt fs o = some (kd, m, xs)) (hm : m = n) (hx : RelC E (.sla b o n off len) u) :
  ∃ news, SrcOk P E (.int kd) u ((xs.drop off).take len : List Int) news := by
 obtain ⟨_, hx⟩ := hx;unfold RelSla at hx;rw [hb] at hx;obtain ⟨a, cap, rfl, h1, h2, h3, h4⟩ := hx;rcases Nat.eq_zero_or_pos len with h0 | h0
 ·subst h0;rw [List.take_zero];exact ⟨[], src_empty⟩
 ·rcases h4 with h4 | ⟨k, h4, rfl⟩
  ·omega
  ·obtain ⟨k', c, e, fz, g1, g2, g3, g4⟩ := hE.vals hb;rw [h4] at g1; obtain rfl := smI g1;obtain ⟨q1, q2, q3, q4⟩ := wsAt_rel hw g4;rw [Array.length_toList] at q4;refine ⟨_, src_rows (t := .int kd) (xs := ((xs.drop off).take len : List Int)) g2 (fun i hi => ?_) (by show 0 < 1; omega) (take_full (by show len <= List.length (List.drop off xs); rw [List.length_drop]; omega))⟩
   have hi' : i < ((xs.drop off).take len).length := hi
   rw [List.length_take, List.length_drop] at hi';have hgi : ∀ (h : i < List.length (α := Int) ((xs.drop off).take len)), (((xs.drop off).take len)[i]'h) = xs[off + i] := fun h => by rw [List.getElem_take, List.getElem_drop]
   have hgi := hgi hi
   refine ⟨[.int kd xs[off + i]], ⟨congrArg (fun z => [Value.int kd z]) hgi.symm, ?_⟩, rfl, fun j hj => ?_⟩
   ·show InK kd (((xs.drop off).take len)[i]'hi)
    rw [hgi]; exact q2 _ (List.getElem_mem _)
   ·have hj : j = 0 := by have : j < 1 := hj; omega
    subst hj;have hq : ((c.toList.drop o).take m)[off + i]? = some (.int kd xs[off + i]) := by
     rw [q3, List.getElem?_map, List.getElem?_eq_getElem (by omega)]; rfl
    rw [List.getElem?_take, if_pos (by omega), List.getElem?_drop, Array.getElem?_toList] at hq
    show c[o + off + (i * 1 + 0)]? = _
    rw [show o + off + (i * 1 + 0) = o + (off + i) from by omega, hq]; rfl
theorem src_str {s : ByteArray} : SrcOk P E (.int .u8) (.string s) (s.data.toList.map fun b => (b.toNat : Int) : List Int) (s.data.toList.map fun b => Value.int .u8 b.toNat) := by
 have hl : (s.data.toList.map fun b => (b.toNat : Int)).length = s.size := (List.length_map _).trans Array.length_toList
 refine ⟨fun w' => by
   show _ = Result.ok (List.length (s.data.toList.map fun b => (b.toNat : Int))) w'
   rw [hl]; rfl, ⟨by show List.length _ = List.length (s.data.toList.map fun b => (b.toNat : Int)) * 1; simp, fun i hi => ?_⟩, fun w' n hw hn => ?_⟩
 ·have hi' : i < (s.data.toList.map fun b => (b.toNat : Int)).length := hi
  rw [List.length_map] at hi';have hgi : ((s.data.toList.map fun b => (b.toNat : Int))[i]'hi) = (s.data.toList[i].toNat : Int) := List.getElem_map _
  refine ⟨[.int .u8 (s.data.toList[i].toNat : Int)], ⟨?_, ?_⟩, rfl, fun j hj => ?_⟩
  ·exact congrArg (fun z => [Value.int .u8 z]) hgi.symm
  ·have := s.data.toList[i].toNat_lt
   show InK .u8 ((s.data.toList.map fun b => (b.toNat : Int))[i]'hi)
   rw [hgi]
   generalize (s.data.toList[i]).toNat = z at this ⊢
   unfold InK;simp only [IntKind.min, IntKind.max, IntKind.signed, IntKind.bits];exact ⟨by simp, by simp; omega⟩
  ·have hj : j = 0 := by have : j < 1 := hj; omega
   subst hj
   show (s.data.toList.map fun b => Value.int .u8 (b.toNat : Int))[i * 1 + 0]? = _
   rw [List.getElem?_map, Nat.mul_one, Nat.add_zero, List.getElem?_eq_getElem hi']; rfl
 ·have hn' : n <= s.size := by rw [<- hl]; exact hn
  simp only [Builtin.firstCells, Sem.run_pure]
  congr 1
  apply Array.ext'
  simp [ByteArray.data_extract, List.extract_eq_take_drop, DTy.size]
theorem elemsOf_sound (hE : RepH G E) {look : Look} (hk : LookOk E look) {t : DTy} {x : SV} {u : Value} {xs : List t.den} (hx : RelS E x u) (h : elemsOf look t x = some xs) : ∃ news, SrcOk P E t u xs news := by
 unfold elemsOf at h;split at h
 ·obtain rfl := smI h;obtain rfl : u = .slice none 0 0 := hx;exact ⟨[], src_empty⟩
 ·obtain ⟨e, he⟩ := castL_eq h;subst e; simp only at he; subst he;exact src_ro hx
 ·split at h
  ·rename_i hb;have hb := hk.eq hb (by intro h; cases h)
   obtain ⟨e, he⟩ := castL_eq h;subst e; simp only at he; subst he;exact src_sl hE (.inl ⟨_, _, hb⟩) hx
  ·rename_i hb;have hb := hk.eq hb (by intro h; cases h)
   obtain ⟨e, he⟩ := castL_eq h;subst e; simp only at he; subst he;exact src_sl hE (.inr hb) hx
  ·cases h
 ·split at h
  ·rename_i hb;have hb := hk.eq hb (by intro h; cases h)
   split at h
   ·rename_i kd m ys hw;split at h
    ·rename_i hm;obtain ⟨e, he⟩ := castL_eq h;subst e; simp only at he; subst he;exact src_sla hE hb hw hm hx
    ·cases h
   ·cases h
  ·cases h
 ·obtain ⟨e, he⟩ := castL_eq h;subst e; simp only at he; subst he;obtain rfl : u = .string _ := hx;exact ⟨_, src_str⟩
 ·cases h
theorem setCells_heap {k : Nat} {e : TypeId} {fz : Nat × Nat} : ∀ (vs : List Value) (o : Nat) (w : World) (c : Array Value), w.heap[k]? = some (.cells c e fz) -> o + vs.length <= c.size ->
  ∃ c', (w.setCells k o vs).heap[k]? = some (.cells c' e fz) /\ c'.toList = c.toList.take o ++ vs ++ c.toList.drop (o + vs.length) /\ c'.size = c.size /\
   (∀ k', k' ≠ k -> (w.setCells k o vs).heap[k']? = w.heap[k']?) /\ (w.setCells k o vs).heap.size = w.heap.size /\ Same w (w.setCells k o vs)
 | [], o, w, c, hc, ho => ⟨c, hc, by simp, rfl, fun _ _ => rfl, rfl, ⟨rfl, rfl, rfl⟩⟩
 | v :: vs, o, w, c, hc, ho => by
  simp only [List.length_cons] at ho;have h1 : (w.setCell ⟨k, o, none⟩ v).heap[k]? = some (.cells (c.setIfInBounds o v) e fz) := by
   simp [World.setCell, Array.getElem?_modify, hc]
  obtain ⟨c', q1, q2, q3, q4, q5, q6⟩ := setCells_heap vs (o + 1) _ _ h1 (by simp; omega)
  refine ⟨c', q1, ?_, by rw [q3]; simp, fun k' hk => ?_, by rw [World.setCells]; rw [q5]; simp [World.setCell], ?_⟩
  ·rw [q2]
   apply List.ext_getElem?
   intro i;simp only [List.getElem?_append, List.length_append, List.length_take, Array.length_toList, Array.size_setIfInBounds, List.getElem?_take, Array.getElem?_toList, List.getElem?_drop, List.length_cons, Array.getElem?_setIfInBounds]
   rw [show min (o + 1) c.size = o + 1 from by omega, show min o c.size = o from by omega]
   rcases Nat.lt_trichotomy i o with h | h | h
   ·rw [if_pos (by omega), if_pos (by omega), if_pos (by omega), if_neg (by omega), if_pos (by omega), if_pos (by omega), if_pos h]
   ·subst h;rw [if_pos (by omega), if_pos (by omega), if_pos (by omega), if_pos rfl, if_pos (by omega), if_pos (by omega), if_neg (by omega)]
    simp
   ·by_cases h2 : i < o + 1 + vs.length
    ·rw [if_pos (by omega), if_neg (by omega), if_pos (by omega), if_neg (by omega)]
     rw [show i - o = (i - (o + 1)) + 1 from by omega, List.getElem?_cons_succ]
    ·rw [if_neg (by omega), if_neg (by omega), if_neg (by omega)]
     congr 1; omega
  ·rw [World.setCells, q4 k' hk];simp only [World.setCell, Array.getElem?_modify]
   rw [if_neg (Ne.symm hk)]
  ·exact ⟨q6.os, q6.tape, q6.output⟩
theorem cells_there {w : World} {k o n : Nat} {c : Array Value} {e : TypeId} {fz : Nat × Nat} (hc : w.heap[k]? = some (.cells c e fz)) (hn : o + n <= c.size) (hz : NoFz fz c.size) :
  (∀ j, j < n -> (w.cell? ⟨k, o + j, none⟩).isSome = true) /\ (∀ j, j < n -> w.frozen? ⟨k, o + j, none⟩ = false) := by
 refine ⟨fun j hj => ?_, fun j hj => ?_⟩
 ·rw [cell_of hc, Array.getElem?_eq_getElem (by omega)]; rfl
 ·have := hz (o + j) (by omega)
  simp only [World.frozen?, hc];rw [Bool.and_eq_false_iff];by_cases h : fz.1 <= o + j
  ·right; simpa using fun h' => this ⟨h, h'⟩
  ·left; simpa using h
theorem rows_of_elems {t : DTy} {xs ys : List t.den} {a b rest : List Value} (hx : ElemRows E t xs a) (hy : ElemRows E t ys b) : Rows t.size (RoT E t) (xs ++ ys) 0 (a ++ b ++ rest).toArray := fun i hi => by
 rw [List.length_append] at hi;by_cases h : i < xs.length
 ·obtain ⟨us, q1, q2, q3⟩ := hx.2 i h;refine ⟨us, by rw [List.getElem_append_left h]; exact q1, q2, fun j hj => ?_⟩
  rw [<- q3 j hj, Nat.zero_add];have hlt : i * t.size + j < a.length := by
   rw [hx.1];have : (i + 1) * t.size <= xs.length * t.size := Nat.mul_le_mul_right _ h
   rw [Nat.add_mul] at this;omega
  simp only [List.getElem?_toArray]
  rw [List.append_assoc, List.getElem?_append_left hlt]
 ·obtain ⟨us, q1, q2, q3⟩ := hy.2 (i - xs.length) (by omega)
  refine ⟨us, by rw [List.getElem_append_right (by omega)]; exact q1, q2, fun j hj => ?_⟩
  rw [<- q3 j hj, Nat.zero_add];have hge : xs.length * t.size <= i * t.size := Nat.mul_le_mul_right _ (by omega)
  have hlt : (i - xs.length) * t.size + j < b.length := by
   rw [hy.1];have : (i - xs.length + 1) * t.size <= ys.length * t.size := Nat.mul_le_mul_right _ (by omega)
   rw [Nat.add_mul] at this;omega
  simp only [List.getElem?_toArray]
  rw [List.append_assoc, List.getElem?_append_right (by rw [hx.1]; omega), hx.1, List.getElem?_append_left (by rw [show i * t.size + j - xs.length * t.size = (i - xs.length) * t.size + j from by rw [Nat.sub_mul]; omega]; exact hlt)]
  congr 1
  rw [Nat.sub_mul]; omega
theorem ElemRows.ext {E' : Env} (hE : RepH G E) (x : Ext E E') {t : DTy} {xs : List t.den} {news : List Value} (h : ElemRows E t xs news) : ElemRows E' t xs news :=
 ⟨h.1, fun i hi => let ⟨us, q1, q2, q3⟩ := h.2 i hi; ⟨us, RoT.ext hE x t _ us q1, q2, q3⟩⟩
theorem elem_nil {t : DTy} : ElemRows E t ([] : List t.den) [] := ⟨by simp, fun i hi => by simp at hi⟩
theorem env_virtual (hE : RepH G E) {nid : Nat} (hn : fresh1 E nid) (t : DTy) (par : List Nat) (hz : 0 < t.size) :
  RepH G ⟨fun b => if b = nid then none else E.β b, setB E.H nid (.arr t [] 0 par), E.w, E.R⟩ /\ Ext E ⟨fun b => if b = nid then none else E.β b, setB E.H nid (.arr t [] 0 par), E.w, E.R⟩ := by
 obtain ⟨hn, hd⟩ := hn;have x : Ext E ⟨fun b => if b = nid then none else E.β b, setB E.H nid (.arr t [] 0 par), E.w, E.R⟩ := {
  os := rfl, tape := rfl, output := rfl, size := Nat.le_refl _, ro := fun _ h => h, rnew := fun _ h => .inl h
  keep := fun k _ _ => rfl
  cells := fun k c e fz h => ⟨c, fz, h, rfl⟩
  blk := fun b => by
   by_cases hbn : b = nid
   ·subst hbn; rw [hd]; cases getB (setB E.H b (.arr t [] 0 par)) b <;> trivial
   ·simp only [getB_setB_ne hbn]; cases getB E.H b <;> simp [BExt, hbn]
  fresh := fun b k h1 h2 => by
   by_cases hbn : b = nid
   ·simp only [hbn, if_true] at h2; cases h2
   ·left; simp only [hbn, if_false] at h2; rw [getB_setB_ne hbn] at h1; exact ⟨b, h1, h2⟩ }
 have hne : ∀ b k, (if b = nid then none else E.β b) = some k -> b ≠ nid /\ E.β b = some k := fun b k h => by
  by_cases hbn : b = nid
  ·rw [if_pos hbn] at h; cases h
  ·rw [if_neg hbn] at h; exact ⟨hbn, h⟩
 refine ⟨⟨fun k hk => ⟨(hE.ro k hk).1, fun b h1 h2 => ?_⟩, fun b b' k h1 h2 h3 h4 => ?_, fun b => ?_, hE.globExt x⟩, x⟩
 ·obtain ⟨g1, g2⟩ := hne b k h2;rw [getB_setB_ne g1] at h1;exact (hE.ro k hk).2 b h1 g2
 ·obtain ⟨g1, g2⟩ := hne b k h3;obtain ⟨g3, g4⟩ := hne b' k h4;rw [getB_setB_ne g1] at h1;rw [getB_setB_ne g3] at h2;exact hE.inj b b' k h1 h2 g2 g4
 ·show RepB _ b (getB (setB E.H nid (.arr t [] 0 par)) b)
  by_cases hbn : b = nid
  ·subst hbn;rw [getB_setB_same hn];exact ⟨Nat.zero_le _, hz, .inl ⟨if_pos rfl, rfl⟩⟩
  ·rw [getB_setB_ne hbn];refine (hE.blk b).ext hE x (if_neg hbn) (fun _ _ _ h => h) (fun t' xs k hf hk b' hl' hb' => ?_)
   obtain ⟨g1, g2⟩ := hne b' k hb';simp only [getB_setB_ne g1] at hl' ⊢;exact hE.shares hf hk hl' g2
theorem srcT_kind {X : TypeId} (h : srcT P X = true) : (∃ e', P.underlying X = some (.slice e')) \/ P.underlying X = some .string := by
 unfold srcT at h;split at h
 ·rename_i e he; exact .inl ⟨e, he⟩
 ·rename_i he; exact .inr he
 ·cases h
theorem SrcOk.src {t : DTy} {u : Value} {xs : List t.den} {news : List Value} (h : SrcOk P E t u xs news) (hz : 0 < t.size) {X : TypeId} (hk : (∃ e', P.underlying X = some (.slice e')) \/ P.underlying X = some .string) : Src P t.size X u xs.length news E.w := by
 have hl : (news.take (xs.length * t.size)) = news := by rw [<- h.rows.1, List.take_length]
 refine ⟨hk, h.len, ?_, ?_, h.rows.1, fun v hv => single_oneCell (h.rows.single hz v hv)⟩
 ·have := h.first E.w xs.length rfl (Nat.le_refl _)
  rwa [hl] at this
 ·have := h.first E.w.drew xs.length rfl (Nat.le_refl _)
  rwa [hl] at this
theorem zeroOk_info {e : TypeId} {t : DTy} (h : zeroOk P e t = true) : ∃ i z, P.info? e = some i /\ i.zero = some z /\ z.cells.size = t.size := by
 unfold zeroOk at h;split at h
 ·cases h
 ·rename_i i hi;split at h
  ·cases h
  ·rename_i z hz;exact ⟨i, z, hi, hz, by simpa using h⟩
theorem room_le {n b : Nat} (h : room n b = true) : n * b <= 140737488355328 := ofD h
theorem grownCap_bounds (w : World) (need old : Nat) (e : TypeId) (h : need <= 140737488355328) : need <= grownCap w need old e /\ grownCap w need old e < 9223372036854775808 := by
 have hlt := Nat.mod_lt (w.tape w.drawn (.appendCap need old e)) (show 0 < 2 ^ 63 - need by omega)
 simp only [grownCap, Question.cut] at hlt ⊢;omega
theorem grow_sound (hE : RepH G E) {E1 : Env} (hx : Ext E E1) (hE1 : RepH G E1) (hw : E1.w = E.w) {nid : Nat} (hn : fresh1 E1 nid) {t : DTy} {ys new : List t.den} {olds news : List Value} (ho : ElemRows E1 t ys olds) (hnw : ElemRows E1 t new news) (hz : 0 < t.size) {e : TypeId} {z : Value} {lo : Nat} {par : List Nat} (hlo : lo <= ys.length)
  (hzs : z.cells.size = t.size) {cap : Nat} (hcap : ys.length + new.length <= cap /\ cap < 9223372036854775808) {w' : World}
  (hw' : w' = E.w.drew.alloc (.cells ((olds ++ news).toArray ++ Builtin.zeroCells z.cells (cap - (ys.length + new.length))) e)) {wr : List (Nat × Blk)} (hH : setBs E.H wr = setB E1.H nid (.arr t (ys ++ new) lo par)) :
  ResR G E (one (.sl nid 0 (ys.length + new.length)), wr) (.slice (some ⟨E.w.heap.size, 0, none⟩) (ys.length + new.length) cap) w' := by
 subst hw';have hsz : ((olds ++ news).toArray ++ Builtin.zeroCells z.cells (cap - (ys.length + new.length))).size = cap * t.size := by
  rw [Array.size_append, List.size_toArray, List.length_append, ho.1, hnw.1, size_zeroCells, hzs, <- Nat.add_mul, <- Nat.add_mul]
  congr 1; omega
 have hrows : Rows t.size (RoT E1 t) (ys ++ new) 0 ((olds ++ news).toArray ++ Builtin.zeroCells z.cells (cap - (ys.length + new.length))) := by
  have := rows_of_elems (rest := (Builtin.zeroCells z.cells (cap - (ys.length + new.length))).toList) ho hnw
  have e2 : (olds ++ news ++ (Builtin.zeroCells z.cells (cap - (ys.length + new.length))).toList).toArray = (olds ++ news).toArray ++ Builtin.zeroCells z.cells (cap - (ys.length + new.length)) := by
   apply Array.ext'; simp
  rwa [e2] at this
 have hs : Same E1.w (E.w.drew.alloc (.cells ((olds ++ news).toArray ++ Builtin.zeroCells z.cells (cap - (ys.length + new.length))) e)) := by rw [hw]; exact ⟨rfl, rfl, rfl⟩
 obtain ⟨h1, h2⟩ := env_alloc hE1 hn.1 hn.2 (blk := .arr t (ys ++ new) lo par) hs (c := (olds ++ news).toArray ++ Builtin.zeroCells z.cells (cap - (ys.length + new.length))) (e := e) (fz := (0, 0)) (by rw [hw]; rfl) (noFzT0 _ _) ⟨by rw [List.length_append]; omega, hz, hrows⟩
 refine ⟨_, _, by rw [hH]; exact h1, by rw [hH]; exact hx.trans h2, ?_⟩
 show RelC _ _ _
 rw [hH];refine ⟨trivial, ?_⟩
 unfold RelSl;rw [show getB (setB E1.H nid (Blk.arr t (ys ++ new) lo par)) nid = _ from getB_setB_same hn.1]
 refine (show SlAt _ nid t.size 0 _ (ys ++ new).length _ from ⟨_, _, rfl, hcap.1, hcap.2, by rw [List.length_append]; omega, .inr ⟨E.w.heap.size, (olds ++ news).toArray ++ Builtin.zeroCells z.cells (cap - (ys.length + new.length)), e, (0, 0), by rw [<- hw]; exact if_pos rfl, .inr (by simp), by show (E.w.heap.push _)[_]? = _; simp, by rw [hsz]; simp⟩⟩)
theorem relC_sl_arr {b off len : Nat} {t : DTy} {xs : List t.den} {lo : Nat} {par : List Nat} {a : Option Addr} {n cap : Nat} (hb : getB E.H b = .arr t xs lo par) (hs : SlAt E b t.size off len xs.length (.slice a n cap)) : RelC E (.sl b off len) (.slice a n cap) := by
 refine ⟨trivial, ?_⟩
 unfold RelSl;rw [hb];exact hs
theorem list_two {α : Type} {a : Array α} {x y : α} (h : a.toList = [x, y]) : a = #[x, y] := by apply Array.ext'; simpa using h
theorem bytesOf_info {e : TypeId} {i : TypeInfo} (h : P.info? e = some i) : P.bytesOf e = i.bytes /\ P.cellsOf e = i.size := by
 simp [Program.bytesOf, Program.cellsOf, h]
theorem env_move (hE : RepH G E) {b nid : Nat} {t : DTy} {xs : List t.den} {lo : Nat} {par : List Nat} (hb : getB E.H b = .arr t xs lo par) (hn : nid < E.H.length) (hd : getB E.H nid = .dead) {m : Nat} (hm : m <= xs.length) (hlo : lo <= m) :
  RepH G ⟨fun q => if q = nid then E.β b else E.β q, setB (setB E.H b .gone) nid (.arr t (xs.take m) lo par), E.w, E.R⟩ /\
  Ext E ⟨fun q => if q = nid then E.β b else E.β q, setB (setB E.H b .gone) nid (.arr t (xs.take m) lo par), E.w, E.R⟩ := by
 have hlb : live (getB E.H b) = true := by rw [hb]; rfl
 have hp : b < E.H.length := getB_len (live_ne_dead hlb)
 have hn' : nid < (setB E.H b .gone).length := by rw [length_setB]; exact hn
 have hrep := hE.blk b
 rw [hb] at hrep;have hget : ∀ q, getB (setB (setB E.H b .gone) nid (.arr t (xs.take m) lo par)) q = if q = nid then .arr t (xs.take m) lo par else if q = b then .gone else getB E.H q := fun q => by
  by_cases h1 : q = nid
  ·subst h1; rw [getB_setB_same hn', if_pos rfl]
  ·rw [getB_setB_ne h1, if_neg h1];by_cases h2 : q = b
   ·subst h2; rw [getB_setB_same hp, if_pos rfl]
   ·rw [getB_setB_ne h2, if_neg h2]
 have hlive : ∀ q, live (getB (setB (setB E.H b .gone) nid (.arr t (xs.take m) lo par)) q) = true -> q = nid \/ (q ≠ nid /\ q ≠ b /\ live (getB E.H q) = true) := fun q h => by
  rw [hget] at h;by_cases h3 : q = nid
  ·exact .inl h3
  ·rw [if_neg h3] at h;by_cases h4 : q = b
   ·rw [if_pos h4] at h; cases h
   ·rw [if_neg h4] at h; exact .inr ⟨h3, h4, h⟩
 have hx : Ext E ⟨fun q => if q = nid then E.β b else E.β q, setB (setB E.H b .gone) nid (.arr t (xs.take m) lo par), E.w, E.R⟩ := {
  os := rfl, tape := rfl, output := rfl, size := Nat.le_refl _, ro := fun _ h => h, rnew := fun _ h => .inl h, keep := fun _ _ _ => rfl
  cells := fun k c e fz h => ⟨c, fz, h, rfl⟩
  blk := fun q => by
   simp only [hget];by_cases h1 : q = nid
   ·subst h1; rw [hd]; trivial
   ·rw [if_neg h1];by_cases h2 : q = b
    ·subst h2; rw [if_pos rfl, hb]; trivial
    ·rw [if_neg h2]; cases getB E.H q <;> simp [BExt, h1]
  fresh := fun q k h1 h2 => by
   rcases hlive q h1 with rfl | ⟨g1, g2, g3⟩
   ·simp only [if_true] at h2; exact .inl ⟨b, hlb, h2⟩
   ·simp only [g1, if_false] at h2; exact .inl ⟨q, g3, h2⟩ }
 refine ⟨⟨fun k hk => ⟨(hE.ro k hk).1, fun q h1 h2 => ?_⟩, fun q q' k h1 h2 h3 h4 => ?_, fun q => ?_, hE.globExt hx⟩, hx⟩
 ·rcases hlive q h1 with rfl | ⟨g1, g2, g3⟩
  ·simp only [if_true] at h2; exact (hE.ro k hk).2 b hlb h2
  ·simp only [g1, if_false] at h2; exact (hE.ro k hk).2 q g3 h2
 ·rcases hlive q h1 with rfl | ⟨g1, g2, g3⟩ <;> rcases hlive q' h2 with rfl | ⟨g4, g5, g6⟩
  ·rfl
  ·simp only [g4, if_true, if_false] at h3 h4;exact (g5 (hE.inj q' b k g6 hlb h4 h3)).elim
  ·simp only [g1, if_true, if_false] at h3 h4;exact (g2 (hE.inj q b k g3 hlb h3 h4)).elim
  ·simp only [g1, g4, if_false] at h3 h4;exact hE.inj q q' k g3 g6 h3 h4
 ·show RepB _ q (getB (setB (setB E.H b .gone) nid (.arr t (xs.take m) lo par)) q)
  rw [hget];by_cases h3 : q = nid
  ·subst h3;rw [if_pos rfl];refine ⟨by rw [List.length_take]; omega, hrep.2.1, ?_⟩
   rcases hrep.2.2 with ⟨h1, h2⟩ | ⟨k', c1, e1, fz1, h1, h2, h4, h5⟩
   ·refine .inl ⟨by simp [h1], by rw [h2]; simp⟩
   ·refine .inr ⟨k', c1, e1, fz1, by simp [h1], h2, h4, fun i hi => ?_⟩
    have hi' : i < xs.length := by rw [List.length_take] at hi; omega
    obtain ⟨us, q1, q2, q3⟩ := h5 i hi';exact ⟨us, by rw [List.getElem_take]; exact RoT.ext hE hx t _ us q1, q2, q3⟩
  ·rw [if_neg h3];by_cases h4 : q = b
   ·rw [if_pos h4]; trivial
   ·rw [if_neg h4];refine (hE.blk q).ext hE hx (if_neg h3) (fun _ _ _ h => h) (fun t' xs' k' hf hk' b' hl' hb' => ?_)
    rcases hlive b' hl' with rfl | ⟨g1, g2, g3⟩
    ·simp only [if_true] at hb';obtain ⟨ys, lo', par', g1, g2, g3⟩ := hE.shares hf hk' hlb hb';rw [hb] at g1;cases g1
     exact ⟨xs.take m, lo, par, by simp only [hget]; simp, g2, g3⟩
    ·simp only [g1, if_false] at hb';simp only [hget, if_neg g1, if_neg g2];exact hE.shares hf hk' g3 hb'
theorem append_over (hE : RepH G E) {b nid : Nat} {t : DTy} {xs new : List t.den} {lo : Nat} {par : List Nat} (hb : getB E.H b = .arr t xs lo par) (hn : fresh1 E nid) {len : Nat} (hlo : lo <= len) (hle : len <= xs.length) {dv : Value} (hd : RelC E (.sl b 0 len) dv)
  {T X ty e : TypeId} {i : TypeInfo} {z : Value} {u : Value} {news : List Value} (hT : P.underlying T = some (.slice e)) (hi : P.info? e = some i) (hiz : i.zero = some z) (hzs : z.cells.size = t.size) (hsz' : i.size = t.size) (hby : P.bytesOf e = i.bytes)
  (hsrc : SrcOk P E t u new news) (hS : Src P t.size X u new.length news E.w) (hr1 : (len + new.length) * P.bytesOf e <= 140737488355328) (hr2 : (len + new.length) * 1 <= 140737488355328) :
  SemOk P G E (Builtin.append_ #[T, X] ty #[dv, u]) (one (.sl nid 0 (len + new.length)), [(b, .gone), (nid, .arr t (xs.take len ++ new) lo par)]) := by
 obtain ⟨f1, f2, f3⟩ := hE.fits (.inl ⟨lo, par, hb⟩);have hslat : SlAt E b t.size 0 len xs.length dv := by
  have hd := hd.2
  unfold RelSl at hd;rw [hb] at hd;exact hd
 have hrb := hE.blk b
 rw [hb] at hrb;have hne : nid ≠ b := fun e => by have h9 := hn.2; rw [e, hb] at h9; cases h9
 have htl : (xs.take len).length = len := by rw [List.length_take]; omega
 obtain ⟨a, cap, rfl, q1, q2, q3, q4⟩ := hslat;by_cases hroom : len + new.length <= cap
 ·rcases q4 with ⟨q4, q5⟩ | ⟨k, c, ce, fz, q4, q5, q6, q7⟩
  ·subst q5;have hl0 : len = 0 := by omega
   have hnil : new = [] := List.eq_nil_of_length_eq_zero (by omega)
   subst hl0;subst hnil;have hnn : news = [] := List.eq_nil_of_length_eq_zero (by rw [hsrc.rows.1]; simp)
   subst hnn;obtain ⟨p1, p2⟩ := env_move hE hb hn.1 hn.2 (m := 0) (Nat.zero_le _) hlo;refine ⟨_, _, run_append_nothing E.w T X ty e i hT hi a 0 0 (Nat.le_refl _) u (by rw [hsz']; exact hS), _, _, by simpa [setBs] using p1, by simpa [setBs] using p2, ?_⟩
   exact relC_sl_arr (t := t) (xs := []) (lo := lo) (par := par) (by
    show getB (setB (setB E.H b .gone) nid _) nid = _
    rw [getB_setB_same (by rw [length_setB]; exact hn.1)]; simp) ⟨_, _, rfl, Nat.le_refl _, by omega, Nat.le_refl _, .inl ⟨(if_pos rfl).trans q4, rfl⟩⟩
  ·rcases hrb.2.2 with ⟨r1, _⟩ | ⟨k', c1, e1, fz1, r1, r2, r3, r4⟩
   ·rw [q4] at r1; cases r1
   rw [q4] at r1; obtain rfl := smI r1;rw [q6] at r2; cases r2;have hcapz : cap * t.size = c.size := by simpa using q7
   have hfit : len * t.size + news.length <= c.size := by
    rw [hsrc.rows.1, <- Nat.add_mul, <- hcapz];exact Nat.mul_le_mul_right _ hroom
   obtain ⟨s1, s2⟩ := cells_there q6 hfit r3.1;obtain ⟨c', w1, w2, w3, w4, w5, w6⟩ := setCells_heap news (len * t.size) E.w c q6 hfit;have r4' : Rows t.size (RoT E t) (xs.take len) 0 c := fun i hi => by
    have hi' : i < xs.length := by omega
    obtain ⟨us, z1, z2, z3⟩ := r4 i hi';exact ⟨us, by rw [List.getElem_take]; exact z1, z2, z3⟩
   have holds : ElemRows E t (xs.take len) (c.toList.take (len * t.size)) := by
    have := r4'.elems f1
    rwa [List.drop_zero, htl] at this
   have hrun : (Builtin.append_ #[T, X] ty #[.slice a len cap, u]).run P E.w = .ok (.slice a (len + new.length) cap) (E.w.setCells k (len * t.size) news) := by
    rcases q5 with q5 | q5
    ·have hnil : new = [] := List.eq_nil_of_length_eq_zero (by omega)
     have hnn : news = [] := List.eq_nil_of_length_eq_zero (by rw [hsrc.rows.1, hnil]; simp)
     subst hnil;subst hnn;exact run_append_nothing E.w T X ty e i hT hi a _ cap q1 u (by rw [hsz']; exact hS)
    ·subst q5;have := run_append_room_src (P := P) E.w T X ty e i hT hi k (0 * t.size) len cap u new.length news (by rw [hsz']; exact hS) hroom (fun j hj => by rw [hsz']; simpa [Nat.add_assoc] using (cells_there q6 hfit r3.1).1 j hj) (fun j hj => by rw [hsz']; simpa [Nat.add_assoc] using (cells_there q6 hfit r3.1).2 j hj)
     rw [hsz'] at this;simpa using this
   have hkeep : ∀ j, j < len * t.size -> c'[j]? = c[j]? := fun j hj => by
    rw [<- Array.getElem?_toList, w2, List.append_assoc, List.getElem?_append_left (by rw [List.length_take, (Array.length_toList : c.toList.length = c.size)]; omega), List.getElem?_take, if_pos hj, Array.getElem?_toList]
   obtain ⟨p1, p2⟩ := env_move hE hb hn.1 hn.2 hle hlo;have hnl : nid < (setB E.H b .gone).length := by rw [length_setB]; exact hn.1
   have hgn : getB (setB (setB E.H b .gone) nid (.arr t (xs.take len) lo par)) nid = .arr t (xs.take len) lo par := getB_setB_same hnl
   have hrows : Rows t.size (RoT ⟨fun q => if q = nid then E.β b else E.β q, setB (setB E.H b .gone) nid (.arr t (xs.take len) lo par), E.w, E.R⟩ t) (xs.take len ++ new) 0 c' := by
    have := rows_of_elems (rest := c.toList.drop (len * t.size + news.length)) (holds.ext hE p2) (hsrc.rows.ext hE p2)
    rw [<- w2] at this;simpa using this
   obtain ⟨g1, g2⟩ := env_write p1 (b := nid) (k := k) (by rw [hgn]; rfl) ((if_pos rfl).trans q4) w6 q6 w5 w4 w1 w3 (blk := .arr t (xs.take len ++ new) lo par) (by
     rw [hgn];exact ⟨rfl, by rw [List.length_append]; omega, by rw [List.length_append]; omega, hrows⟩) (fun p t' xs' hp hk' => by
    obtain ⟨ys, lo', par', z1, z2, z3⟩ := p1.shares hp hk' (b := nid) (by rw [hgn]; rfl) ((if_pos rfl).trans q4)
    rw [hgn] at z1;cases z1
    exact ⟨_, _, _, rfl, z2, z3, fun j hj => hkeep j (Nat.lt_of_lt_of_le hj (Nat.mul_le_mul_right _ (by omega)))⟩)
   have hH : setB (setB (setB E.H b .gone) nid (.arr t (xs.take len) lo par)) nid (.arr t (xs.take len ++ new) lo par) = setBs E.H [(b, .gone), (nid, .arr t (xs.take len ++ new) lo par)] := by
    simp only [setBs];have : ∀ (H : Heap) (n : Nat) (x y : Blk), setB (setB H n x) n y = setB H n y := by
     intro H
     induction H with
     | nil => intros; rfl
     | cons a H ih => intro n x y; cases n <;> simp [setB, ih]
    exact this _ _ _ _
   refine ⟨_, _, hrun, fun q => if q = nid then E.β b else E.β q, E.R, ?_, ?_, ?_⟩
   ·rw [<- hH]; exact g1
   ·rw [<- hH]; exact p2.trans g2
   ·rw [<- hH];exact relC_sl_arr (t := t) (xs := xs.take len ++ new) (lo := lo) (par := par) (getB_setB_same (by rw [length_setB]; exact hnl)) ⟨_, _, rfl, hroom, q2, by rw [List.length_append]; omega, .inr ⟨k, c', ce, fz, (if_pos rfl).trans q4, q5, w1, by rw [w3]; exact q7⟩⟩
 ·have holds : ∃ olds, ElemRows E t (xs.take len) olds /\ (Builtin.firstCells i.size len (.slice a len cap)).run P E.w.drew = .ok olds.toArray E.w.drew := by
   obtain ⟨olds, ho⟩ := src_sl (P := P) hE (off := 0) (.inl ⟨lo, par, hb⟩) hd;rw [List.drop_zero] at ho;refine ⟨olds, ho.rows, ?_⟩
   have := ho.first E.w.drew len rfl (by rw [htl]; exact Nat.le_refl _)
   have hol : olds.take (len * t.size) = olds := by rw [<- htl, <- ho.rows.1, List.take_length]
   rw [hol] at this;rw [hsz']; exact this
  obtain ⟨olds, ho1, ho2⟩ := holds;obtain ⟨g1, g2⟩ := env_gone hE b;have hn1 : fresh1 ⟨E.β, setB E.H b .gone, E.w, E.R⟩ nid := ⟨by show nid < (setB E.H b _).length; rw [length_setB]; exact hn.1, by show getB (setB E.H b _) nid = _; rw [getB_setB_ne hne]; exact hn.2⟩
  have hgb := grownCap_bounds E.w (len + new.length) cap e (by omega)
  have hrun := run_append_grow_src (P := P) E.w T X ty e i z hT hi hiz a len cap olds ho2 u new.length news (by rw [hsz']; exact hS) (by omega) (by omega) (growslice_fits (by omega) (by rw [<- hby]; exact hr1))
  refine ⟨_, _, hrun, ?_⟩
  have := grow_sound hE g2 g1 rfl hn1 (ys := xs.take len) (lo := lo) (par := par) (ho1.ext hE g2) (hsrc.rows.ext hE g2) f1 (e := e) (by omega) hzs (cap := grownCap E.w (len + new.length) cap e) ⟨by rw [htl]; exact hgb.1, hgb.2⟩ (by rw [htl]) (wr := [(b, .gone), (nid, .arr t (xs.take len ++ new) lo par)]) rfl
  rwa [htl] at this
theorem zerosT_sound (hE : RepH G E) {nid : Nat} (hn : fresh1 E nid) {e T X ty : TypeId} {d x : SV} {dv u : Value} {r : Res} (hd : RelS E d dv) (hx : RelS E x u) (hT : P.underlying T = some (.slice e)) (h : (zerosT P nid e X d x).val = some r) :
  SemOk P G E (Builtin.append_ #[T, X] ty #[dv, u]) r := by
 unfold zerosT at h;cases h
theorem appendT_sound {rf : Bool} (hE : RepH G E) {look : Look} (hk : LookOk E look) {nid : Nat} (hn : fresh1 E nid) {args : List SV} {types : Array TypeId} {vs : Array Value} {ty : TypeId} {r : Res} (ha : RelTs E args vs.toList) (h : (appendT rf P look nid args types.toList).val = some r) :
  SemOk P G E (Builtin.append_ types ty vs) r := by
 unfold appendT at h;split at h
 ·rename_i d x T X heq;obtain ⟨dv, u, hvs, hd, hx⟩ := relTs_two ha;have hvs := list_two hvs
  have htypes := list_two heq
  subst hvs;subst htypes;split at h
  ·rename_i e hT;split at h
   ·exact zerosT_sound hE hn hd hx hT h
   ·rename_i hX;split at h
    ·cases h
    ·rename_i t ht;split at h
     ·rename_i hs;obtain ⟨hs1, hs2, hs3⟩ := hs;obtain ⟨i, z, hi, hiz, hzs⟩ := zeroOk_info hs3;obtain ⟨hby, hsz⟩ := bytesOf_info hi;have hsz' : i.size = t.size := by omega
      split at h
      ·cases h
      ·rename_i new hnew;obtain ⟨news, hsrc⟩ := elemsOf_sound hE hk hx hnew;have hS := hsrc.src hs2 (srcT_kind hX)
       split at h
       ·
        obtain ⟨h1, h2⟩ := val_chk h;obtain rfl := val_ret h2;obtain rfl : dv = .slice none 0 0 := hd;simp only [Bool.and_eq_true] at h1;have hr1 := room_le h1.1
        have hr2 := room_le h1.2
        rcases Nat.eq_zero_or_pos new.length with h0 | h0
        ·have hnil : new = [] := List.eq_nil_of_length_eq_zero h0
         subst hnil;have hnn : news = [] := List.eq_nil_of_length_eq_zero (by rw [hsrc.rows.1]; simp)
         subst hnn;obtain ⟨g1, g2⟩ := env_virtual hE hn t [] hs2;refine ⟨_, _, run_append_nothing E.w T X ty e i hT hi none 0 0 (Nat.le_refl _) u (by rw [hsz']; exact hS), _, _, g1, g2, ?_⟩
         refine ⟨trivial, ?_⟩
         unfold RelSl;rw [show getB (setBs E.H [(nid, Blk.arr t [] 0 [])]) nid = _ from getB_setB_same hn.1]
         exact (show SlAt _ nid t.size 0 0 0 _ from ⟨_, _, rfl, Nat.le_refl _, by omega, Nat.le_refl _, .inl ⟨if_pos rfl, rfl⟩⟩)
        ·have hgb := grownCap_bounds E.w (0 + new.length) 0 e (by omega)
         have hrun := run_append_grow_src (P := P) E.w T X ty e i z hT hi hiz none 0 0 [] (by simp [Builtin.firstCells]) u new.length news (by rw [hsz']; exact hS) (by omega) (by omega) (growslice_fits (by omega) (by rw [Nat.zero_add, <- hby]; exact hr1))
         refine ⟨_, _, hrun, ?_⟩
         have := grow_sound hE (Ext.refl E) hE rfl hn (ys := []) (lo := 0) (par := []) elem_nil hsrc.rows hs2 (e := e) (Nat.le_refl _) hzs (cap := grownCap E.w (0 + new.length) 0 e) ⟨hgb.1, hgb.2⟩ rfl (wr := [(nid, .arr t new 0 [])]) rfl
         simpa using this
       ·
        rename_i b len;split at h
        ·rename_i t' xs lo par hb;have hb := hk.eq hb (by intro h; cases h)
         split at h
         ·cases h
         ·rename_i ys hc;simp only [Tree.val] at h;split at h
          case isFalse =>
           obtain ⟨h1, h2⟩ := val_chk h;obtain rfl := val_ret h2;simp only [Bool.and_eq_true, decide_eq_true_eq] at h1;obtain ⟨hlo, hle, hr1, hr2⟩ := h1;obtain ⟨e', he'⟩ := castL_eq hc;subst e';simp only at he'
           subst he';exact append_over hE hb hn hlo hle hd hT hi hiz hzs hsz' hby hsrc hS (room_le hr1) (room_le hr2)
          rename_i h1;obtain rfl := smI h;simp only [Bool.and_eq_true, decide_eq_true_eq] at h1;obtain ⟨hlen, hr1, hr2⟩ := h1;have hr1 := room_le hr1
          have hr2 := room_le hr2
          obtain ⟨e', he'⟩ := castL_eq hc;subst e';simp only at he'
          subst he';subst hlen;obtain ⟨f1, f2, f3⟩ := hE.fits (.inl ⟨lo, par, hb⟩);have hslat : SlAt E b t'.size 0 xs.length xs.length dv := by
           obtain ⟨_, hd⟩ := hd;unfold RelSl at hd;rw [hb] at hd;exact hd
          have hrb := hE.blk b
          rw [hb] at hrb;obtain ⟨g1, g2⟩ := env_freeze hE hb False;have hn1 : fresh1 ⟨E.β, setB E.H b (.frz t' xs), E.w, fun k => E.R k \/ (False /\ E.β b = some k)⟩ nid := by
           refine ⟨by show nid < (setB E.H b _).length; rw [length_setB]; exact hn.1, ?_⟩
           show getB (setB E.H b _) nid = _
           rw [getB_setB_ne (fun e => by have h9 := hn.2; rw [e, hb] at h9; cases h9)]
           exact hn.2
          obtain ⟨a, cap, rfl, q1, q2, q3, q4⟩ := hslat;by_cases hroom : xs.length + new.length <= cap
          ·
           rcases q4 with ⟨q4, q5⟩ | ⟨k, c, ce, fz, q4, q5, q6, q7⟩
           ·
            subst q5;have hx0 : xs = [] := List.eq_nil_of_length_eq_zero (by omega)
            have hnil : new = [] := List.eq_nil_of_length_eq_zero (by omega)
            subst hx0;subst hnil;have hnn : news = [] := List.eq_nil_of_length_eq_zero (by rw [hsrc.rows.1]; simp)
            subst hnn;obtain ⟨p1, p2⟩ := env_virtual g1 hn1 t' (b :: par) f1;refine ⟨_, _, run_append_nothing E.w T X ty e i hT hi a 0 0 (Nat.le_refl _) u (by rw [hsz']; exact hS), _, _, p1, g2.trans p2, ?_⟩
            exact relC_sl_arr (t := t') (xs := []) (lo := 0) (par := b :: par) (getB_setB_same hn1.1) ⟨_, _, rfl, Nat.le_refl _, by omega, Nat.le_refl _, .inl ⟨if_pos rfl, rfl⟩⟩
           ·rcases hrb.2.2 with ⟨r1, _⟩ | ⟨k', c1, e1, fz1, r1, r2, r3, r4⟩
            ·rw [q4] at r1; cases r1
            rw [q4] at r1; obtain rfl := smI r1;rw [q6] at r2; cases r2;have hcapz : cap * t'.size = c.size := by simpa using q7
            have hfit : xs.length * t'.size + news.length <= c.size := by
             rw [hsrc.rows.1, <- Nat.add_mul, <- hcapz];exact Nat.mul_le_mul_right _ hroom
            obtain ⟨s1, s2⟩ := cells_there q6 hfit r3.1;obtain ⟨c', w1, w2, w3, w4, w5, w6⟩ := setCells_heap news (xs.length * t'.size) E.w c q6 hfit;have holds : ElemRows E t' xs (c.toList.take (xs.length * t'.size)) := by
             have := r4.elems f1
             rwa [List.drop_zero] at this
            have hrun : (Builtin.append_ #[T, X] ty #[.slice a xs.length cap, u]).run P E.w = .ok (.slice a (xs.length + new.length) cap) (E.w.setCells k (xs.length * t'.size) news) := by
             rcases q5 with q5 | q5
             ·have hnil : new = [] := List.eq_nil_of_length_eq_zero (by omega)
              have hnn : news = [] := List.eq_nil_of_length_eq_zero (by rw [hsrc.rows.1, hnil]; simp)
              subst hnil;subst hnn;exact run_append_nothing E.w T X ty e i hT hi a _ cap q1 u (by rw [hsz']; exact hS)
             ·subst q5;have := run_append_room_src (P := P) E.w T X ty e i hT hi k (0 * t'.size) xs.length cap u new.length news (by rw [hsz']; exact hS) hroom (fun j hj => by rw [hsz']; have := s1 (xs.length * t'.size + j - 0) ; simpa [Nat.add_assoc] using (cells_there q6 hfit r3.1).1 j hj) (fun j hj => by rw [hsz']; simpa [Nat.add_assoc] using (cells_there q6 hfit r3.1).2 j hj)
              rw [hsz'] at this;simpa using this
            have hkeep : ∀ j, j < xs.length * t'.size -> c'[j]? = c[j]? := fun j hj => by
             rw [<- Array.getElem?_toList, w2, List.append_assoc, List.getElem?_append_left (by rw [List.length_take, (Array.length_toList : c.toList.length = c.size)]; omega), List.getElem?_take, if_pos hj, Array.getElem?_toList]
            have hrows : Rows t'.size (RoT E t') (xs ++ new) 0 c' := by
             have := rows_of_elems (rest := c.toList.drop (xs.length * t'.size + news.length)) holds hsrc.rows
             rw [<- w2] at this;simpa using this
            obtain ⟨p1, p2⟩ := env_append hE hb hn.1 hn.2 q4 w6 q6 w5 w4 w1 w3 hkeep hrows;refine ⟨_, _, hrun, _, _, p1, p2, ?_⟩
            exact relC_sl_arr (t := t') (xs := xs ++ new) (lo := xs.length) (par := b :: par) (getB_setB_same hn1.1) ⟨_, _, rfl, hroom, q2, by rw [List.length_append]; omega, .inr ⟨k, c', ce, fz, if_pos rfl, q5, w1, by rw [w3]; exact q7⟩⟩
          ·
           have holds : ∃ olds, ElemRows E t' xs olds /\ (Builtin.firstCells i.size xs.length (.slice a xs.length cap)).run P E.w.drew = .ok olds.toArray E.w.drew := by
            obtain ⟨olds, ho⟩ := src_sl (P := P) hE (off := 0) (.inl ⟨lo, par, hb⟩) hd;rw [List.drop_zero, List.take_length] at ho;refine ⟨olds, ho.rows, ?_⟩
            have := ho.first E.w.drew xs.length rfl (Nat.le_refl _)
            rw [<- ho.rows.1, List.take_length] at this;rw [hsz']; exact this
           obtain ⟨olds, ho1, ho2⟩ := holds;have hgb := grownCap_bounds E.w (xs.length + new.length) cap e (by omega)
           have hrun := run_append_grow_src (P := P) E.w T X ty e i z hT hi hiz a xs.length cap olds ho2 u new.length news (by rw [hsz']; exact hS) (by omega) (by omega) (growslice_fits (by omega) (by rw [<- hby]; exact hr1))
           refine ⟨_, _, hrun, ?_⟩
           exact grow_sound hE g2 g1 rfl hn1 (lo := xs.length) (par := b :: par) (ho1.ext hE g2) (hsrc.rows.ext hE g2) f1 (e := e) (Nat.le_refl _) hzs (cap := grownCap E.w (xs.length + new.length) cap e) ⟨hgb.1, hgb.2⟩ rfl (wr := [(b, .frz t' xs), (nid, .arr t' (xs ++ new) xs.length (b :: par))]) rfl
        ·cases h
       ·cases h
     ·cases h
  ·cases h
 ·cases h
theorem single_all {vs : List Value} (h : ∀ v ∈ vs, single v) : ∀ v ∈ vs, v.oneCell' = true := fun v hv => single_oneCell (h v hv)
theorem run_storeVar {T : TypeId} {v : Value} {vs : List Value} (hv : v.cells.toList = vs) (hT : P.cellsOf T = vs.length) (hz : 0 < vs.length) (h1 : ∀ x ∈ vs, single x) {k o : Nat} {c : Array Value} {e : TypeId} {fz : Nat × Nat} {w : World}
  (hc : w.heap[k]? = some (.cells c e fz)) (ho : o + vs.length <= c.size) (hfz : NoFz fz c.size) : (storeVar T ⟨k, o, none⟩ v).run P w = .ok () (w.setCells k o vs) := by
 obtain ⟨s1, s2⟩ := cells_there hc ho hfz;have hsz : v.cells.size = P.cellsOf T := by rw [hT, <- hv, Array.length_toList]
 have hst := run_storeCells_cells (P := P) k o vs 0 w (by simpa using s1) (by simpa using s2) (single_all h1)
 simp only [Nat.add_zero] at hst;simp only [storeVar, Sem.run_bind, run_sizeOf_pos (show 0 < P.cellsOf T by omega), Result.andThen_ok, hsz, ne_eq, not_true, if_false, hv, hst]
theorem set_eq_splice {α : Type} {l : List α} {i : Nat} {x : α} (h : i < l.length) : l.set i x = l.take i ++ [x] ++ l.drop (i + 1) := by
 rw [List.set_eq_take_append_cons_drop, if_pos h]; simp
theorem run_storeAt {T : TypeId} {a : Addr} {v : Value} {w w' : World} (h : (storeVar T a v).run P w = .ok () w') : (Instr.storeAt T (.pointer (some a)) v).run P w = .ok () w' := by
 simp only [Instr.storeAt, Sem.run_bind, run_sureAddr, Result.andThen_ok, h]
def UnitOk (P : Program) (G : GlobT) (E : Env) (s : Sem Unit) (r : Res) : Prop := ∃ w', s.run P E.w = .ok () w' /\ ResR G E r undef w'
theorem kind_of_v1 {v : V1} {u : Value} (h : RelV E v u) : u.cells.toList.length = fsize v.fs /\ ∀ x ∈ u.cells.toList, single x := ⟨RelFs.len (v1_cells h), RelFs.single (v1_cells h)⟩
theorem rows_set {t : DTy} {xs : List t.den} {i o : Nat} {c c' : Array Value} {us vs : List Value} {d : t.den} (hr : Rows t.size (RoT E t) xs 0 c) (hi : i < xs.length) (hd : RoT E t d (us.take o ++ vs ++ us.drop (o + vs.length))) (hus : us.length = t.size) (hat : ∀ j, j < t.size -> c[i * t.size + j]? = us[j]?)
  (ho : o + vs.length <= t.size) (hc' : c'.toList = c.toList.take (i * t.size + o) ++ vs ++ c.toList.drop (i * t.size + o + vs.length)) (hcs : i * t.size + t.size <= c.size) : Rows t.size (RoT E t) (xs.set i d) 0 c' := fun q hq => by
 rw [List.length_set] at hq;have hget : ∀ j, c'[j]? = if j < i * t.size + o then c[j]? else if j < i * t.size + o + vs.length then vs[j - (i * t.size + o)]? else c[j]? := fun j => by
  have e1 : c.toList.length = c.size := Array.length_toList
  rw [<- Array.getElem?_toList, hc', List.getElem?_append, List.getElem?_append]
  simp only [List.length_append, List.length_take, e1, List.getElem?_take, List.getElem?_drop, Array.getElem?_toList]
  rw [show min (i * t.size + o) c.size = i * t.size + o from by omega]
  by_cases h1 : j < i * t.size + o
  ·rw [if_pos (by omega), if_pos h1, if_pos h1, if_pos h1]
  ·by_cases h2 : j < i * t.size + o + vs.length
   ·rw [if_pos h2, if_neg h1, if_neg h1, if_pos h2]
   ·rw [if_neg h2, if_neg h1, if_neg h2]; congr 1; omega
 by_cases hqi : q = i
 ·subst hqi;refine ⟨_, by rw [List.getElem_set_self]; exact hd, RoT.len hd, fun j hj => ?_⟩
  rw [Nat.zero_add, hget];simp only [List.getElem?_append, List.length_append, List.length_take, hus, List.getElem?_take, List.getElem?_drop]
  rw [show min o t.size = o from by omega]
  by_cases h1 : j < o
  ·rw [if_pos (by omega), if_pos (by omega), if_pos h1, if_pos h1, hat j hj]
  ·by_cases h2 : j < o + vs.length
   ·rw [if_neg (by omega), if_pos (by omega), if_pos h2, if_neg h1]; congr 1; omega
   ·rw [if_neg (by omega), if_neg (by omega), if_neg h2, hat j hj]; congr 1; omega
 ·obtain ⟨us', q1, q2, q3⟩ := hr q hq;refine ⟨us', by rw [List.getElem_set_ne (Ne.symm hqi)]; exact q1, q2, fun j hj => ?_⟩
  rw [<- q3 j hj, Nat.zero_add, hget];rcases Nat.lt_or_gt_of_ne hqi with h | h
  ·have : (q + 1) * t.size <= i * t.size := Nat.mul_le_mul_right _ h
   rw [Nat.add_mul] at this;rw [if_pos (by omega)]
  ·have : (i + 1) * t.size <= q * t.size := Nat.mul_le_mul_right _ h
   rw [Nat.add_mul] at this;rw [if_neg (by omega), if_neg (by omega)]
theorem storeVals_sound (hE : RepH G E) {b k : Nat} {fs fs' : List FCell} (hb : getB E.H b = .vals fs) (hk : E.β b = some k) {T : TypeId} {v : Value} {o : Nat} {c : Array Value} {e : TypeId} {fz : Nat × Nat} (hc : E.w.heap[k]? = some (.cells c e fz)) (hfz : NoFz fz c.size)
  (hT : P.cellsOf T = v.cells.toList.length) (hz : 0 < v.cells.toList.length) (h1 : ∀ x ∈ v.cells.toList, single x) (ho : o + v.cells.toList.length <= c.size)
  (hr : RelFs E fs' (c.toList.take o ++ v.cells.toList ++ c.toList.drop (o + v.cells.toList.length))) : UnitOk P G E (Instr.storeAt T (.pointer (some ⟨k, o, none⟩)) v) (.any, [(b, .vals fs')]) := by
 have hrun := run_storeVar (P := P) (T := T) rfl hT hz h1 hc ho hfz
 obtain ⟨c', w1, w2, w3, w4, w5, w6⟩ := setCells_heap v.cells.toList o E.w c hc ho;have hl : live (getB E.H b) = true := by rw [hb]; rfl
 obtain ⟨p1, p2⟩ := env_write hE hl hk w6 hc w5 w4 w1 w3 (blk := .vals fs') (by rw [hb]; show RelFs E fs' c'.toList; rw [w2]; exact hr)
  (fun p t xs hp hpk => (hE.noPar hl hk (fun t xs lo par h => by rw [hb] at h; cases h) hp hpk).elim)
 exact ⟨_, run_storeAt hrun, _, _, p1, p2, trivial⟩
theorem storeArr_sound (hE : RepH G E) {b k : Nat} {t : DTy} {xs : List t.den} {lo : Nat} {par : List Nat} (hb : getB E.H b = .arr t xs lo par) (hk : E.β b = some k) {T : TypeId} {v : Value} {i o : Nat} (hi : i < xs.length)
  {us : List Value} {c : Array Value} {e : TypeId} {fz : Nat × Nat} (hc : E.w.heap[k]? = some (.cells c e fz)) (hfz : NoFz fz c.size) (hr : Rows t.size (RoT E t) xs 0 c) (hus : us.length = t.size) (hat : ∀ j, j < t.size -> c[i * t.size + j]? = us[j]?)
  (hT : P.cellsOf T = v.cells.toList.length) (hz : 0 < v.cells.toList.length) (h1 : ∀ x ∈ v.cells.toList, single x) (ho : o + v.cells.toList.length <= t.size) {d : t.den}
  (hd : RoT E t d (us.take o ++ v.cells.toList ++ us.drop (o + v.cells.toList.length))) {lo' : Nat} {par' : List Nat} (hlo : lo' <= xs.length)
  (hpar : ∀ p t' xs', getB E.H p = .frz t' xs' -> E.β p = some k -> p ∈ par' /\ xs'.length <= lo' /\ lo' <= i /\ t' = t) :
  ∃ w', (Instr.storeAt T (.pointer (some ⟨k, i * t.size + o, none⟩)) v).run P E.w = .ok () w' /\ RepH G ⟨E.β, setB E.H b (.arr t (xs.set i d) lo' par'), w', E.R⟩ /\ Ext E ⟨E.β, setB E.H b (.arr t (xs.set i d) lo' par'), w', E.R⟩ := by
 have hl : live (getB E.H b) = true := by rw [hb]; rfl
 obtain ⟨f1, f2, f3⟩ := hE.fits (.inl ⟨lo, par, hb⟩);have hle := f3 k c e fz hk hc
 have hrow : i * t.size + t.size <= c.size := by
  have : (i + 1) * t.size <= xs.length * t.size := Nat.mul_le_mul_right _ hi
  rw [Nat.add_mul] at this;omega
 have hrun := run_storeVar (P := P) (T := T) rfl hT hz h1 hc (o := i * t.size + o) (by omega) hfz
 obtain ⟨c', w1, w2, w3, w4, w5, w6⟩ := setCells_heap v.cells.toList (i * t.size + o) E.w c hc (by omega)
 have hrows := rows_set hr hi hd hus hat ho w2 hrow
 obtain ⟨p1, p2⟩ := env_write hE hl hk w6 hc w5 w4 w1 w3 (blk := .arr t (xs.set i d) lo' par') (by rw [hb]; exact ⟨rfl, by simp, by simpa using hlo, hrows⟩)
  (fun p t' xs' hp hpk => by
   obtain ⟨q1, q2, q3, rfl⟩ := hpar p t' xs' hp hpk;refine ⟨_, _, _, rfl, q1, q2, fun j hj => ?_⟩
   have : xs'.length * t'.size <= i * t'.size := Nat.mul_le_mul_right _ (by omega)
   rw [<- Array.getElem?_toList, w2, List.append_assoc, List.getElem?_append_left (by rw [List.length_take, (Array.length_toList : c.toList.length = c.size)]; omega), List.getElem?_take, if_pos (by omega), Array.getElem?_toList])
 exact ⟨_, run_storeAt hrun, p1, p2⟩
theorem env_gones : ∀ (ps : List Nat) (E : Env), RepH G E ->
  RepH G ⟨E.β, setBs E.H (ps.map fun q => (q, Blk.gone)), E.w, E.R⟩ /\ Ext E ⟨E.β, setBs E.H (ps.map fun q => (q, Blk.gone)), E.w, E.R⟩
 | [], E, hE => ⟨hE, Ext.refl E⟩
 | p :: ps, E, hE => by
  obtain ⟨g1, g2⟩ := env_gone hE p;obtain ⟨q1, q2⟩ := env_gones ps _ g1;exact ⟨q1, g2.trans q2⟩
theorem putElem_sound {T : TypeId} {v : V1} {gs fs r : List FCell} {o k n : Nat} {u : Value} {us : List Value} (h : putElem P T v gs fs o k n = some r) (hk : KN k n) (hg : RelFs E gs u.cells.toList) (hs : ∀ x, v = .c x -> single u) (hr : RelFs E fs us) :
  P.cellsOf T = u.cells.toList.length /\ 0 < u.cells.toList.length /\ (o + k) + u.cells.toList.length <= us.length /\ RelFs E r (us.take (o + k) ++ u.cells.toList ++ us.drop (o + k + u.cells.toList.length)) := by
 unfold putElem at h;split at h
 ·split at h
  ·split at h
   ·rename_i x' _ x hT;obtain ⟨v', hv', hx⟩ := relFs_one_inv hg;obtain ⟨g1, g2⟩ := setC_rel h hk hr hx;rw [hv'];refine ⟨hT, by simp, by simp; omega, ?_⟩
    rw [List.length_singleton, <- set_eq_splice g2];exact g1
   ·cases h
  ·cases h
 ·split at h
  ·split at h
   ·rename_i hT;obtain ⟨g1, g2⟩ := setG_rel h hr hg;have hl := RelFs.len hg
    exact ⟨by omega, by omega, by omega, g1⟩
   ·cases h
  ·cases h
theorem storeT_sound (hE : RepH G E) {look : Look} (hk : LookOk E look) {T : TypeId} {p v : SV} {x u : Value} {r : Res} (hp : RelS E p x) (hv : RelS E v u) (h : (storeT P look T p v).val = some r) : UnitOk P G E (Instr.storeAt T x u) r := by
 unfold storeT at h;split at h
 ·rename_i b i es o k n v;have hv : RelV E v u := hv
  obtain ⟨_, hp⟩ := hp;unfold RelPtr at hp;split at h
  ·rename_i fs hb;have hb := hk.eq hb (by intro h; cases h)
   rw [hb] at hp;obtain ⟨⟨kb, h3, rfl⟩, h4⟩ := hp;split at h
   ·obtain ⟨fs', h5, h6⟩ := val_opt h;obtain rfl := val_ret h6;obtain ⟨k', c, e, fz, g1, g2, g3, g4⟩ := hE.vals hb;rw [h3] at g1; obtain rfl := smI g1;obtain ⟨q1, q2, q3, q4⟩ := putElem_sound h5 h4 (v1_cells hv) (fun x e => by subst e; exact single_of hv) g4
    rw [Nat.zero_mul, Nat.zero_add];exact storeVals_sound hE hb h3 g2 g3.1 q1 q2 (kind_of_v1 hv).2 (by rw [Array.length_toList] at q3; exact q3) q4
   ·cases h
  ·rename_i t xs lo par hb;have hb := hk.eq hb (by intro h; cases h)
   rw [hb] at hp;obtain ⟨_, hp, hi⟩ := hp;split at h
   ·rename_i hes;obtain ⟨⟨kb, h3, rfl⟩, h4⟩ := hp hes;split at h
    ·cases h
    ·rename_i gs wr hf;split at h
     ·cases h
     ·rename_i fs' hpe;split at h
      ·cases h
      ·rename_i d hd;obtain ⟨⟨R', g1, g2⟩, _, g4⟩ := freezeF_sound hf hE (v1_cells hv) (fun p hp => hk.eq rfl (live_ne_dead (freezeF_live hf p hp)))
       have hbw : (∀ p ∈ wr, p.1 ≠ b) -> getB (setBs E.H wr) b = .arr t xs lo par := fun hno => by rw [getB_setBs_not wr _ b hno]; exact hb
       have main : (∀ p ∈ wr, p.1 ≠ b) -> ∀ (lo' : Nat) (par' : List Nat), lo' <= xs.length -> (∀ p t' xs', getB (setBs E.H wr) p = .frz t' xs' -> E.β p = some kb -> p ∈ par' /\ xs'.length <= lo' /\ lo' <= i /\ t' = t) ->
         UnitOk P G E (Instr.storeAt T (.pointer (some ⟨kb, i * es + (o + k), none⟩)) u) (.any, wr ++ [(b, .arr t (xs.set i d) lo' par')]) := fun hno lo' par' hlo hpar => by
        have hrb := g1.1.blk b
        rw [hbw hno] at hrb;rcases hrb.2.2 with ⟨r1, _⟩ | ⟨k1, c, e, fz, r1, r2, r3, r4⟩
        ·have r1 : E.β b = none := r1
         rw [h3] at r1; cases r1
        have r1' : E.β b = some k1 := r1
        rw [h3] at r1'; obtain rfl := smI r1';obtain ⟨us, q1, q2, q3⟩ := r4 i hi;rw [getD_eq hi] at hpe;obtain ⟨p1, p2, p3, p4⟩ := putElem_sound hpe h4 g2 (fun x e => by subst e; exact single_of hv) (toF_rel t _ us q1)
        obtain ⟨w', s1, s2, s3⟩ := storeArr_sound (P := P) (T := T) g1.1 (hbw hno) r1 hi r2 r3.1 r4 q2 (fun j hj => by rw [<- q3 j hj, Nat.zero_add]) p1 p2 (kind_of_v1 hv).2 (by omega) (ofFall_rel hd p4) hlo hpar
        have hEq : setBs E.H (wr ++ [(b, Blk.arr t (xs.set i d) lo' par')]) = setB (setBs E.H wr) b (.arr t (xs.set i d) lo' par') := by rw [setBs_append]; rfl
        rw [hes];exact ⟨w', s1, _, _, by rw [hEq]; exact s2, by rw [hEq]; exact g1.2.trans s3, trivial⟩
       split at h
       ·
        split at h
        ·cases h
        ·rename_i hno;obtain rfl := val_ret h;have hno : ∀ p ∈ wr, p.1 ≠ b := fun p hp e => hno (List.any_eq_true.2 ⟨p, hp, by simp [e]⟩)
         have hrb := g1.1.blk b
         rw [hbw hno] at hrb;exact main hno lo [] hrb.1 (fun p t' xs' hp hpk => (g1.1.noPar (b := b) (k := kb) (by show live (getB (setBs E.H wr) b) = true; rw [hbw hno]; rfl) h3 (fun t xs lo par h => by
          have h : getB (setBs E.H wr) b = _ := h
          rw [hbw hno] at h; cases h; rfl) hp hpk).elim)
       ·
        rename_i q par _;split at h
        ·have hno : ∀ p ∈ ([] : List (Nat × Blk)), p.1 ≠ b := fun p hp => by cases hp
         have hrb := hE.blk b
         rw [hb] at hrb;have hlb : live (getB E.H b) = true := by rw [hb]; rfl
         cases hdl : decide (lo <= i) with
         | true =>
          rw [hdl] at h;obtain rfl := val_ret h;refine main hno lo (q :: par) hrb.1 (fun p t' xs' hp hpk => ?_)
          obtain ⟨ys, lo2, par2, e1, e2, e3⟩ := hE.shares hp hpk hlb h3;rw [hb] at e1;cases e1
          exact ⟨e2, e3, ofD hdl, rfl⟩
         | false =>
          rw [hdl] at h;simp only [Tree.val, Bool.false_eq_true, if_false] at h;split at h
          ·cases h
          ·rename_i hseen;obtain rfl := val_ret h;obtain ⟨z1, z2⟩ := env_gones (q :: par) _ g1.1;have hbno : ∀ p ∈ (q :: par).map (fun q => (q, Blk.gone)), p.1 ≠ b := fun p hp e => by
            obtain ⟨y, hy, rfl⟩ := List.mem_map.1 hp;exact hseen (List.any_eq_true.2 ⟨y, hy, by simpa using e⟩)
           have hb2 : getB (setBs E.H ((q :: par).map fun q => (q, Blk.gone))) b = .arr t xs lo (q :: par) := by rw [getB_setBs_not _ _ b hbno]; exact hb
           have hrb := z1.blk b
           have hrb := (congrArg (RepB _ b) hb2).mp hrb
           rcases hrb.2.2 with ⟨r1, _⟩ | ⟨k1, c, e, fz, r1, r2, r3, r4⟩
           ·have r1 : E.β b = none := r1
            rw [h3] at r1; cases r1
           have r1' : E.β b = some k1 := r1
           rw [h3] at r1'; obtain rfl := smI r1';obtain ⟨us, q1, q2, q3⟩ := r4 i hi;rw [getD_eq hi] at hpe;obtain ⟨p1, p2, p3, p4⟩ := putElem_sound hpe h4 (RelFs.ext g1.1 z2 _ _ g2) (fun x e => by subst e; exact single_of hv) (toF_rel t _ us q1)
           obtain ⟨w', s1, s2, s3⟩ := storeArr_sound (P := P) (T := T) z1 hb2 r1 hi r2 r3.1 r4 q2 (fun j hj => by rw [<- q3 j hj, Nat.zero_add]) p1 p2 (kind_of_v1 hv).2 (by omega) (ofFall_rel hd p4) (lo' := 0) (par' := []) (Nat.zero_le _)
            (fun p t' xs' hp hpk => by
             exfalso;have hp : getB (setBs E.H ((q :: par).map fun q => (q, Blk.gone))) p = .frz t' xs' := hp
             have hlz : live (getB (setBs E.H ((q :: par).map fun q => (q, Blk.gone))) b) = true := by rw [hb2]; rfl
             obtain ⟨ys, lo2, par2, e1, e2, e3⟩ := z1.shares hp hpk hlz h3;have e1 : getB (setBs E.H ((q :: par).map fun q => (q, Blk.gone))) b = _ := e1
             rw [hb2] at e1;cases e1
             have hgone : ∀ (l : List Nat) (H : Heap), p ∈ l -> getB (setBs H (l.map fun q => (q, Blk.gone))) p = .gone \/ getB (setBs H (l.map fun q => (q, Blk.gone))) p = .dead := by
              intro l
              induction l with
              | nil => intro H h; cases h
              | cons y l ih =>
               intro H h;simp only [List.map_cons, setBs];by_cases hpl : p ∈ l
               ·exact ih _ hpl
               ·have : p = y := by rcases List.mem_cons.1 h with h | h; exact h; exact absurd h hpl
                subst this;rw [getB_setBs_not _ _ p (fun z hz e => by
                 obtain ⟨y', hy', rfl⟩ := List.mem_map.1 hz;exact hpl (e ▸ hy'))]
                rw [getB_setB];split
                ·exact .inl rfl
                ·rename_i hlt;right;cases hg : getB H p with
                 | dead => rfl
                 | _ => exact absurd ⟨rfl, getB_len (by rw [hg]; intro h; cases h)⟩ hlt
             rcases hgone (q :: par) E.H e2 with h9 | h9 <;> rw [hp] at h9 <;> cases h9)
           have hEq : setBs E.H ((q :: par).map (fun q => (q, Blk.gone)) ++ [(b, Blk.arr t (xs.set i d) 0 [])]) = setB (setBs E.H ((q :: par).map fun q => (q, Blk.gone))) b (.arr t (xs.set i d) 0 []) := by rw [setBs_append]; rfl
           rw [hes];exact ⟨w', s1, _, _, by rw [hEq]; exact s2, by rw [hEq]; exact (g1.2.trans z2).trans s3, trivial⟩
        ·cases h
   ·cases h
  ·cases h
 ·cases h
end Go.SX
