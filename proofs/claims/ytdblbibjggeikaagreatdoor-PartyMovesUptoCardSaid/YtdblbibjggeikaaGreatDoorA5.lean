/- SX, part 11: lengths, addresses of arrays, new variables, literals. -/
import Derived.Test.YtdblbibjggeikaaGreatDoorA4
import Derived.Great.FillDense
set_option linter.unusedSectionVars false
set_option linter.unusedVariables false
set_option linter.unusedSimpArgs false
namespace Go.SX
open Go
variable {G : GlobT} {E : Env} {P : Program}
theorem inK_nat {n : Nat} (h : n < 9223372036854775808) : InK .i64 (n : Int) := by
 simp [InK, IntKind.min, IntKind.max, IntKind.signed, IntKind.bits]; omega
theorem relTs_one {x : SV} {us : List Value} (h : RelTs E [x] us) : ∃ u, us = [u] /\ RelS E x u := by
 obtain ⟨u, us', rfl, h1, h2⟩ := h;have h2 : us' = [] := h2
 subst h2;exact ⟨u, rfl, h1⟩
theorem relTs_two {x y : SV} {us : List Value} (h : RelTs E [x, y] us) : ∃ u v, us = [u, v] /\ RelS E x u /\ RelS E y v := by
 obtain ⟨u, us', rfl, h1, h2⟩ := h;obtain ⟨v, rfl, h3⟩ := relTs_one h2;exact ⟨u, v, rfl, h1, h3⟩
theorem minT_args {args : List SV} {vs : Array Value} {r : Res} (ha : RelTs E args vs.toList) (h : (minT args).val = some r) : ∃ k x y, vs = #[.int k x, .int k y] /\ InK k x /\ InK k y /\ r = (one (.int false k (if y < x then y else x)), []) := by
 unfold minT at h;split at h
 ·rename_i l k x l' k' y;split at h
  ·rename_i hk;subst hk;obtain rfl := val_ret h;obtain ⟨u, us, hu, hx, u', us', hu', hy, hr⟩ := ha;have hr : us' = [] := hr
   subst hr;have hx : u = .int k x /\ InK k x := hx
   have hy : u' = .int k y /\ InK k y := hy
   obtain ⟨rfl, kx⟩ := hx;obtain ⟨rfl, ky⟩ := hy;refine ⟨k, x, y, ?_, kx, ky, rfl⟩
   apply Array.ext'
   rw [hu, hu']
  ·cases h
 ·cases h
theorem min_pure {ts : Array TypeId} {t : TypeId} {k : IntKind} {x y : Int} : Builtin.min_ ts t #[.int k x, .int k y] = pure (.int k (if y < x then y else x)) := by
 simp [Builtin.min_, Builtin.min2]
theorem minT_sound (hE : RepH G E) {args : List SV} {types : Array TypeId} {vs : Array Value} {ty : TypeId} {r : Res} (ha : RelTs E args vs.toList) (h : (minT args).val = some r) : SemOk P G E (Builtin.min_ types ty vs) r := by
 obtain ⟨k, x, y, rfl, kx, ky, rfl⟩ := minT_args ha h;rw [min_pure];exact SemOk.pure hE (u := .int k (if y < x then y else x)) rfl ⟨rfl, by split; exact ky; exact kx⟩
theorem lenT_sound (hE : RepH G E) {args : List SV} {types : Array TypeId} {vs : Array Value} {ty : TypeId} {r : Res} (ha : RelTs E args vs.toList) (h : (lenT P args types.toList).val = some r) :
  SemOk P G E (Builtin.len_ types ty vs) r := by
 unfold lenT at h;split at h
 ·rename_i x T rest heq;obtain ⟨u, hu, hx⟩ := relTs_one ha;have hT : types[0]? = some T := by rw [<- Array.getElem?_toList, heq]; rfl
  have hv : vs[0]? = some u := by rw [<- Array.getElem?_toList, hu]; rfl
  split at h
  ·rename_i s hU;obtain ⟨h1, h2⟩ := val_chk h;obtain rfl := val_ret h2;obtain rfl : u = .string s := hx;exact SemOk.pure hE (u := .int .i64 s.size) (by simp [Builtin.len_, hT, hv, run_underlying hU, goInt]) ⟨rfl, inK_nat (ofD h1)⟩
  ·rename_i e hU;obtain rfl := val_ret h;obtain rfl : u = .slice none 0 0 := hx;exact SemOk.pure hE (u := .int .i64 0) (by simp [Builtin.len_, hT, hv, run_underlying hU, goInt]) ⟨rfl, inK_nat (n := 0) (by omega)⟩
  ·rename_i e b off len hU;obtain rfl := val_ret h;obtain ⟨a, cap, rfl, h1, h2, _⟩ := sl_known hx;exact SemOk.pure hE (u := .int .i64 len) (by simp [Builtin.len_, hT, hv, run_underlying hU, goInt]) ⟨rfl, inK_nat (by omega)⟩
  ·rename_i e b o n off len hU;obtain rfl := val_ret h;obtain ⟨_, hx⟩ := hx;obtain ⟨a, cap, rfl, h1, h2⟩ : ∃ a cap, u = .slice a len cap /\ len <= cap /\ cap < 9223372036854775808 := by
    unfold RelSla at hx;split at hx
    ·obtain ⟨a, cap, h1, h2, h3, _⟩ := hx; exact ⟨a, cap, h1, h2, h3⟩
    ·obtain ⟨a, cap, h1, h2, h3, _⟩ := hx; exact ⟨a, cap, h1, h2, h3⟩
    ·exact hx.elim
   exact SemOk.pure hE (u := .int .i64 len) (by simp [Builtin.len_, hT, hv, run_underlying hU, goInt]) ⟨rfl, inK_nat (by omega)⟩
  ·rename_i e t xs len hU;obtain rfl := val_ret h;obtain ⟨a, cap, rfl, h1, h2, h3, _⟩ := hx;exact SemOk.pure hE (u := .int .i64 len) (by simp [Builtin.len_, hT, hv, run_underlying hU, goInt]) ⟨rfl, inK_nat (by omega)⟩
  ·rename_i n e y hU;split at h
   ·obtain rfl := val_ret h;exact SemOk.pure hE (u := .int .i64 n) (by simp [Builtin.len_, hT, hv, run_underlying hU, goInt]) ⟨rfl, inK_nat (by omega)⟩
   ·cases h
  ·rename_i a hU;split at h
   ·rename_i n e hA;split at h
    ·obtain rfl := val_ret h;exact SemOk.pure hE (u := .int .i64 n) (by simp [Builtin.len_, hT, hv, run_underlying hU, run_underlying hA, goInt]) ⟨rfl, inK_nat (by omega)⟩
    ·cases h
   ·cases h
  ·cases h
 ·cases h
theorem arrayAtT_sound (hE : RepH G E) {look : Look} (hk : LookOk E look) {T : TypeId} {x : SV} {u : Value} {r : Res} (hx : RelS E x u) (h : (arrayAtT P look T x).val = some r) : SemOk P G E (Instr.arrayAt T u) r := by
 unfold arrayAtT at h;cases h
theorem absC_rel {v : Value} (hs : single v) : RelC E (absC v) v := by
 cases v with
 | int k n =>
  simp only [absC];split
  ·rename_i h; exact ⟨rfl, h⟩
  ·exact hs
 | bool b => rfl
 | string s => rfl
 | pointer a => cases a <;> first | rfl | exact hs
 | slice a l c =>
  cases a with
  | some q => exact hs
  | none =>
   simp only [absC];split
   ·rename_i h; obtain ⟨rfl, rfl⟩ := h; rfl
   ·exact hs
 | nilIface => rfl
 | nilFunc => rfl
 | func f x y =>
  cases f with
  | func g =>
   simp only [absC];split
   ·rename_i h;obtain ⟨h1, h2⟩ := h;obtain rfl := Array.eq_empty_of_size_eq_zero h1;obtain rfl := Array.eq_empty_of_size_eq_zero h2;exact ⟨#[], rfl, rfl⟩
   ·exact hs
  | _ => exact hs
 | agg cs => exact hs.elim
 | tuple vs => exact hs.elim
 | _ => exact hs
theorem absWs_rel {k : IntKind} : ∀ {vs : List Value} {xs : List Int}, absWs k vs = some xs -> vs = xs.map (Value.int k) /\ ∀ x ∈ xs, InK k x
 | [], xs, h => by obtain rfl := smI h; exact ⟨rfl, fun _ h => by cases h⟩
 | v :: vs, xs, h => by
  simp only [absWs] at h;split at h
  ·split at h
   ·rename_i hk;obtain ⟨rfl, hk⟩ := hk;split at h
    ·rename_i r hr;obtain rfl := smI h;obtain ⟨h1, h2⟩ := absWs_rel hr;refine ⟨by rw [h1]; rfl, fun x hx => ?_⟩
     rcases List.mem_cons.1 hx with h | h
     ·subst h; exact hk
     ·exact h2 x h
    ·cases h
   ·cases h
  ·cases h
theorem absF_rel : ∀ {ls : List LCell} {vs : List Value} {fs : List FCell}, absF ls vs = some fs -> RelFs E fs vs
 | [], [], fs, h => by obtain rfl := smI h; rfl
 | [], _ :: _, fs, h => by cases h
 | .one :: ls, [], fs, h => by cases h
 | .one :: ls, v :: vs, fs, h => by
  simp only [absF] at h;split at h
  ·rename_i r h1 h2;obtain rfl := smI h;have hs : single v := by cases v <;> first | trivial | cases h1
   exact ⟨[v], vs, rfl, ⟨v, rfl, absC_rel hs⟩, absF_rel h2⟩
  ·cases h
 | .ws k n :: ls, vs, fs, h => by
  simp only [absF] at h;split at h
  ·rename_i hle;split at h
   ·rename_i xs r h1 h2;obtain rfl := smI h;obtain ⟨g1, g2⟩ := absWs_rel h1;refine ⟨vs.take n, vs.drop n, (List.take_append_drop n vs).symm, ⟨?_, g2, g1⟩, absF_rel h2⟩
    have := congrArg List.length g1
    rw [List.length_take, List.length_map] at this;omega
   ·cases h
  ·cases h
theorem zeroF_rel {T : TypeId} {fs : List FCell} (h : zeroF P T = some fs) : ∃ v, (∀ w, (zeroValue T).run P w = .ok v w) /\ RelFs E fs v.cells.toList /\ (∃ i, P.info? T = some i /\ i.zero = some v) := by
 unfold zeroF at h;split at h
 ·cases h
 ·split at h
  ·cases h
  ·rename_i i hi;split at h
   ·cases h
   ·rename_i v hv;exact ⟨v, fun w => by simp [zeroValue, run_typeInfo hi, hv], absF_rel h, _, hi, hv⟩
theorem same_alloc (w : World) (o : Obj) : Same w (w.alloc o) := ⟨rfl, rfl, rfl⟩
def fresh1 (E : Env) (nid : Nat) : Prop := nid < E.H.length /\ getB E.H nid = .dead
theorem noFz0 (n : Nat) : NoFz (0, 0) n := fun i _ h => by omega
theorem noFzV0 (n : Nat) : NoFzV (0, 0) n := ⟨noFz0 n, rfl⟩
theorem noFzT0 (t : DTy) (n : Nat) : NoFzT t (0, 0) n := ⟨noFz0 n, .inr rfl⟩
theorem newVar_sound (hE : RepH G E) {nid : Nat} (hn : fresh1 E nid) {T : TypeId} {v : Value} {fs : List FCell} (hr : RelFs E fs v.cells.toList) :
  SemOk P G E (do pure (.pointer (some (<- newVar T v)))) (one (.ptr nid 0 0 0 0 0), [(nid, .vals fs)]) := by
 obtain ⟨h1, h2⟩ := env_alloc hE hn.1 hn.2 (w' := E.w.alloc (.cells v.cells T)) (c := v.cells) (e := T) (fz := (0, 0)) (same_alloc _ _) rfl (noFzV0 _) (blk := .vals fs) hr;refine ⟨.pointer (some ⟨E.w.heap.size, 0, none⟩), E.w.alloc (.cells v.cells T), rfl, _, _, h1, h2, trivial, ?_⟩
 unfold RelPtr;rw [show getB (setBs E.H [(nid, Blk.vals fs)]) nid = .vals fs from getB_setB_same hn.1]
 exact (show PtrAt _ nid 0 0 0 0 0 _ from ⟨⟨E.w.heap.size, if_pos rfl, rfl⟩, .inl ⟨rfl, rfl⟩⟩)
theorem v1_cells {v : V1} {u : Value} (h : RelV E v u) : RelFs E v.fs u.cells.toList := by
 cases v with
 | c x =>
  have hs := single_of h
  have : u.cells = #[u] := by cases u <;> first | rfl | exact hs.elim
  rw [this];exact relFs_one h
 | g fs =>
  obtain ⟨cs, rfl, h⟩ := h;exact h
theorem fold_splice (vs : Array Value) (off : Nat) (cells : Array Value) (h : off + vs.size <= cells.size) :
  (vs.zipIdx.foldl (fun cs (x : Value × Nat) => cs.setIfInBounds (off + x.2) x.1) cells).toList = cells.toList.take off ++ vs.toList ++ cells.toList.drop (off + vs.size) := by
 have e : vs.zipIdx.foldl (fun cs (x : Value × Nat) => cs.setIfInBounds (off + x.2) x.1) cells = (vs.toList.zipIdx 0).foldl (fun cs (x : Value × Nat) => cs.setIfInBounds (off + x.2) x.1) cells := by
  rw [<- Array.foldl_toList]; simp
 rw [e];obtain ⟨h1, h2⟩ := Great.foldl_set off vs.toList 0 cells
 apply List.ext_getElem?
 intro k;rw [Array.getElem?_toList, h2 k]
 simp only [Nat.add_zero, Array.length_toList];rw [List.getElem?_append, List.getElem?_append]
 simp only [List.length_append, List.length_take, Array.length_toList, List.getElem?_take, Array.getElem?_toList, List.getElem?_drop]
 rw [show min off cells.size = off from by omega]
 by_cases h3 : k < off
 ·rw [if_neg (by omega), if_pos (by omega), if_pos (by omega), if_pos h3]
 ·by_cases h4 : k < off + vs.size
  ·rw [if_pos ⟨by omega, h4, by omega⟩, if_pos h4, if_neg h3]
  ·rw [if_neg (by omega), if_neg (by omega)]
   congr 1
   omega
def RelPs (E : Env) : List (Nat × SV) -> List (Nat × Value) -> Prop
 | [], qs => qs = []
 | (i, v) :: ps, qs => ∃ u qs', qs = (i, u) :: qs' /\ RelS E v u /\ RelPs E ps qs'
theorem putAll_sound {place : Nat -> Option (Nat × Nat)} : ∀ {ps : List (Nat × SV)} {qs : List (Nat × Value)} {fs fs' : List FCell} {cells : Array Value}, putAll place fs ps = some fs' -> RelPs E ps qs -> RelFs E fs cells.toList ->
  ∃ cells', Instr.fill place cells qs = some cells' /\ RelFs E fs' cells'.toList
 | [], qs, fs, fs', cells, h, hp, hr => by
  obtain rfl := smI h;have hp : qs = [] := hp
  subst hp;exact ⟨cells, rfl, hr⟩
 | (i, v) :: ps, qs, fs, fs', cells, h, hp, hr => by
  obtain ⟨u, qs', rfl, hv, hp'⟩ := hp;simp only [putAll] at h;split at h
  ·cases h
  ·rename_i off size hpl;split at h
   ·rename_i v;split at h
    ·rename_i hsz;split at h
     ·rename_i fs1 h1;have hc := v1_cells hv
      obtain ⟨g1, g2⟩ := setG_rel h1 hr hc;have hl : u.cells.size = size := by
       have := RelFs.len hc
       rw [Array.length_toList] at this;omega
      simp only [Array.length_toList] at g1 g2;have hsp := fold_splice u.cells off cells g2
      obtain ⟨cells', q1, q2⟩ := putAll_sound h hp' (cells := u.cells.zipIdx.foldl (fun cs (x : Value × Nat) => cs.setIfInBounds (off + x.2) x.1) cells) (by rw [hsp]; exact g1)
      refine ⟨cells', ?_, q2⟩
      simp only [Instr.fill, hpl];rw [if_neg (by simp [hl]; omega)]
      exact q1
     ·cases h
    ·cases h
   ·cases h
theorem putWs_sound {kd : IntKind} {m : Nat} : ∀ {ps : List (Nat × SV)} {qs : List (Nat × Value)} {xs ys : List Int}, putWs kd m xs ps = some ys -> RelPs E ps qs -> xs.length = m -> (∀ x ∈ xs, InK kd x) ->
  ∃ cells', Instr.fill (fun i => some (i * 1, 1)) (xs.map (Value.int kd)).toArray qs = some cells' /\ cells'.toList = ys.map (Value.int kd) /\ ys.length = m /\ ∀ x ∈ ys, InK kd x
 | [], qs, xs, ys, h, hp, hl, hi => by
  obtain rfl := smI h;have hp : qs = [] := hp
  subst hp;exact ⟨_, rfl, rfl, hl, hi⟩
 | (i, v) :: ps, qs, xs, ys, h, hp, hl, hi => by
  obtain ⟨u, qs', rfl, hv, hp'⟩ := hp;simp only [putWs] at h;split at h
  ·rename_i l kd' x;split at h
   ·rename_i hk;obtain ⟨rfl, hlt⟩ := hk;obtain ⟨rfl, hx⟩ := hv;obtain ⟨cells', q1, q2, q3, q4⟩ := putWs_sound h hp' (by simpa using hl) (fun y hy => by
     rcases List.mem_or_eq_of_mem_set hy with h | h
     ·exact hi y h
     ·subst h; exact hx)
    refine ⟨cells', ?_, q2, q3, q4⟩
    have hc : (Value.int kd x).cells = #[Value.int kd x] := rfl
    simp only [Instr.fill];rw [if_neg (by simp [hc]; omega)]
    rw [<- q1]
    congr 1
    apply Array.ext'
    have := fold_splice #[Value.int kd x] i (xs.map (Value.int kd)).toArray (by simp; omega)
    simp only [Nat.mul_one, hc];rw [this];simp [List.set_eq_take_append_cons_drop, hlt, hl]
   ·cases h
  ·cases h
theorem run_mapM_places (w : World) : ∀ (l : List Field), (∀ f ∈ l, (P.info? f.type).isSome = true) ->
  (l.mapM fun f => (do pure (f.offset, <- sizeOf f.type) : Sem (Nat × Nat))).run P w = .ok (l.map fun f => (f.offset, P.cellsOf f.type)) w
 | [], _ => rfl
 | f :: l, h => by
  obtain ⟨i, hi⟩ := Option.isSome_iff_exists.1 (h f List.mem_cons_self);have h1 : (sizeOf f.type).run P w = .ok (P.cellsOf f.type) w := by simp [sizeOf, run_typeInfo hi, Program.cellsOf, hi]
  have h2 := run_mapM_places w l (fun g hg => h g (List.mem_cons_of_mem _ hg))
  simp only [List.mapM_cons, Sem.run_bind, h1, Result.andThen_ok, Sem.run_pure, h2, List.map_cons]
theorem buildT_sound (hE : RepH G E) {T : TypeId} {ps : List (Nat × SV)} {parts : Array (Nat × Value)} {r : Res} (hp : RelPs E ps parts.toList) (h : (buildT P T ps).val = some r) : SemOk P G E (Instr.build T parts) r := by
 unfold buildT at h;split at h
 ·cases h
 ·rename_i z hz;obtain ⟨zv, hz1, hz2, _⟩ := zeroF_rel (E := E) hz;split at h
  ·rename_i fields hT;split at h
   ·rename_i hk;obtain ⟨fs, h1, h2⟩ := val_opt h;obtain rfl := val_ret h2;obtain ⟨cells, g1, g2⟩ := putAll_sound h1 hp hz2;have hm := run_mapM_places (P := P) E.w fields.toList (by unfold knownT at hk; rw [List.all_eq_true] at hk; exact hk)
    have hm' : (fields.mapM fun f => (do pure (f.offset, <- sizeOf f.type) : Sem (Nat × Nat))).run P E.w = .ok (fields.map fun f => (f.offset, P.cellsOf f.type)) E.w := by
     rw [Array.mapM_eq_mapM_toList, Sem.run_map, hm];simp only [Result.andThen_ok]
     congr 1
     apply Array.ext'
     simp
    have hpl : (fun i => (fields.map fun f => (f.offset, P.cellsOf f.type))[i]?) = placeF P fields := by
     funext i
     unfold placeF;rw [Array.getElem?_map]
     cases fields[i]? <;> rfl
    refine SemOk.pure hE (u := .agg cells) ?_ ⟨cells, rfl, g2⟩
    simp only [Instr.build, Sem.run_bind, hz1, Result.andThen_ok, run_underlying hT, hm', hpl, g1, Sem.run_pure]
   ·cases h
  ·rename_i n e hT;split at h
   ·rename_i he;have hs := run_sizeOf_pos (P := P) (t := e) (by omega) E.w
    split at h
    ·rename_i kd m xs;obtain ⟨ys, h1, h2⟩ := val_opt h;obtain rfl := val_ret h2;obtain ⟨us, hzl, g3, g4, g5⟩ := relFs_cons_ws hz2;have g5 : us = [] := g5
     subst g5;rw [List.append_nil] at hzl;obtain ⟨cells, g6, g7, g8, g9⟩ := putWs_sound h1 hp g3 g4;have hzc : zv.cells = (xs.map (Value.int kd)).toArray := by apply Array.ext'; simpa using hzl
     refine SemOk.pure hE (u := .agg cells) ?_ ⟨cells, rfl, ⟨_, [], by simp [g7], ⟨g8, g9, rfl⟩, rfl⟩⟩
     simp only [Instr.build, Sem.run_bind, hz1, Result.andThen_ok, run_underlying hT, hs, he, hzc, g6, Sem.run_pure]
    ·obtain ⟨fs, h1, h2⟩ := val_opt h;obtain rfl := val_ret h2;obtain ⟨cells, g1, g2⟩ := putAll_sound h1 hp hz2;refine SemOk.pure hE (u := .agg cells) ?_ ⟨cells, rfl, g2⟩
     simp only [Instr.build, Sem.run_bind, hz1, Result.andThen_ok, run_underlying hT, hs, g1, Sem.run_pure]
   ·split at h
    ·cases h
    ·rename_i he;have hs := run_sizeOf_pos (P := P) (t := e) (by omega) E.w
     obtain ⟨fs, h1, h2⟩ := val_opt h;obtain rfl := val_ret h2;obtain ⟨cells, g1, g2⟩ := putAll_sound h1 hp hz2;refine SemOk.pure hE (u := .agg cells) ?_ ⟨cells, rfl, g2⟩
     simp only [Instr.build, Sem.run_bind, hz1, Result.andThen_ok, run_underlying hT, hs, g1, Sem.run_pure]
  ·cases h
theorem ro_of_frz (hE : RepH G E) {b off len : Nat} {t : DTy} {xs : List t.den} {v : Value} (hb : getB E.H b = .frz t xs) (hR : ∀ k, E.β b = some k -> E.R k) (h : RelC E (.sl b off len) v) : RelC E (.ro t (xs.drop off) len) v := by
 obtain ⟨_, h⟩ := h;unfold RelSl at h;rw [hb] at h;obtain ⟨f1, f2, f3⟩ := hE.fits (.inr hb);obtain ⟨a, cap, rfl, h1, h2, h3, h4⟩ := h;rcases h4 with ⟨h4, h5⟩ | ⟨k, c, e, fz, h4, h5, h6, h7⟩
 ·have h0 := f2 h4
  have hx : xs = [] := List.eq_nil_of_length_eq_zero h0
  subst hx;exact ⟨a, cap, rfl, by simp at h3 ⊢; omega, by simp, h2, f1, fun h => by simp at h⟩
 ·have hle := f3 k c e fz h4 h6
  rw [<- h7] at hle;have hle := Nat.le_of_mul_le_mul_right hle f1
  refine ⟨a, cap, rfl, by rw [List.length_drop]; omega, by rw [List.length_drop]; omega, h2, f1, fun hne => ?_⟩
  have hpos : 0 < (xs.drop off).length := List.length_pos_iff.2 hne
  rw [List.length_drop] at hpos;obtain ⟨c', e', fz', g1, g2⟩ := blockRows hE (.inr hb) h4;rw [h6] at g1;cases g1
  refine ⟨k, off * t.size, c, e, fz, h5.resolve_left (by omega), hR k h4, h6, fun i hi => ?_⟩
  rw [List.length_drop] at hi;obtain ⟨us, q1, q2, q3⟩ := g2 (off + i) (by omega)
  refine ⟨us, by rw [List.getElem_drop]; exact q1, q2, fun j hj => ?_⟩
  rw [<- q3 j hj]; congr 1; rw [Nat.add_mul]; omega
theorem ro_of_sla {E E' : Env} (hE : RepH G E) {b o n off len : Nat} {fs : List FCell} {kd : IntKind} {xs : List Int} {v : Value} (hb : getB E.H b = .vals fs) (hw : wsAt fs o = some (kd, n, xs)) (hw' : E'.w = E.w) (hR : ∀ k, E.β b = some k -> E'.R k)
  (h : RelC E (.sla b o n off len) v) : RelC E' (.ro (.int kd) (xs.drop off) len) v := by
 obtain ⟨_, hv⟩ := h;unfold RelSla at hv;rw [hb] at hv;obtain ⟨a, cap, rfl, q1, q2, q3, q4⟩ := hv;obtain ⟨k', c, e, fz, g1, g2, g3, g4⟩ := hE.vals hb;obtain ⟨r1, r2, r3, r4⟩ := wsAt_rel hw g4;rw [Array.length_toList] at r4;refine ⟨a, cap, rfl, by show len <= List.length (List.drop off xs); rw [List.length_drop]; omega, by show List.length (List.drop off xs) <= cap; rw [List.length_drop]; omega, q2, by show 0 < 1; omega, fun hne => ?_⟩
 have hpos : 0 < List.length (List.drop off xs) := List.length_pos_iff.2 hne
 rw [List.length_drop] at hpos;rcases q4 with q4 | ⟨k, q4, rfl⟩
 ·omega
 rw [q4] at g1; obtain rfl := smI g1;refine ⟨k, o + off, c, e, fz, rfl, hR k q4, by rw [hw']; exact g2, fun i hi => ?_⟩
 have hi' : i < List.length (List.drop off xs) := hi
 rw [List.length_drop] at hi';have hgi : ∀ (hq : i < List.length (α := Int) (xs.drop off)), ((xs.drop off)[i]'hq) = xs[off + i] := fun hq => by rw [List.getElem_drop]
 have hgi := hgi hi
 refine ⟨[.int kd xs[off + i]], ⟨congrArg (fun z => [Value.int kd z]) hgi.symm, ?_⟩, rfl, fun j hj => ?_⟩
 ·show InK kd ((xs.drop off)[i]'hi)
  rw [hgi]; exact r2 _ (List.getElem_mem _)
 ·have hj : j = 0 := by have : j < 1 := hj; omega
  subst hj;have hr : (c.toList.drop o).take xs.length = xs.map (Value.int kd) := by rw [<- r3, r1]
  have hq : ((c.toList.drop o).take xs.length)[off + i]? = some (.int kd xs[off + i]) := by
   rw [hr, List.getElem?_map, List.getElem?_eq_getElem (by omega)]; rfl
  rw [List.getElem?_take, if_pos (by omega), List.getElem?_drop, Array.getElem?_toList] at hq
  show c[o + off + (i * 1 + 0)]? = _
  rw [show o + off + (i * 1 + 0) = o + (off + i) from by omega, hq]; rfl
def Frozen (G : GlobT) (E : Env) (wr : List (Nat × Blk)) (R' : Nat -> Prop) : Prop := RepH G ⟨E.β, setBs E.H wr, E.w, R'⟩ /\ Ext E ⟨E.β, setBs E.H wr, E.w, R'⟩
theorem freezeF_sound : ∀ {fs gs : List FCell} {wr : List (Nat × Blk)} {vs : List Value} {E : Env} {look : Look}, freezeF look fs = some (gs, wr) -> RepH G E -> RelFs E fs vs -> (∀ p ∈ wr, getB E.H p.1 = look p.1) ->
  (∃ R', Frozen G E wr R' /\ RelFs ⟨E.β, setBs E.H wr, E.w, R'⟩ gs vs) /\ fsize gs = fsize fs /\ (∀ p ∈ wr, live (look p.1) = true)
 | [], gs, wr, vs, E, look, h, hE, hr, hl => by
  simp only [freezeF, Option.some.injEq, Prod.mk.injEq] at h;obtain ⟨rfl, rfl⟩ := h;exact ⟨⟨E.R, ⟨hE, Ext.refl E⟩, hr⟩, rfl, fun p hp => by cases hp⟩
 | f :: fs, gs, wr, vs, E, look, h, hE, hr, hl => by
  have plain : ∀ (h : (match freezeF look fs with | some (r, ws) => some (f :: r, ws) | none => none) = some (gs, wr)),
    (∃ R', Frozen G E wr R' /\ RelFs ⟨E.β, setBs E.H wr, E.w, R'⟩ gs vs) /\ fsize gs = fsize (f :: fs) /\ (∀ p ∈ wr, live (look p.1) = true) := fun h => by
   split at h
   ·rename_i r ws hf;simp only [Option.some.injEq, Prod.mk.injEq] at h;obtain ⟨rfl, rfl⟩ := h;obtain ⟨v1, v2, rfl, h1, h2⟩ := hr;obtain ⟨⟨R', g1, g2⟩, g3, g4⟩ := freezeF_sound hf hE h2 hl;exact ⟨⟨R', g1, v1, v2, rfl, RelF.ext hE g1.2 f v1 h1, g2⟩, by simp only [fsize, g3], g4⟩
   ·cases h
  cases f with
  | ws k n xs => exact plain h
  | c x =>
   cases x with
   | sl b off len =>
    simp only [freezeF] at h;split at h
    ·rename_i t xs lo par r ws hb hf;split at h
     ·cases h
     ·rename_i hno;simp only [Option.some.injEq, Prod.mk.injEq] at h;obtain ⟨rfl, rfl⟩ := h;obtain ⟨v1, v2, rfl, h1, h2⟩ := hr;obtain ⟨⟨R', g1, g2⟩, g3, g4⟩ := freezeF_sound hf hE h2 (fun p hp => hl p (List.mem_append_left _ hp))
      have hbE : getB E.H b = .arr t xs lo par := (hl (b, .frz t xs) (List.mem_append_right _ (List.mem_singleton.2 rfl))).trans hb
      have hb1 : getB (setBs E.H ws) b = .arr t xs lo par := by
       rw [getB_setBs_not ws _ b (fun p hp e => hno (List.any_eq_true.2 ⟨p, hp, by simp [e]⟩))]; exact hbE
      obtain ⟨q1, q2⟩ := env_freeze g1.1 (b := b) hb1 True;have hEq : setBs E.H (ws ++ [(b, Blk.frz t xs)]) = setB (setBs E.H ws) b (.frz t xs) := by rw [setBs_append]; rfl
      refine ⟨⟨fun k => R' k \/ (True /\ E.β b = some k), ⟨by rw [hEq]; exact q1, by rw [hEq]; exact g1.2.trans q2⟩, v1, v2, rfl, ?_, ?_⟩, by simp only [fsize, g3]; rfl, ?_⟩
      ·have h3 := RelF.ext g1.1 q2 _ _ (RelF.ext hE g1.2 _ _ h1)
       obtain ⟨v, rfl, h3⟩ := h3;rw [hEq];refine ⟨v, rfl, ?_⟩
       have hlen : b < (setBs E.H ws).length := by rw [length_setBs]; exact getB_len (by rw [hbE]; intro h; cases h)
       exact ro_of_frz q1 (getB_setB_same hlen) (fun k hk => .inr ⟨trivial, hk⟩) h3
      ·rw [hEq]; exact RelFs.ext g1.1 q2 _ _ g2
      ·intro p hp;rcases List.mem_append.1 hp with hp | hp
       ·exact g4 p hp
       ·rw [List.mem_singleton.1 hp, hb]; rfl
    ·cases h
   | ptr b i es o k n => simp [freezeF] at h
   | sla b o n off len =>
    simp only [freezeF] at h;split at h
    ·rename_i g r ws hg hf;split at h
     ·cases h
     ·rename_i hno;simp only [Option.some.injEq, Prod.mk.injEq] at h;obtain ⟨rfl, rfl⟩ := h;obtain ⟨gs0, kd, xs, hb, hw, rfl⟩ := frzSla_some hg;obtain ⟨v1, v2, rfl, h1, h2⟩ := hr;obtain ⟨⟨R', g1, g2⟩, g3, g4⟩ := freezeF_sound hf hE h2 (fun p hp => hl p (List.mem_append_left _ hp))
      have hbE : getB E.H b = .vals gs0 := (hl (b, .gone) (List.mem_append_right _ (List.mem_singleton.2 rfl))).trans hb
      have hb1 : getB (setBs E.H ws) b = .vals gs0 := by
       rw [getB_setBs_not ws _ b (fun p hp e => hno (List.any_eq_true.2 ⟨p, hp, by simp [e]⟩))]; exact hbE
      obtain ⟨q1, q2⟩ := env_goneV g1.1 (b := b) hb1 True;have hEq : setBs E.H (ws ++ [(b, Blk.gone)]) = setB (setBs E.H ws) b .gone := by rw [setBs_append]; rfl
      refine ⟨⟨fun k => R' k \/ (True /\ E.β b = some k), ⟨by rw [hEq]; exact q1, by rw [hEq]; exact g1.2.trans q2⟩, v1, v2, rfl, ?_, ?_⟩, by simp only [fsize, g3]; rfl, ?_⟩
      ·have h3 := RelF.ext hE g1.2 _ _ h1
       obtain ⟨v, rfl, h3⟩ := h3;exact ⟨v, rfl, ro_of_sla g1.1 hb1 hw rfl (fun k hk => .inr ⟨trivial, hk⟩) h3⟩
      ·rw [hEq]; exact RelFs.ext g1.1 q2 _ _ g2
      ·intro p hp;rcases List.mem_append.1 hp with hp | hp
       ·exact g4 p hp
       ·rw [List.mem_singleton.1 hp, hb]; rfl
    ·cases h
   | _ => exact plain h
theorem freezeQ_sound {rf : Bool} {fs gs : List FCell} {wr : List (Nat × Blk)} {vs : List Value} {E : Env} {look : Look} (h : freezeQ rf look fs = some (gs, wr)) (hE : RepH G E) (hv : RelFs E fs vs) (hl : ∀ p ∈ wr, getB E.H p.1 = look p.1) :
  (∃ R', Frozen G E wr R' /\ RelFs ⟨E.β, setBs E.H wr, E.w, R'⟩ gs vs) /\ fsize gs = fsize fs /\ (∀ p ∈ wr, live (look p.1) = true) := by
 cases rf with
 | false => exact freezeF_sound h hE hv hl
 | true =>
  simp only [freezeQ, Option.some.injEq, Prod.mk.injEq] at h;obtain ⟨rfl, rfl⟩ := h;exact ⟨⟨E.R, ⟨hE, Ext.refl E⟩, hv⟩, rfl, fun p hp => by cases hp⟩
theorem partD_sound {rf : Bool} {t : DTy} {look : Look} {v : SV} {d : t.den} {wr : List (Nat × Blk)} {u : Value} (h : partD rf t look v = some (d, wr)) (hE : RepH G E) (hv : RelS E v u) (hl : ∀ p ∈ wr, getB E.H p.1 = look p.1) :
  (∃ R', Frozen G E wr R' /\ RoT ⟨E.β, setBs E.H wr, E.w, R'⟩ t d u.cells.toList) /\ (∀ p ∈ wr, live (look p.1) = true) := by
 unfold partD at h;split at h
 ·split at h
  ·rename_i gs wr' hf;split at h
   ·rename_i d' hd;simp only [Option.some.injEq, Prod.mk.injEq] at h;obtain ⟨rfl, rfl⟩ := h;obtain ⟨⟨R', g1, g2⟩, _, g4⟩ := freezeQ_sound hf hE (v1_cells hv) hl;exact ⟨⟨R', g1, ofFall_rel hd g2⟩, g4⟩
   ·cases h
  ·cases h
 ·cases h
def rowsL (z : List Value) : (n i : Nat) -> List (Nat × Value) -> List (List Value)
 | 0, _, _ => []
 | n + 1, i, [] => z :: rowsL z n (i + 1) []
 | n + 1, i, (j, v) :: ps => if j = i then v.cells.toList :: rowsL z n (i + 1) ps else z :: rowsL z n (i + 1) ((j, v) :: ps)
theorem fill_rows {rf : Bool} {s : Nat} {z : List Value} (hz : z.length = s) (hs : 0 < s) : ∀ (n i : Nat) (ps : List (Nat × SV)) (qs : List (Nat × Value)) (pre : List Value) {t : DTy} {look : Look} {zd : t.den} {xs : List t.den} {wr : List (Nat × Blk)} {E0 : Env},
  partsD rf t look zd n i ps = some (xs, wr) -> RelPs E0 ps qs -> (∀ (v : SV) (u : Value) d w, partD rf t look v = some (d, w) -> RelS E0 v u -> u.cells.size = s) -> pre.length = i * s ->
  Instr.fill (fun i => some (i * s, s)) (pre ++ (List.replicate n z).flatten).toArray qs = some (pre ++ (rowsL z n i qs).flatten).toArray /\ ∀ r ∈ rowsL z n i qs, r.length = s
 | 0, i, [], qs, pre, t, look, zd, xs, wr, E0, h, hp, hc, hpre => by
  have hp : qs = [] := hp
  subst hp;exact ⟨rfl, fun r hr => by cases hr⟩
 | 0, i, p :: ps, qs, pre, t, look, zd, xs, wr, E0, h, hp, hc, hpre => by simp [partsD] at h
 | n + 1, i, [], qs, pre, t, look, zd, xs, wr, E0, h, hp, hc, hpre => by
  have hp : qs = [] := hp
  subst hp;simp only [partsD] at h;split at h
  ·rename_i r ws h1;obtain ⟨g1, g2⟩ := fill_rows hz hs n (i + 1) [] [] (pre ++ z) (E0 := E0) h1 rfl hc (by rw [List.length_append, hpre, hz, Nat.add_mul]; omega)
   refine ⟨?_, fun r hr => ?_⟩
   ·simp only [List.replicate_succ, List.flatten_cons, rowsL, <- List.append_assoc];exact g1
   ·simp only [rowsL] at hr;rcases List.mem_cons.1 hr with h | h
    ·rw [h]; exact hz
    ·exact g2 r h
  ·cases h
 | n + 1, i, (j, v) :: ps, qs, pre, t, look, zd, xs, wr, E0, h, hp, hc, hpre => by
  obtain ⟨u, qs', rfl, hv, hp'⟩ := hp;simp only [partsD] at h;by_cases hj : j = i
  ·rw [if_pos hj] at h;subst hj;split at h
   ·rename_i d w r ws h1 h2;have hcs := hc v u d w h1 hv
    obtain ⟨g1, g2⟩ := fill_rows hz hs n (j + 1) ps qs' (pre ++ u.cells.toList) (E0 := E0) h2 hp' hc (by rw [List.length_append, hpre, Array.length_toList, hcs, Nat.add_mul]; omega)
    refine ⟨?_, fun r hr => ?_⟩
    ·have hsp := fold_splice u.cells (j * s) (pre ++ (List.replicate (n + 1) z).flatten).toArray (by simp [List.replicate_succ, hpre, hcs, hz])
     have hset : u.cells.zipIdx.foldl (fun cs (x : Value × Nat) => cs.setIfInBounds (j * s + x.2) x.1) (pre ++ (List.replicate (n + 1) z).flatten).toArray = (pre ++ u.cells.toList ++ (List.replicate n z).flatten).toArray := by
      apply Array.ext'
      rw [hsp];simp only [List.replicate_succ, List.flatten_cons];rw [<- hpre, List.take_left, hcs, List.drop_append, List.drop_eq_nil_of_le (by omega), List.nil_append,
       show pre.length + s - pre.length = z.length from by omega, List.drop_left]
     simp only [Instr.fill];rw [if_neg (by simp [hcs, hpre, List.replicate_succ, hz])]
     show Instr.fill _ (u.cells.zipIdx.foldl (fun cs (x : Value × Nat) => cs.setIfInBounds (j * s + x.2) x.1) _) qs' = _
     rw [hset, g1];simp [rowsL]
    ·simp only [rowsL, if_true] at hr;rcases List.mem_cons.1 hr with h | h
     ·rw [h, Array.length_toList]; exact hcs
     ·exact g2 r h
   ·cases h
  ·rw [if_neg hj] at h;split at h
   ·rename_i r ws h1;obtain ⟨g1, g2⟩ := fill_rows hz hs n (i + 1) ((j, v) :: ps) ((j, u) :: qs') (pre ++ z) (E0 := E0) h1 ⟨u, qs', rfl, hv, hp'⟩ hc (by rw [List.length_append, hpre, hz, Nat.add_mul]; omega)
    refine ⟨?_, fun r hr => ?_⟩
    ·simp only [List.replicate_succ, List.flatten_cons, rowsL, if_neg hj, <- List.append_assoc];exact g1
    ·simp only [rowsL, if_neg hj] at hr;rcases List.mem_cons.1 hr with h | h
     ·rw [h]; exact hz
     ·exact g2 r h
   ·cases h
def DataRows (E : Env) (t : DTy) : List t.den -> List (List Value) -> Prop
 | [], rs => rs = []
 | x :: xs, rs => ∃ r rs', rs = r :: rs' /\ RoT E t x r /\ DataRows E t xs rs'
theorem DataRows.ext {E' : Env} (hE : RepH G E) (x : Ext E E') {t : DTy} : ∀ {xs : List t.den} {rs : List (List Value)}, DataRows E t xs rs -> DataRows E' t xs rs
 | [], _, h => h
 | y :: xs, rs, h => by
  obtain ⟨r, rs', rfl, h1, h2⟩ := h;exact ⟨r, rs', rfl, RoT.ext hE x t y r h1, DataRows.ext hE x h2⟩
theorem DataRows.rows {t : DTy} : ∀ {xs : List t.den} {rs : List (List Value)}, DataRows E t xs rs -> Rows t.size (RoT E t) xs 0 rs.flatten.toArray
 | [], _, _ => fun i hi => by simp at hi
 | y :: xs, rs, h => by
  obtain ⟨r, rs', rfl, h1, h2⟩ := h;have hl := RoT.len h1
  intro i hi;cases i with
  | zero => exact ⟨r, h1, hl, fun j hj => by simp [List.getElem?_append, hl, hj]⟩
  | succ i =>
   obtain ⟨us, q1, q2, q3⟩ := DataRows.rows h2 i (by simpa using hi)
   refine ⟨us, q1, q2, fun j hj => ?_⟩
   rw [<- q3 j hj];simp only [List.getElem?_toArray, List.flatten_cons]
   rw [List.getElem?_append_right (by rw [hl, Nat.add_mul]; omega)]
   congr 1
   rw [hl, Nat.add_mul]; omega
theorem partsD_sound {rf : Bool} {t : DTy} {look : Look} {zd : t.den} {z : List Value} : ∀ (n i : Nat) (ps : List (Nat × SV)) (qs : List (Nat × Value)) {xs : List t.den} {wr : List (Nat × Blk)} {E : Env}, partsD rf t look zd n i ps = some (xs, wr) -> RepH G E -> RelPs E ps qs ->
  RoT E t zd z -> (∀ p ∈ wr, getB E.H p.1 = look p.1) ->
  (∃ R', Frozen G E wr R' /\ DataRows ⟨E.β, setBs E.H wr, E.w, R'⟩ t xs (rowsL z n i qs)) /\ (∀ p ∈ wr, live (look p.1) = true) /\ xs.length = n
 | 0, i, [], qs, xs, wr, E, h, hE, hp, hz, hl => by
  simp only [partsD, Option.some.injEq, Prod.mk.injEq] at h;obtain ⟨rfl, rfl⟩ := h;exact ⟨⟨E.R, ⟨hE, Ext.refl E⟩, rfl⟩, fun p hp => (by cases hp), rfl⟩
 | 0, i, p :: ps, qs, xs, wr, E, h, hE, hp, hz, hl => by simp [partsD] at h
 | n + 1, i, [], qs, xs, wr, E, h, hE, hp, hz, hl => by
  have hp' : qs = [] := hp
  subst hp';simp only [partsD] at h;split at h
  ·rename_i r ws h1;simp only [Option.some.injEq, Prod.mk.injEq] at h;obtain ⟨rfl, rfl⟩ := h;obtain ⟨⟨R', g1, g2⟩, g3, g4⟩ := partsD_sound n (i + 1) [] [] h1 hE rfl hz hl;exact ⟨⟨R', g1, z, _, rfl, RoT.ext hE g1.2 t zd z hz, g2⟩, g3, by simp [g4]⟩
  ·cases h
 | n + 1, i, (j, v) :: ps, qs, xs, wr, E, h, hE, hp, hz, hl => by
  simp only [partsD] at h;by_cases hj : j = i
  ·rw [if_pos hj] at h;subst hj;split at h
   ·rename_i d w r ws h1 h2;split at h
    ·cases h
    ·rename_i hno;simp only [Option.some.injEq, Prod.mk.injEq] at h;obtain ⟨rfl, rfl⟩ := h;obtain ⟨u, qs', rfl, hv, hp'⟩ := hp;obtain ⟨⟨R', g1, g2⟩, g3, g4⟩ := partsD_sound n (j + 1) ps qs' h2 hE hp' hz (fun p hp => hl p (List.mem_append_left _ hp))
     have hl' : ∀ p ∈ w, getB (setBs E.H ws) p.1 = look p.1 := fun p hp => by
      rw [getB_setBs_not ws _ p.1 (fun q hq e => hno (List.any_eq_true.2 ⟨p, hp, List.any_eq_true.2 ⟨q, hq, by simp [e]⟩⟩))]
      exact hl p (List.mem_append_right _ hp)
     obtain ⟨⟨R'', q1, q2⟩, q3⟩ := partD_sound h1 g1.1 (RelS.ext hE g1.2 _ _ hv) hl';refine ⟨⟨R'', ⟨by rw [setBs_append]; exact q1.1, by rw [setBs_append]; exact g1.2.trans q1.2⟩, ?_⟩, ?_, by simp [g4]⟩
     ·rw [setBs_append];simp only [rowsL, if_true];exact ⟨_, _, rfl, q2, DataRows.ext g1.1 q1.2 g2⟩
     ·intro p hp;rcases List.mem_append.1 hp with hp | hp
      ·exact g3 p hp
      ·exact q3 p hp
   ·cases h
  ·rw [if_neg hj] at h;split at h
   ·rename_i r ws h1;simp only [Option.some.injEq, Prod.mk.injEq] at h;obtain ⟨rfl, rfl⟩ := h;obtain ⟨⟨R', g1, g2⟩, g3, g4⟩ := partsD_sound n (i + 1) ((j, v) :: ps) qs h1 hE hp hz hl;obtain ⟨u, qs', rfl, hv, hp'⟩ := hp;refine ⟨⟨R', g1, ?_⟩, g3, by simp [g4]⟩
    simp only [rowsL, if_neg hj];exact ⟨z, _, rfl, RoT.ext hE g1.2 t zd z hz, g2⟩
   ·cases h
theorem range_zero_cells {z : Array Value} {s len : Nat} (hz : z.size = s) (hs : 0 < s) : ((Array.range (len * s)).map (z[· % z.size]!)).toList = (List.replicate len z.toList).flatten := by
 have key : ∀ n, (List.range (n * s)).map (fun i => z[i % s]!) = (List.replicate n z.toList).flatten := fun n => by
  induction n with
  | zero => simp
  | succ n ih =>
   rw [Nat.succ_mul, List.range_add, List.map_append, ih, List.map_map];rw [show List.replicate (n + 1) z.toList = List.replicate n z.toList ++ [z.toList] from by rw [List.replicate_succ']]
   rw [List.flatten_append]
   congr 1
   simp only [List.flatten_cons, List.flatten_nil, List.append_nil]
   apply List.ext_getElem
   ·simp [hz]
   ·intro i h1 h2;have hi : i < s := by simpa using h1
    simp only [List.getElem_map, Function.comp, List.getElem_range, Array.getElem_toList];rw [Nat.mul_add_mod_of_lt hi];rw [getElem!_pos z i (by omega)]
 rw [Array.toList_map, Array.toList_range, hz];exact key len
theorem zeroD_sound {t : DTy} {e : TypeId} {zd : t.den} (h : zeroD P t e = some zd) : ∃ i v, P.info? e = some i /\ i.zero = some v /\ ∀ E : Env, RoT E t zd v.cells.toList := by
 unfold zeroD at h;split at h
 ·rename_i fs hf;obtain ⟨_, _, _, i, hi, hv⟩ := zeroF_rel (E := ⟨fun _ => none, [], default, fun _ => False⟩) hf
  refine ⟨i, _, hi, hv, fun E => ?_⟩
  obtain ⟨v', q1, q2, i', q3, q4⟩ := zeroF_rel (E := E) hf;rw [hi] at q3;obtain rfl := smI q3;rw [hv] at q4;obtain rfl := smI q4;exact ofFall_rel h q2
 ·cases h
theorem frozen_then {wr : List (Nat × Blk)} {R' : Nat -> Prop} {nid : Nat} (hf : Frozen G E wr R') (hn : fresh1 E nid) (hw : ∀ p ∈ wr, live (getB E.H p.1) = true) : fresh1 ⟨E.β, setBs E.H wr, E.w, R'⟩ nid := by
 refine ⟨by show nid < (setBs E.H wr).length; rw [length_setBs]; exact hn.1, ?_⟩
 show getB (setBs E.H wr) nid = .dead
 rw [getB_setBs_not wr _ nid (fun p hp e => by have := hw p hp; rw [e, hn.2] at this; cases this)]
 exact hn.2
theorem arr_new {nid n : Nat} {t : DTy} {xs : List t.den} {E' : Env} {c : Array Value} {e : TypeId} {fz : Nat × Nat} {k cap : Nat} (hb : getB E'.H nid = .arr t xs 0 []) (hk : E'.β nid = some k) (hc : E'.w.heap[k]? = some (.cells c e fz)) (hs : cap * t.size = c.size) (hcap : cap < 9223372036854775808) (hn : n <= xs.length) (hle : n <= cap) :
  RelC E' (.sl nid 0 n) (.slice (some ⟨k, 0, none⟩) n cap) := by
 refine ⟨trivial, ?_⟩
 unfold RelSl;rw [hb];exact ⟨_, _, rfl, hle, hcap, by omega, .inr ⟨k, c, e, fz, hk, .inr (by simp), hc, by simpa using hs⟩⟩
theorem newArr_sound (hE : RepH G E) {wr : List (Nat × Blk)} {R' : Nat -> Prop} (hf : Frozen G E wr R') {nid : Nat} (hn : fresh1 E nid) (hw : ∀ p ∈ wr, live (getB E.H p.1) = true) {t : DTy} {xs : List t.den} {c : Array Value} {e : TypeId} {fz : Nat × Nat} {n cap : Nat} {w' : World} (hs : Same E.w w')
  (hh : w'.heap = E.w.heap.push (.cells c e fz)) (hz : NoFzT t fz c.size) (ht : 0 < t.size) (hrows : Rows t.size (RoT ⟨E.β, setBs E.H wr, E.w, R'⟩ t) xs 0 c) (hsz : cap * t.size = c.size) (hcap : cap < 9223372036854775808) (hxn : n <= xs.length) (hle : n <= cap) :
  ResR G E (one (.sl nid 0 n), wr ++ [(nid, .arr t xs 0 [])]) (.slice (some ⟨E.w.heap.size, 0, none⟩) n cap) w' := by
 have hn' := frozen_then hf hn hw
 obtain ⟨h1, h2⟩ := env_alloc hf.1 hn'.1 hn'.2 (w' := w') (c := c) (e := e) (fz := fz) hs hh hz (blk := .arr t xs 0 []) ⟨Nat.zero_le _, ht, hrows⟩;have hEq : setBs E.H (wr ++ [(nid, Blk.arr t xs 0 [])]) = setB (setBs E.H wr) nid (.arr t xs 0 []) := by rw [setBs_append]; rfl
 refine ⟨_, _, by rw [hEq]; exact h1, by rw [hEq]; exact hf.2.trans h2, ?_⟩
 show RelC _ _ _
 rw [hEq];exact arr_new (k := E.w.heap.size) (c := c) (e := e) (fz := fz) (getB_setB_same hn'.1) (if_pos rfl) (by show w'.heap[_]? = _; rw [hh]; simp) hsz hcap hxn hle
theorem run_buildSlice {T e : TypeId} {len s : Nat} {parts : Array (Nat × Value)} {i : TypeInfo} {z : Value} {cells : Array Value} (hT : P.underlying T = some (.slice e)) (hi : P.info? e = some i) (hz : i.zero = some z) (hs : P.cellsOf e = s) (hs0 : 0 < s) (hsmall : len * s <= 16777216)
  (hf : Instr.fill (fun i => some (i * s, s)) ((Array.range (len * s)).map (z.cells[· % z.cells.size]!)) parts.toList = some cells) (h0 : len = 0 -> cells = #[]) (hp0 : len = 0 -> parts.toList = []) (w : World) :
  (Instr.buildSlice T len parts).run P w = .ok (.slice (some ⟨w.heap.size, 0, none⟩) len len) (w.alloc (.cells cells e)) := by
 have hsz : i.size = s := by simpa [Program.cellsOf, hi] using hs
 have n1 : ¬ (16777216 < len * s) := by omega
 by_cases hl : len * s = 0
 ·have hl0 : len = 0 := by rcases Nat.mul_eq_zero.1 hl with h | h <;> omega
  subst hl0;rw [h0 rfl];have hp := hp0 rfl
  simp [Instr.buildSlice, run_underlying hT, sizeOf, run_typeInfo hi, hsz, hp, Instr.fill, newRow]
  rw [show (Array.map (fun _ => (default : Value)) (Array.range 0)) = #[] from by apply Array.ext'; simp]
 ·simp [Instr.buildSlice, run_underlying hT, sizeOf, run_typeInfo hi, hsz, n1, hl, zeroValue, hz, hf, newRow]
theorem dataRows_len {t : DTy} : ∀ {xs : List t.den} {rs : List (List Value)}, DataRows E t xs rs -> rs.flatten.length = xs.length * t.size
 | [], rs, h => by have h : rs = [] := h; subst h; simp
 | x :: xs, rs, h => by
  obtain ⟨r, rs', rfl, h1, h2⟩ := h;rw [List.flatten_cons, List.length_append, RoT.len h1, dataRows_len h2, List.length_cons, Nat.add_mul]; omega
theorem freezeF_live {look : Look} : ∀ {fs gs : List FCell} {wr : List (Nat × Blk)}, freezeF look fs = some (gs, wr) -> ∀ p ∈ wr, live (look p.1) = true
 | [], gs, wr, h, p, hp => by
  simp only [freezeF, Option.some.injEq, Prod.mk.injEq] at h;rw [<- h.2] at hp; cases hp
 | f :: fs, gs, wr, h, p, hp => by
  have plain : ∀ (h : (match freezeF look fs with | some (r, ws) => some (f :: r, ws) | none => none) = some (gs, wr)), live (look p.1) = true := fun h => by
   split at h
   ·rename_i r ws hf;simp only [Option.some.injEq, Prod.mk.injEq] at h;rw [<- h.2] at hp;exact freezeF_live hf p hp
   ·cases h
  cases f with
  | ws k n xs => exact plain h
  | c x => cases x with
   | sl b off len =>
    simp only [freezeF] at h;split at h
    ·rename_i t xs lo par r ws hb hf;split at h
     ·cases h
     ·simp only [Option.some.injEq, Prod.mk.injEq] at h;rw [<- h.2] at hp;rcases List.mem_append.1 hp with hp | hp
      ·exact freezeF_live hf p hp
      ·rw [List.mem_singleton.1 hp, hb]; rfl
    ·cases h
   | ptr b i es o k n => simp [freezeF] at h
   | sla b o n off len =>
    simp only [freezeF] at h;split at h
    ·rename_i g r ws hg hf;split at h
     ·cases h
     ·simp only [Option.some.injEq, Prod.mk.injEq] at h;obtain ⟨rfl, rfl⟩ := h;obtain ⟨gs0, kd, xs, hb, hw, rfl⟩ := frzSla_some hg;rcases List.mem_append.1 hp with hp | hp
      ·exact freezeF_live hf p hp
      ·rw [List.mem_singleton.1 hp, hb]; rfl
    ·cases h
   | _ => exact plain h
theorem freezeQ_live {rf : Bool} {look : Look} {fs gs : List FCell} {wr : List (Nat × Blk)} (h : freezeQ rf look fs = some (gs, wr)) : ∀ p ∈ wr, live (look p.1) = true := by
 cases rf with
 | false => exact freezeF_live h
 | true =>
  simp only [freezeQ, Option.some.injEq, Prod.mk.injEq] at h;obtain ⟨rfl, rfl⟩ := h;intro p hp; cases hp
theorem partD_live {rf : Bool} {t : DTy} {look : Look} {v : SV} {d : t.den} {wr : List (Nat × Blk)} (h : partD rf t look v = some (d, wr)) : ∀ p ∈ wr, live (look p.1) = true := by
 unfold partD at h;split at h
 ·split at h
  ·rename_i gs wr' hf;split at h
   ·simp only [Option.some.injEq, Prod.mk.injEq] at h;rw [<- h.2];exact freezeQ_live hf
   ·cases h
  ·cases h
 ·cases h
theorem partsD_live {rf : Bool} {t : DTy} {look : Look} {zd : t.den} : ∀ (n i : Nat) (ps : List (Nat × SV)) {xs : List t.den} {wr : List (Nat × Blk)}, partsD rf t look zd n i ps = some (xs, wr) -> ∀ p ∈ wr, live (look p.1) = true
 | 0, i, [], xs, wr, h, p, hp => by
  simp only [partsD, Option.some.injEq, Prod.mk.injEq] at h;rw [<- h.2] at hp; cases hp
 | 0, i, q :: ps, xs, wr, h, p, hp => by simp [partsD] at h
 | n + 1, i, [], xs, wr, h, p, hp => by
  simp only [partsD] at h;split at h
  ·rename_i r ws h1;simp only [Option.some.injEq, Prod.mk.injEq] at h;rw [<- h.2] at hp;exact partsD_live n (i + 1) [] h1 p hp
  ·cases h
 | n + 1, i, (j, v) :: ps, xs, wr, h, p, hp => by
  simp only [partsD] at h;by_cases hj : j = i
  ·rw [if_pos hj] at h;split at h
   ·rename_i d w r ws h1 h2;split at h
    ·cases h
    ·simp only [Option.some.injEq, Prod.mk.injEq] at h;rw [<- h.2] at hp;rcases List.mem_append.1 hp with hp | hp
     ·exact partsD_live n (i + 1) ps h2 p hp
     ·exact partD_live h1 p hp
   ·cases h
  ·rw [if_neg hj] at h;split at h
   ·rename_i r ws h1;simp only [Option.some.injEq, Prod.mk.injEq] at h;rw [<- h.2] at hp;exact partsD_live n (i + 1) ((j, v) :: ps) h1 p hp
   ·cases h
theorem buildSliceT_sound {rf : Bool} (hE : RepH G E) {look : Look} (hk : LookOk E look) {nid : Nat} (hn : fresh1 E nid) {T : TypeId} {len : Nat} {ps : List (Nat × SV)} {parts : Array (Nat × Value)} {r : Res} (hp : RelPs E ps parts.toList) (h : (buildSliceT rf P look nid T len ps).val = some r) :
  SemOk P G E (Instr.buildSlice T len parts) r := by
 unfold buildSliceT at h;split at h
 ·rename_i e hT;split at h
  ·cases h
  ·rename_i t ht;split at h
   ·rename_i hs;obtain ⟨hs1, hs2, hs3⟩ := hs;split at h
    ·cases h
    ·rename_i zd hz;obtain ⟨i, z, hi, hiz, hzr⟩ := zeroD_sound hz;split at h
     ·cases h
     ·rename_i xs wr hpd;obtain rfl := val_ret h;have hl0 : ∀ p ∈ wr, getB E.H p.1 = look p.1 := fun p hp => hk.eq rfl (live_ne_dead (partsD_live len 0 ps hpd p hp))
      obtain ⟨⟨R', g1, g2⟩, g3, g4⟩ := partsD_sound (z := z.cells.toList) len 0 ps parts.toList hpd hE hp (hzr E) hl0;have hzl : z.cells.toList.length = t.size := RoT.len (hzr E)
      rw [Array.length_toList] at hzl;obtain ⟨q1, q2⟩ := fill_rows (s := t.size) (z := z.cells.toList) (by simpa using hzl) hs2 len 0 ps parts.toList [] (E0 := E) hpd hp (fun v u d w hpd hv => by
       obtain ⟨⟨_, _, q⟩, _⟩ := partD_sound hpd hE hv (fun p hp => hk.eq rfl (live_ne_dead (partD_live hpd p hp)))
       have := RoT.len q
       rwa [Array.length_toList] at this) (by simp)
      simp only [List.nil_append] at q1;have hrun := run_buildSlice (parts := parts) (cells := (rowsL z.cells.toList len 0 parts.toList).flatten.toArray) hT hi hiz hs1.symm (by omega) hs3 (by
       rw [show (Array.range (len * t.size)).map (z.cells[· % z.cells.size]!) = ((List.replicate len z.cells.toList).flatten).toArray from by
        apply Array.ext'; rw [range_zero_cells hzl hs2]]
       exact q1) (fun h0 => by
        subst h0; simp [rowsL]) (fun h0 => by
        subst h0;cases ps with
        | nil => exact hp
        | cons p ps => simp [partsD] at hpd) E.w
      refine ⟨_, _, hrun, ?_⟩
      have hcs : ((rowsL z.cells.toList len 0 parts.toList).flatten.toArray).size = len * t.size := by
       have := dataRows_len g2
       rw [List.size_toArray, this, g4]
      exact newArr_sound hE g1 hn (fun p hp => by rw [hl0 p hp]; exact g3 p hp) (same_alloc _ _) rfl (noFzT0 _ _) hs2 g2.rows (by rw [hcs]) (by
       have : len * 1 <= len * t.size := Nat.mul_le_mul_left _ hs2
       omega) (by omega) (Nat.le_refl _)
   ·cases h
 ·cases h
theorem makeSliceT_sound (hE : RepH G E) {nid : Nat} (hn : fresh1 E nid) {T : TypeId} {l c : SV} {lv cv : Value} {r : Res} (hl : RelS E l lv) (hc : RelS E c cv) (h : (makeSliceT P nid T l c).val = some r) : SemOk P G E (Instr.makeSlice T lv cv) r := by
 unfold makeSliceT at h;split at h
 ·rename_i n _ m;obtain ⟨rfl, _⟩ := hl;obtain ⟨rfl, _⟩ := hc;split at h
  ·rename_i e hT;split at h
   ·cases h
   ·rename_i t ht;split at h
    ·rename_i hs;split at h
     ·cases h
     ·rename_i zd hz;obtain ⟨i, z, hi, hiz, hzr⟩ := zeroD_sound hz;obtain ⟨h1, h2⟩ := val_chk h;obtain ⟨h1, h3, h4, h5⟩ := ofD h1;obtain rfl := val_ret h2;have hby : (i.bytes : Int) * m <= 281474976710656 := by simpa [Program.bytesOf, hi] using h5
      have hsz : i.size = t.size := by have := hs.1; simp [Program.cellsOf, hi] at this; omega
      have hrun := run_make (P := P) E.w T e i z hT hi hiz .i64 .i64 n m h1 h3 hby (by omega)
      have hzl : z.cells.toList.length = t.size := RoT.len (hzr E)
      rw [Array.length_toList] at hzl;have hmc : madeCells z.cells (m.toNat * i.size) = ((List.replicate m.toNat z.cells.toList).flatten).toArray := by
       apply Array.ext'
       rw [hsz];exact range_zero_cells hzl hs.2
      refine ⟨_, _, hrun, ?_⟩
      have hdr : DataRows E t (List.replicate m.toNat zd) (List.replicate m.toNat z.cells.toList) := by
       generalize m.toNat = k
       induction k with
       | zero => rfl
       | succ k ih => exact ⟨_, _, rfl, hzr E, ih⟩
      rw [hmc];have hf : Frozen G E [] E.R := ⟨hE, Ext.refl E⟩
      have := newArr_sound hE hf hn (fun p hp => by cases hp) (t := t) (xs := List.replicate m.toNat zd) (c := ((List.replicate m.toNat z.cells.toList).flatten).toArray) (e := e) (fz := (0, 0)) (n := n.toNat) (cap := m.toNat) (w' := E.w.alloc (.cells ((List.replicate m.toNat z.cells.toList).flatten).toArray e)) (same_alloc _ _) rfl (noFzT0 _ _) hs.2
       hdr.rows (by rw [List.size_toArray, dataRows_len hdr, List.length_replicate]) (by omega) (by rw [List.length_replicate]; omega) (by omega)
      exact this
    ·cases h
  ·cases h
 ·cases h
end Go.SX
