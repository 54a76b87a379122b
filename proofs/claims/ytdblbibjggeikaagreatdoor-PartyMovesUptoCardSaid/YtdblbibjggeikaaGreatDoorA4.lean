/- SX, part 8: operations that read memory, or reckon with addresses. -/
import Derived.Test.YtdblbibjggeikaaGreatDoorA3
import Derived.Laws.MakeOwn
set_option linter.unusedSectionVars false
set_option linter.unusedVariables false
set_option linter.unusedSimpArgs false
namespace Go.SX
open Go
variable {G : GlobT} {E : Env} {P : Program}
def At (w : World) (kb base : Nat) (vs : List Value) : Prop := ∀ (j : Nat) (v : Value), vs[j]? = some v -> w.cell? ⟨kb, base + j, none⟩ = some v
theorem cell_of {w : World} {k : Nat} {c : Array Value} {e : TypeId} {fz : Nat × Nat} (h : w.heap[k]? = some (.cells c e fz)) (off : Nat) : w.cell? ⟨k, off, none⟩ = c[off]? := by
 simp [World.cell?, h]
theorem add_addr (kb off j : Nat) : (⟨kb, off, none⟩ : Addr).add j = ⟨kb, off + j, none⟩ := by unfold Addr.add; split <;> simp_all
theorem At.run {w : World} {kb base : Nat} {vs : List Value} (h : At w kb base vs) : (loadCells ⟨kb, base, none⟩ vs.length).run P w = .ok vs.toArray w :=
 run_loadCells_list w _ vs (fun j v hv => by rw [add_addr]; exact h j v hv)
theorem At.sub {w : World} {kb base : Nat} {vs : List Value} (h : At w kb base vs) (o m : Nat) : At w kb (base + o) ((vs.drop o).take m) := fun j v hv => by
 rw [Nat.add_assoc];refine h _ _ ?_
 rw [List.getElem?_take] at hv
 split at hv
 ·rwa [List.getElem?_drop] at hv
 ·cases hv
theorem load_run {w : World} {a : Addr} {v : Value} (h : w.cell? a = some v) : (load a).run P w = .ok v w := by simp [h]
theorem getGP_rel {fs : List FCell} {o n : Nat} {r : List FCell} {vs : List Value} (h : getGP fs o n = some r) (hr : RelFs E fs vs) :
  RelFs E r ((vs.drop o).take n) /\ o + n <= vs.length := by
 unfold getGP at h;split at h
 ·rename_i kd m xs r' h1;obtain ⟨g1, g2⟩ := dropF_rel h1 hr;split at h
  ·rename_i hlt;obtain rfl := smI h;obtain ⟨us, hus, g3, g4, g5⟩ := relFs_cons_ws g1;have hl : (vs.drop o).length = xs.length + us.length := by rw [hus, List.length_append, List.length_map]
   rw [List.length_drop] at hl;refine ⟨⟨(xs.take n).map (Value.int kd), [], ?_, ⟨by rw [List.length_take]; omega, fun y hy => g4 y (List.mem_of_mem_take hy), rfl⟩, rfl⟩, by omega⟩
   rw [hus, List.take_append, List.length_map, show n - xs.length = 0 from by omega, List.take_zero, List.map_take]
  ·obtain ⟨g3, g4⟩ := takeF_rel h g1;rw [List.length_drop] at g4;exact ⟨g3, by omega⟩
 ·rename_i r' h1;obtain ⟨g1, g2⟩ := dropF_rel ‹_› hr;obtain ⟨g3, g4⟩ := takeF_rel h g1;rw [List.length_drop] at g4;exact ⟨g3, by omega⟩
 ·cases h
theorem seeC_rel {x : Cell} {r : Res} {v : Value} (h : (seeC x).val = some r) (hr : RelC E x v) : r.2 = [] /\ RelS E r.1 v := by
 unfold seeC at h;split at h
 ·rename_i d;have key : ∀ b, d.isOwn b = true -> RelC E (.sl b d.off d.len) v := fun b hb => by
   cases d with
   | own b' off len =>
    have : b' = b := by simpa [RefD.isOwn] using hb
    subst this;exact hr
   | _ => simp [RefD.isOwn] at hb
  simp only [Tree.val] at h;split at h
  ·rename_i hb;obtain rfl := smI h;exact ⟨rfl, key 0 hb⟩
  ·split at h
   ·rename_i hb;obtain rfl := smI h;exact ⟨rfl, key 1 hb⟩
   ·obtain rfl := smI h;exact ⟨rfl, hr⟩
 ·obtain rfl := val_ret h;exact ⟨rfl, hr⟩
theorem loadF_sound (hE : RepH G E) {T : TypeId} {fs : List FCell} {o k n kb base : Nat} {vs : List Value} {r : Res} (h : (loadF P T fs o k n).val = some r) (hk : KN k n) (hr : RelFs E fs vs) (hat : At E.w kb base vs) :
  ∃ u, (loadVar T ⟨kb, base + (o + k), none⟩).run P E.w = .ok u E.w /\ r.2 = [] /\ RelS E r.1 u := by
 unfold loadF at h;split at h
 ·rename_i hT;obtain ⟨x, h1, h2⟩ := val_opt h;obtain ⟨v, g1, g2⟩ := getC_rel h1 hk hr;obtain ⟨q1, q2⟩ := seeC_rel h2 g2;refine ⟨v, ?_, q1, q2⟩
  simp only [loadVar, Sem.run_bind, run_isAgg hT, Result.andThen_ok, Bool.false_eq_true, if_false];exact load_run (hat _ _ g1)
 ·rename_i hT;split at h
  ·obtain ⟨gs, h1, h2⟩ := val_opt h;obtain rfl := val_ret h2;obtain ⟨g1, g2⟩ := getGP_rel h1 hr;refine ⟨.agg ((vs.drop o).take (P.cellsOf T)).toArray, ?_, rfl, ⟨_, rfl, by simpa using g1⟩⟩
   obtain ⟨d, hd⟩ := underlying_of_isAgg hT;have hl : ((vs.drop o).take (P.cellsOf T)).length = P.cellsOf T := by rw [List.length_take, List.length_drop]; omega
   have := (hat.sub o (P.cellsOf T)).run (P := P)
   rw [hl] at this;simp only [loadVar, Sem.run_bind, run_isAgg hT, Result.andThen_ok, if_true, run_sizeOf hd, Nat.add_zero, this, Sem.run_pure]
  ·cases h
 ·cases h
theorem Rows.at {sz : Nat} {α : Type} {Q : α -> List Value -> Prop} {xs : List α} {c : Array Value} {e : TypeId} {fz : Nat × Nat} {w : World} {k at_ : Nat} (h : Rows sz Q xs at_ c) (hc : w.heap[k]? = some (.cells c e fz)) {i : Nat} (hi : i < xs.length) :
  ∃ us, Q xs[i] us /\ us.length = sz /\ At w k (at_ + i * sz) us := by
 obtain ⟨us, h1, h2, h3⟩ := h i hi;refine ⟨us, h1, h2, fun j v hv => ?_⟩
 have hj : j < sz := by rw [<- h2]; exact (List.getElem?_eq_some_iff.1 hv).1
 rw [cell_of hc, Nat.add_assoc, h3 j hj]; exact hv
theorem blockRows (hE : RepH G E) {b k : Nat} {t : DTy} {xs : List t.den} (hb : (∃ lo par, getB E.H b = .arr t xs lo par) \/ getB E.H b = .frz t xs) (hk : E.β b = some k) :
  ∃ c e fz, E.w.heap[k]? = some (.cells c e fz) /\ Rows t.size (RoT E t) xs 0 c := by
 have h := hE.blk b
 rcases hb with ⟨lo, par, hb⟩ | hb <;> rw [hb] at h
 ·rcases h.2.2 with ⟨h1, _⟩ | ⟨k', c, e, fz, h1, h2, h3, h4⟩
  ·rw [hk] at h1; cases h1
  ·rw [hk] at h1; obtain rfl := smI h1; exact ⟨c, e, fz, h2, h4⟩
 ·rcases h.2 with ⟨h1, _⟩ | ⟨k', c, e, fz, h1, h2, h3, h4⟩
  ·rw [hk] at h1; cases h1
  ·rw [hk] at h1; obtain rfl := smI h1; exact ⟨c, e, fz, h2, h3⟩
theorem getD_eq {α : Type} {xs : List α} {i : Nat} {d : α} (h : i < xs.length) : xs.getD i d = xs[i] := by simp [List.getD, h]
theorem ints_at {kd : IntKind} {xs : List Int} {k at_ : Nat} {c : Array Value} {e : TypeId} {fz : Nat × Nat} {w : World} (hc : w.heap[k]? = some (.cells c e fz))
  (hrows : Rows 1 (fun d vs => vs = [Value.int kd d] /\ InK kd d) xs at_ c) : At w k at_ (xs.map (Value.int kd)) /\ ∀ x ∈ xs, InK kd x := by
 have hel : ∀ q (hq : q < xs.length), w.cell? ⟨k, at_ + q, none⟩ = some (.int kd xs[q]) /\ InK kd xs[q] := fun q hq => by
  obtain ⟨us, ⟨rfl, g4⟩, g2, g3⟩ := hrows q hq;have := g3 0 (by omega)
  simp only [Nat.mul_one, Nat.add_zero] at this;exact ⟨by rw [cell_of hc, this]; rfl, g4⟩
 refine ⟨fun j v hv => ?_, fun x hx => ?_⟩
 ·rw [List.getElem?_map] at hv
  cases hx : xs[j]? with
  | none => rw [hx] at hv; cases hv
  | some y =>
   rw [hx] at hv;obtain ⟨hq, hy⟩ := List.getElem?_eq_some_iff.1 hx
   obtain rfl := smI hv;rw [(hel j hq).1, hy]
 ·obtain ⟨q, hq, rfl⟩ := List.getElem_of_mem hx;exact (hel q hq).2
theorem rowInts {T e' : TypeId} {kd : IntKind} {xs : List Int} {i k n : Nat} {c : Array Value} {e : TypeId} {fz : Nat × Nat} (hT : P.underlying T = some (.array n e')) (hsz : P.cellsOf T = n) (h1 : i + n <= xs.length)
  (hc : E.w.heap[k]? = some (.cells c e fz)) (hrows : Rows 1 (fun d vs => vs = [Value.int kd d] /\ InK kd d) xs 0 c) :
  ∃ u, (loadVar T ⟨k, i, none⟩).run P E.w = .ok u E.w /\ RelS E (.one (.g [.ws kd n ((xs.drop i).take n)])) u := by
 obtain ⟨hat, hin⟩ := ints_at hc hrows;have hlen : ((xs.drop i).take n).length = n := by
  rw [List.length_take, List.length_drop];omega
 have hat' := hat.sub i n
 rw [<- List.map_drop, <- List.map_take, Nat.zero_add] at hat';have ha : isAggT P T = some true := by simp [isAggT, hT]
 have hrun := hat'.run (P := P)
 rw [List.length_map, hlen] at hrun;refine ⟨.agg (((xs.drop i).take n).map (Value.int kd)).toArray, ?_, ⟨_, rfl, ?_⟩⟩
 ·simp only [loadVar, Sem.run_bind, run_isAgg ha, Result.andThen_ok, if_true, run_sizeOf hT, hsz, hrun, Sem.run_pure]
 ·exact ⟨_, [], by simp, ⟨hlen, fun y hy => hin y (List.mem_of_mem_drop (List.mem_of_mem_take hy)), rfl⟩, rfl⟩
theorem rowLoad0_sound {T : TypeId} {t : DTy} {xs : List t.den} {i k : Nat} {tr : Tree Res} {r : Res} {c : Array Value} {e : TypeId} {fz : Nat × Nat} (h : rowLoad0 P T t xs i = some tr) (hr : tr.val = some r)
  (hc : E.w.heap[k]? = some (.cells c e fz)) (hrows : Rows t.size (RoT E t) xs 0 c) :
  ∃ u, (loadVar T ⟨k, i * t.size, none⟩).run P E.w = .ok u E.w /\ r.2 = [] /\ RelS E r.1 u := by
 unfold rowLoad0 at h;split at h
 ·rename_i kd xs n e' hT;split at h
  ·rename_i kd' he;split at h
   ·rename_i hkd;obtain ⟨rfl, hsz⟩ := hkd;obtain rfl := smI h;obtain ⟨h1, h2⟩ := val_chk hr;obtain rfl := val_ret h2;obtain ⟨u, g1, g2⟩ := rowInts (E := E) (xs := xs) hT hsz (ofD h1) hc hrows;exact ⟨u, by rw [show i * (DTy.int kd).size = i from Nat.mul_one i]; exact g1, rfl, g2⟩
   ·cases h
  ·cases h
 ·cases h
theorem rowLoad_sound {T : TypeId} {t : DTy} {xs : List t.den} {i o q n k : Nat} {tr : Tree Res} {r : Res} {c : Array Value} {e : TypeId} {fz : Nat × Nat} (h : rowLoad P T t xs i o q n = some tr) (hr : tr.val = some r)
  (hc : E.w.heap[k]? = some (.cells c e fz)) (hrows : Rows t.size (RoT E t) xs 0 c) :
  ∃ u, (loadVar T ⟨k, i * t.size + (o + q), none⟩).run P E.w = .ok u E.w /\ r.2 = [] /\ RelS E r.1 u := by
 unfold rowLoad at h;split at h
 ·cases h
 ·split at h
  ·exact rowLoad0_sound h hr hc hrows
  ·cases h
theorem run_sureAddr (a : Addr) (w : World) : (Instr.sureAddr (.pointer (some a))).run P w = .ok a w := rfl
theorem RepH.vals (hE : RepH G E) {b : Nat} {fs : List FCell} (hb : getB E.H b = .vals fs) :
  ∃ k c e fz, E.β b = some k /\ E.w.heap[k]? = some (.cells c e fz) /\ NoFzV fz c.size /\ RelFs E fs c.toList := by
 have h := hE.blk b
 rw [hb] at h;exact h
theorem vals_at {w : World} {k : Nat} {c : Array Value} {e : TypeId} {fz : Nat × Nat} (hc : w.heap[k]? = some (.cells c e fz)) : At w k 0 c.toList := fun j v hv => by
 rw [cell_of hc, Nat.zero_add]; simpa using hv
def LookOk (E : Env) (look : Look) : Prop := ∀ b, look b = .dead \/ look b = getB E.H b
theorem LookOk.eq {look : Look} (h : LookOk E look) {b : Nat} {k : Blk} (hb : look b = k) (hk : k ≠ .dead) : getB E.H b = k := by
 rcases h b with h1 | h1
 ·rw [h1] at hb; exact absurd hb.symm hk
 ·rw [<- h1]; exact hb
theorem loadT_sound (hE : RepH G E) {look : Look} (hl : LookOk E look) {T : TypeId} {p : SV} {x : Value} {r : Res} (hp : RelS E p x) (h : (loadT P look T p).val = some r) : SemOk P G E (Instr.loadAt T x) r := by
 unfold loadT at h;split at h
 ·rename_i b i es o k n;obtain ⟨_, h2⟩ := hp;unfold RelPtr at h2;split at h
  ·rename_i t xs lo par hb;have hb := hl.eq hb (by intro h; cases h)
   rw [hb] at h2;obtain ⟨_, h3', h5⟩ := h2;split at h
   ·rename_i hes;obtain ⟨⟨kb, h3, rfl⟩, h4⟩ := h3' hes;obtain ⟨c, e, fz, hc, hrows⟩ := blockRows hE (.inl ⟨lo, par, hb⟩) h3;split at h
    ·rename_i tr htr;obtain ⟨u, g1, g2, g3⟩ := rowLoad_sound htr h hc hrows;obtain ⟨rv, rw⟩ := r;obtain rfl : rw = [] := g2;exact SemOk.pure hE (u := u) (by simp only [Instr.loadAt, Sem.run_bind, run_sureAddr, Result.andThen_ok, hes]; exact g1) g3
    ·obtain ⟨fs, h6, h7⟩ := val_opt h;simp only [rowOf, Option.some.injEq] at h6;subst h6;rw [getD_eq h5] at h7;obtain ⟨us, q1, q2, q3⟩ := hrows.at hc h5;obtain ⟨u, g1, g2, g3⟩ := loadF_sound hE h7 h4 (toF_rel t _ us q1) q3;obtain ⟨rv, rw⟩ := r;obtain rfl : rw = [] := g2;exact SemOk.pure hE (u := u) (by simp only [Instr.loadAt, Sem.run_bind, run_sureAddr, Result.andThen_ok, hes]; rw [Nat.zero_add] at g1; exact g1) g3
   ·cases h
  ·rename_i t xs hb;have hb := hl.eq hb (by intro h; cases h)
   rw [hb] at h2;obtain ⟨_, h3', h5⟩ := h2;split at h
   ·rename_i hes;obtain ⟨⟨kb, h3, rfl⟩, h4⟩ := h3' hes;obtain ⟨c, e, fz, hc, hrows⟩ := blockRows hE (.inr hb) h3;split at h
    ·rename_i tr htr;obtain ⟨u, g1, g2, g3⟩ := rowLoad_sound htr h hc hrows;obtain ⟨rv, rw⟩ := r;obtain rfl : rw = [] := g2;exact SemOk.pure hE (u := u) (by simp only [Instr.loadAt, Sem.run_bind, run_sureAddr, Result.andThen_ok, hes]; exact g1) g3
    ·obtain ⟨fs, h6, h7⟩ := val_opt h;simp only [rowOf, Option.some.injEq] at h6;subst h6;rw [getD_eq h5] at h7;obtain ⟨us, q1, q2, q3⟩ := hrows.at hc h5;obtain ⟨u, g1, g2, g3⟩ := loadF_sound hE h7 h4 (toF_rel t _ us q1) q3;obtain ⟨rv, rw⟩ := r;obtain rfl : rw = [] := g2;exact SemOk.pure hE (u := u) (by simp only [Instr.loadAt, Sem.run_bind, run_sureAddr, Result.andThen_ok, hes]; rw [Nat.zero_add] at g1; exact g1) g3
   ·cases h
  ·rename_i fs hb;have hb := hl.eq hb (by intro h; cases h)
   rw [hb] at h2;obtain ⟨⟨kb, h3, rfl⟩, h4⟩ := h2;split at h
   ·obtain ⟨k', c, e, fz, g1, g2, g3, g4⟩ := hE.vals hb;rw [h3] at g1;obtain rfl := smI g1;obtain ⟨u, q1, q2, q3⟩ := loadF_sound hE h h4 g4 (vals_at g2);obtain ⟨rv, rw⟩ := r;obtain rfl : rw = [] := q2;exact SemOk.pure hE (u := u) (by simp only [Instr.loadAt, Sem.run_bind, run_sureAddr, Result.andThen_ok, Nat.zero_mul]; exact q1) q3
   ·cases h
  ·cases h
 ·rename_i t d o;obtain ⟨kb, off, c, e, fz, us, rfl, h2, h3, h4, h5, h6⟩ := hp;have hat : At E.w kb off us := fun j v hv => by
   have hj : j < t.size := by rw [<- h5]; exact (List.getElem?_eq_some_iff.1 hv).1
   rw [cell_of h3, h6 j hj]; exact hv
  obtain ⟨u, q1, q2, q3⟩ := loadF_sound hE h (.inl ⟨rfl, rfl⟩) (toF_rel t d us h4) hat;obtain ⟨rv, rw⟩ := r;obtain rfl : rw = [] := q2;exact SemOk.pure hE (u := u) (by simp only [Instr.loadAt, Sem.run_bind, run_sureAddr, Result.andThen_ok]; exact q1) q3
 ·cases h
theorem ptr_known {b i es o k n : Nat} {x : Value} (h : RelC E (.ptr b i es o k n) x) : (∃ a, x = .pointer (some a)) := by
 obtain ⟨_, h2⟩ := h;unfold RelPtr at h2;split at h2
 ·obtain ⟨⟨kb, _, e⟩, _⟩ := h2; exact ⟨_, e⟩
 ·exact h2.1
 ·exact h2.1
 ·exact h2
 ·exact h2.elim
theorem PtrAt.shift {b i es o n o' k' n' : Nat} {a : Addr} (h2 : PtrAt E b i es o 0 n (.pointer (some a))) (m : Nat) (hm : o' + k' = o + m) (hk : KN k' n') : PtrAt E b i es o' k' n' (.pointer (some (a.add m))) := by
 obtain ⟨⟨kb, h3, h4⟩, _⟩ := h2;simp only [Value.pointer.injEq, Option.some.injEq] at h4;subst h4;exact ⟨⟨kb, h3, by rw [add_addr]; simp; omega⟩, hk⟩
theorem ptr_shift {b i es o n o' k' n' : Nat} {a : Addr} (h : RelC E (.ptr b i es o 0 n) (.pointer (some a))) (m : Nat) (hm : o' + k' = o + m) (hk : KN k' n') : RelC E (.ptr b i es o' k' n') (.pointer (some (a.add m))) := by
 obtain ⟨_, h2⟩ := h;refine ⟨trivial, ?_⟩
 unfold RelPtr at h2 ⊢;cases hb : getB E.H b <;> rw [hb] at h2
 ·exact h2.shift m hm hk
 ·exact ⟨⟨_, rfl⟩, fun e => (h2.2.1 e).shift m hm hk, h2.2.2⟩
 ·exact ⟨⟨_, rfl⟩, fun e => (h2.2.1 e).shift m hm hk, h2.2.2⟩
 ·exact ⟨_, rfl⟩
 ·exact h2.elim
theorem fieldOff_run {S : TypeId} {f off : Nat} {T : TypeId} (h : fieldOff P S f = some (off, T)) :
  ∃ fields fd, P.underlying S = some (.struct fields) /\ fields[f]? = some fd /\ fd.offset = off /\ fd.type = T /\ P.cellsOf T ≠ 0 := by
 unfold fieldOff at h;split at h
 ·rename_i fields hS;split at h
  ·rename_i fd hf;split at h
   ·cases h
   ·rename_i hz;simp only [Option.some.injEq, Prod.mk.injEq] at h;obtain ⟨h1, h2⟩ := h;subst h2;exact ⟨fields, fd, hS, hf, h1, rfl, hz⟩
  ·cases h
 ·cases h
theorem run_sizeOf' {t : TypeId} (h : P.cellsOf t ≠ 0) (w : World) : (sizeOf t).run P w = .ok (P.cellsOf t) w := by
 unfold Program.cellsOf at h ⊢;cases hi : P.info? t with
 | none => rw [hi] at h; exact absurd rfl h
 | some i => simp [sizeOf, run_typeInfo hi]
theorem run_fieldAt {S : TypeId} {f off : Nat} {T : TypeId} (h : fieldOff P S f = some (off, T)) (kb o : Nat) (w : World) :
  (Instr.fieldAt S (.pointer (some ⟨kb, o, none⟩)) f).run P w = .ok (.pointer (some ⟨kb, o + off, none⟩)) w := by
 obtain ⟨fields, fd, h1, h2, rfl, rfl, h5⟩ := fieldOff_run h;simp only [Instr.fieldAt, Sem.run_bind, run_underlying h1, Result.andThen_ok, h2, run_sureAddr, fieldPlace, run_sizeOf' h5, h5, if_false, add_addr, Sem.run_pure]
theorem fieldAddrT_sound (hE : RepH G E) {S : TypeId} {f : Nat} {p : SV} {x : Value} {r : Res} (hp : RelS E p x) (h : (fieldAddrT P S p f).val = some r) : SemOk P G E (Instr.fieldAt S x f) r := by
 unfold fieldAddrT at h;split at h
 ·rename_i b i es o off T hf;obtain rfl := val_ret h;obtain ⟨a, rfl⟩ := ptr_known hp;obtain ⟨fields, fd, h1, h2, rfl, rfl, h5⟩ := fieldOff_run hf;exact SemOk.pure hE (u := .pointer (some (a.add fd.offset))) (by
   simp only [Instr.fieldAt, Sem.run_bind, run_underlying h1, Result.andThen_ok, h2, run_sureAddr, fieldPlace, run_sizeOf' h5, h5, if_false, Sem.run_pure])
   (ptr_shift hp _ (by omega) (.inl ⟨rfl, rfl⟩))
 ·rename_i t d o off T hf;obtain rfl := val_ret h;obtain ⟨kb, a, c, e, fz, us, rfl, h2, h3, h4, h5, h6⟩ := hp;exact SemOk.pure hE (u := _) (run_fieldAt hf _ _ _) ⟨kb, a, c, e, fz, us, by simp [Nat.add_assoc], h2, h3, h4, h5, h6⟩
 ·rename_i a off T hf;obtain rfl := val_ret h;obtain rfl : x = .pointer (some a) := hp;obtain ⟨fields, fd, h1, h2, rfl, rfl, h5⟩ := fieldOff_run hf;exact SemOk.pure hE (u := .pointer (some (a.add fd.offset))) (by
   simp only [Instr.fieldAt, Sem.run_bind, run_underlying h1, Result.andThen_ok, h2, run_sureAddr, fieldPlace, run_sizeOf' h5, h5, if_false, Sem.run_pure]) rfl
 ·cases h
theorem fieldT_sound (hE : RepH G E) {S : TypeId} {f : Nat} {p : SV} {x : Value} {r : Res} (hp : RelS E p x) (h : (fieldT P S p f).val = some r) : SemOk P G E (Instr.field S x f) r := by
 unfold fieldT at h;cases h
theorem extract_sound (hE : RepH G E) {vs : List V1} {x : Value} {i : Nat} {v : V1} (hp : RelS E (.tup vs) x) (h : vs[i]? = some v) : SemOk P G E (Instr.extract x i) (.one v, []) := by
 obtain ⟨us, rfl, hr⟩ := hp;have key : ∀ (vs : List V1) (us : List Value) (i : Nat), RelVs E vs us -> vs[i]? = some v -> ∃ u, us[i]? = some u /\ RelV E v u := by
  intro vs
  induction vs with
  | nil => intro us i _ h; simp at h
  | cons y ys ih =>
   intro us i hr h;obtain ⟨u, us', rfl, h1, h2⟩ := hr;cases i with
   | zero => simp at h; subst h; exact ⟨u, rfl, h1⟩
   | succ i => exact ih us' i h2 (by simpa using h)
 obtain ⟨u, h1, h2⟩ := key vs us.toList i hr h;have h1 : us[i]? = some u := by simpa using h1
 exact SemOk.pure hE (u := u) (by simp [Instr.extract, h1]) h2
theorem run_asIntOf (k : IntKind) (n : Int) (w : World) : (asIntOf (.int k n)).run P w = .ok (k, n) w := rfl
theorem val_idx {l : Bool} {i : Int} {n : Nat} {t : Tree Res} {r : Res} (h : (idx l i n t).val = some r) : (0 <= i /\ i < (n : Int)) /\ t.val = some r := by
 obtain ⟨h1, h2⟩ := val_chkl h;exact ⟨ofD h1, h2⟩
theorem val_idxd {i : Int} {n : Nat} {t : Tree Res} {r : Res} (h : (idxd i n t).val = some r) : (0 <= i /\ i < (n : Int)) /\ t.val = some r := by
 obtain ⟨h1, h2⟩ := val_chk h;exact ⟨ofD h1, h2⟩
theorem run_sizeOf_pos {t : TypeId} (h : 0 < P.cellsOf t) (w : World) : (sizeOf t).run P w = .ok (P.cellsOf t) w := run_sizeOf' (by omega) w
theorem run_indexAt_addr {T e : TypeId} {n : Nat} (hT : P.underlying T = some (.array n e)) (he : 0 < P.cellsOf e) (a : Addr) {k : IntKind} {i : Int} (hi : 0 <= i /\ i < (n : Int)) (w : World) :
  (Instr.indexAt T (.pointer (some a)) (.int k i)).run P w = .ok (.pointer (some (a.add (i.toNat * P.cellsOf e)))) w := by
 simp [Instr.indexAt, run_asIntOf, run_underlying hT, run_sureAddr, hi, run_sizeOf_pos he]
theorem sl_known {b off len : Nat} {u : Value} (h : RelC E (.sl b off len) u) : ∃ a cap, u = .slice a len cap /\ len <= cap /\ cap < 9223372036854775808 /\ (cap = 0 \/ ∃ q, a = some q) := by
 obtain ⟨_, h3⟩ := h;unfold RelSl at h3;split at h3
 ·exact SlAt.gone h3
 ·exact SlAt.gone h3
 ·exact h3
 ·exact h3.elim
theorem SlAt.elem {b sz off len n : Nat} {q : Addr} {cap : Nat} (h : SlAt E b sz off len n (.slice (some q) len cap)) (hc : cap ≠ 0) {i : Nat} (hi : i < len) :
  PtrAt E b (off + i) sz 0 0 0 (.pointer (some (q.add (i * sz)))) /\ off + i < n := by
 obtain ⟨a, cap', h1, h2, h3, h4, h5⟩ := h;simp only [Value.slice.injEq] at h1;obtain ⟨rfl, _, rfl⟩ := h1;rcases h5 with h5 | ⟨k, c, e, fz, g1, g2, g3, g4⟩
 ·exact (hc h5.2).elim
 ·have g2 := g2.resolve_left hc
  simp only [Option.some.injEq] at g2;subst g2;exact ⟨⟨⟨k, g1, by rw [add_addr]; simp [Nat.add_mul]⟩, .inl ⟨rfl, rfl⟩⟩, by omega⟩
theorem sl_elem {b off len es i : Nat} {q : Addr} {cap : Nat} (h : RelC E (.sl b off len) (.slice (some q) len cap)) (hc : cap ≠ 0) (hi : i < len) : RelC E (.ptr b (off + i) es 0 0 0) (.pointer (some (q.add (i * es)))) := by
 obtain ⟨_, h3⟩ := h;refine ⟨trivial, ?_⟩
 unfold RelSl at h3;unfold RelPtr;cases hb : getB E.H b <;> rw [hb] at h3
 ·exact h3.elim
 ·obtain ⟨g1, g2⟩ := h3.elem hc hi;exact ⟨⟨_, rfl⟩, fun e => by rw [e]; exact g1, g2⟩
 ·obtain ⟨g1, g2⟩ := h3.elem hc hi;exact ⟨⟨_, rfl⟩, fun e => by rw [e]; exact g1, g2⟩
 ·exact ⟨_, rfl⟩
 ·exact h3.elim
theorem run_indexAt_sl {T e : TypeId} (hT : P.underlying T = some (.slice e)) (he : 0 < P.cellsOf e) (q : Addr) (len cap : Nat) {k : IntKind} {i : Int} (hi : 0 <= i /\ i < (len : Int)) (w : World) :
  (Instr.indexAt T (.slice (some q) len cap) (.int k i)).run P w = .ok (.pointer (some (q.add (i.toNat * P.cellsOf e)))) w := by
 simp [Instr.indexAt, run_asIntOf, run_underlying hT, hi, run_sizeOf_pos he]
theorem RoT.rowOf' {t : DTy} {k off : Nat} {c : Array Value} {e : TypeId} {fz : Nat × Nat} {xs : List t.den} {i : Nat} (hR : E.R k) (hc : E.w.heap[k]? = some (.cells c e fz)) (hr : Rows t.size (RoT E t) xs off c) (hi : i < xs.length) :
  RelRp E t (xs.getD i t.dflt) 0 0 (.pointer (some ((⟨k, off, none⟩ : Addr).add (i * t.size)))) := by
 obtain ⟨us, h1, h2, h3⟩ := hr i hi;exact ⟨k, off + i * t.size, c, e, fz, us, by rw [add_addr]; simp, hR, hc, by rw [getD_eq hi]; exact h1, h2, fun j hj => by rw [Nat.add_assoc]; exact h3 j hj⟩
theorem indexAddrT_sound (hE : RepH G E) {T : TypeId} {x ix : SV} {u v : Value} {r : Res} (hx : RelS E x u) (hi : RelS E ix v) (h : (indexAddrT P T x ix).val = some r) : SemOk P G E (Instr.indexAt T u v) r := by
 unfold indexAddrT at h;split at h
 ·obtain ⟨rfl, hik⟩ := hi;split at h
  ·rename_i l kk i _ _ n e b i0 es o hT;obtain ⟨a, rfl⟩ := ptr_known hx;split at h
   ·rename_i k' he;split at h
    ·rename_i hs;obtain ⟨h1, h2⟩ := val_idx h;obtain rfl := val_ret h2;exact SemOk.pure hE (run_indexAt_addr hT (by omega) a h1 _) (ptr_shift hx _ (by rw [hs, Nat.mul_one]) (.inr (by omega)))
    ·cases h
   ·split at h
    ·split at h
     ·rename_i hs;obtain ⟨h1, h2⟩ := val_idx h;obtain rfl := val_ret h2;exact SemOk.pure hE (run_indexAt_addr hT hs a h1 _) (ptr_shift hx _ (by simp) (.inl ⟨rfl, rfl⟩))
     ·cases h
    ·cases h
  ·rename_i l kk i _ _ n e t d o hT;obtain ⟨kb, a, c, e', fz, us, rfl, h2, h3, h4, h5, h6⟩ := hx;split at h
   ·rename_i k' he;split at h
    ·rename_i kd m xs hw;split at h
     ·rename_i hs;obtain ⟨hs1, rfl⟩ := hs;obtain ⟨h7, h8⟩ := val_idx h;obtain rfl := val_ret h8;obtain ⟨g1, g2, g3, g4⟩ := wsAt_rel hw (toF_rel t d us h4);have hlt : i.toNat < xs.length := by omega
      refine SemOk.pure hE (run_indexAt_addr hT (by omega) _ h7 _) ?_
      refine ⟨kb, a + (o + i.toNat), c, e', fz, [.int kd (xs.getD i.toNat 0)], by rw [add_addr, hs1]; simp; omega, h2, h3, ⟨rfl, ?_⟩, rfl, fun j hj => ?_⟩
      ·rw [getD_eq hlt]; exact g2 _ (List.getElem_mem hlt)
      ·have hj : j = 0 := by have : j < 1 := hj; omega
       subst hj;have h9 := h6 (o + i.toNat) (by rw [<- h5]; omega)
       rw [Nat.add_zero, h9, getD_eq hlt];have h10 : ((us.drop o).take m)[i.toNat]? = some (Value.int kd xs[i.toNat]) := by rw [g3, List.getElem?_map, List.getElem?_eq_getElem hlt]; rfl
       rw [List.getElem?_take, if_pos (by omega), List.getElem?_drop] at h10
       exact h10
     ·cases h
    ·cases h
   ·split at h
    ·split at h
     ·rename_i hs;obtain ⟨h7, h8⟩ := val_idx h;obtain rfl := val_ret h8;exact SemOk.pure hE (run_indexAt_addr hT hs _ h7 _) ⟨kb, a, c, e', fz, us, by rw [add_addr]; simp; omega, h2, h3, h4, h5, h6⟩
     ·cases h
    ·cases h
  ·rename_i l kk i _ _ e b off len hT;split at h
   ·rename_i hs;obtain ⟨h1, h2⟩ := val_idxd h;obtain rfl := val_ret h2;obtain ⟨a, cap, rfl, h4, h5, h6⟩ := sl_known hx;have hc : cap ≠ 0 := by omega
    obtain ⟨q, rfl⟩ := h6.resolve_left hc;exact SemOk.pure hE (run_indexAt_sl hT hs _ _ _ h1 _) (sl_elem hx hc (by omega))
   ·cases h
  ·rename_i l kk i _ _ e t xs len hT;split at h
   ·rename_i hs;obtain ⟨h1, h2⟩ := val_idxd h;obtain rfl := val_ret h2;obtain ⟨a, cap, rfl, h3, h4, h5, h6, h7⟩ := hx;have hne : xs ≠ [] := fun e => by rw [e] at h3; simp at h3; omega
    obtain ⟨k, off, c, e', fz, rfl, g2, g3, g4⟩ := h7 hne;refine SemOk.pure hE (run_indexAt_sl hT (by omega) _ _ _ h1 _) ?_
    rw [<- hs.1];exact RoT.rowOf' g2 g3 g4 (by omega)
   ·cases h
  ·rename_i l kk i _ _ e b o n off len hT;split at h
   ·rename_i hs;split at h
    ·obtain ⟨h1, h2⟩ := val_idxd h;obtain rfl := val_ret h2;obtain ⟨_, h3⟩ := hx;unfold RelSla at h3;cases hb : getB E.H b with
     | vals fs =>
      rw [hb] at h3;obtain ⟨a, cap, rfl, h4, h5, h6, h7⟩ := h3;rcases h7 with h7 | ⟨k, h7, rfl⟩
      ·omega
      ·refine SemOk.pure hE (run_indexAt_sl hT (by omega) _ _ _ h1 _) ⟨trivial, ?_⟩
       unfold RelPtr;rw [hb];exact ⟨⟨k, h7, by rw [add_addr, hs]; simp; omega⟩, .inr (by omega)⟩
     | arr t xs lo par => rw [hb] at h3; exact h3.elim
     | frz t xs => rw [hb] at h3; exact h3.elim
     | dead => rw [hb] at h3; exact h3.elim
     | gone =>
      rw [hb] at h3;obtain ⟨a, cap, rfl, h4, h5, h6, h7⟩ := h3;rcases h7 with h7 | ⟨q, rfl⟩
      ·omega
      ·refine SemOk.pure hE (run_indexAt_sl hT (by omega) _ _ _ h1 _) ⟨trivial, ?_⟩
       unfold RelPtr;rw [hb];exact ⟨_, rfl⟩
    ·obtain ⟨h1, h2⟩ := val_idxd h;obtain rfl := val_ret h2;obtain ⟨_, h3⟩ := hx;unfold RelSla at h3;cases hb : getB E.H b with
     | vals fs =>
      rw [hb] at h3;obtain ⟨a, cap, rfl, h4, h5, h6, h7⟩ := h3;rcases h7 with h7 | ⟨k, h7, rfl⟩
      ·omega
      ·refine SemOk.pure hE (run_indexAt_sl hT (by omega) _ _ _ h1 _) ⟨trivial, ?_⟩
       unfold RelPtr;rw [hb];exact ⟨⟨k, h7, by rw [add_addr, hs]; simp; omega⟩, .inl ⟨rfl, rfl⟩⟩
     | arr t xs lo par => rw [hb] at h3; exact h3.elim
     | frz t xs => rw [hb] at h3; exact h3.elim
     | dead => rw [hb] at h3; exact h3.elim
     | gone =>
      rw [hb] at h3;obtain ⟨a, cap, rfl, h4, h5, h6, h7⟩ := h3;rcases h7 with h7 | ⟨q, rfl⟩
      ·omega
      ·refine SemOk.pure hE (run_indexAt_sl hT (by omega) _ _ _ h1 _) ⟨trivial, ?_⟩
       unfold RelPtr;rw [hb];exact ⟨_, rfl⟩
   ·cases h
  ·rename_i l kk i _ _ e a len cap hT;split at h
   ·rename_i hs;obtain ⟨h1, h2⟩ := val_idxd h;obtain rfl := val_ret h2;have hx : u = .slice (some a) len cap := hx
    subst hx;exact SemOk.pure hE (run_indexAt_sl hT hs _ _ _ h1 _) rfl
   ·cases h
  ·cases h
 ·cases h
theorem indexT_sound (hE : RepH G E) {T : TypeId} {x ix : SV} {u v : Value} {r : Res} (hx : RelS E x u) (hi : RelS E ix v) (h : (indexT P T x ix).val = some r) : SemOk P G E (Instr.index T u v) r := by
 unfold indexT at h;cases h
def RelO (E : Env) : Option SV -> Option Value -> Prop
 | none, none => True
 | some x, some v => RelS E x v
 | _, _ => False
theorem run_bound {x : SV} {v : Value} {n y : Nat} {code : BoundsCode} (hx : RelS E x v) (hb : bnd (some x) 0 = some n) (hp : bndPos (some x) = true) (hy : n <= y) (w : World) :
  (Instr.sliceBound v y code).run P w = .ok n w := by
 unfold bnd at hb;split at hb
 ·rename_i heq; cases heq
 ·rename_i heq;cases heq
  obtain rfl := smI hb;obtain ⟨rfl, _⟩ := hx;have hp := by simpa [bndPos] using hp
  simp only [Instr.sliceBound, Sem.run_bind, run_asIntOf, Result.andThen_ok];rw [if_pos ⟨hp, by omega⟩]; rfl
 ·cases hb
theorem bnd_some (x : SV) (a b : Nat) : bnd (some x) a = bnd (some x) b := by
 cases x with
 | one v => cases v with
  | c y => cases y <;> rfl
  | g _ => rfl
 | _ => rfl
theorem run_bounds {lo hi : Option SV} {low high : Option Value} {l h len cap : Nat} {b : Bool} (hlo : RelO E lo low) (hhi : RelO E hi high) (hl : bnd lo 0 = some l) (hh : bnd hi len = some h) (hp : bndPos lo = true) (hp' : bndPos hi = true)
  (h1 : l <= h) (h2 : h <= cap) (w : World) : (Instr.sliceBounds b len cap low high none).run P w = .ok (l, h, cap) w := by
 cases hi with
 | none =>
  cases high with
  | some v => exact hhi.elim
  | none =>
   obtain rfl := smI hh;cases lo with
   | none =>
    cases low with
    | some v => exact hlo.elim
    | none => obtain rfl := smI hl; rfl
   | some y =>
    cases low with
    | none => exact hlo.elim
    | some v => simp [Instr.sliceBounds, run_bound (P := P) hlo hl hp h1]
 | some x =>
  cases high with
  | none => exact hhi.elim
  | some u =>
   rw [bnd_some x len 0] at hh;cases lo with
   | none =>
    cases low with
    | some v => exact hlo.elim
    | none => obtain rfl := smI hl; simp [Instr.sliceBounds, run_bound (P := P) hhi hh hp' h2]
   | some y =>
    cases low with
    | none => exact hlo.elim
    | some v => simp [Instr.sliceBounds, run_bound (P := P) hhi hh hp' h2, run_bound (P := P) hlo hl hp h1]
theorem val_slice {lo hi : Option SV} {a b : Nat} {p : Nat -> Nat -> Bool} {t : Nat -> Nat -> Tree Res} {r : Res}
  (h : (Tree.opt (bnd lo a) fun l => Tree.opt (bnd hi b) fun h => Tree.chk (bndPos lo && bndPos hi && p l h) (t l h)).val = some r) :
  ∃ l h, bnd lo a = some l /\ bnd hi b = some h /\ bndPos lo = true /\ bndPos hi = true /\ p l h = true /\ (t l h).val = some r := by
 obtain ⟨l, h1, h2⟩ := val_opt h;obtain ⟨h', h3, h4⟩ := val_opt h2;obtain ⟨h5, h6⟩ := val_chk h4;simp only [Bool.and_eq_true] at h5;exact ⟨l, h', h1, h3, h5.1.1, h5.1.2, h5.2, h6⟩
theorem SlAt.sub {b sz off len n l h : Nat} {v : Value} (hs : SlAt E b sz off len n v) (h1 : l <= h) (h2 : off + h <= n) (hcn : ∀ (k : Nat) (c : Array Value) (e : TypeId) (fz : Nat × Nat), E.β b = some k -> E.w.heap[k]? = some (Obj.cells c e fz) -> n * sz <= c.size) (hn0 : E.β b = none -> n = 0) (hz : 0 < sz) :
  ∃ a cap, v = .slice a len cap /\ h <= cap /\ SlAt E b sz (off + l) (h - l) n (.slice (if cap = l then a else a.map (·.add (l * sz))) (h - l) (cap - l)) := by
 obtain ⟨a, cap, rfl, h3, h4, h5, h6⟩ := hs;rcases h6 with ⟨h6, h7⟩ | ⟨k, c, e, fz, g1, g2, g3, g4⟩
 ·have := hn0 h6
  exact ⟨a, cap, rfl, by omega, _, _, rfl, by omega, by omega, by omega, .inl ⟨h6, by omega⟩⟩
 ·have hle : off + h <= off + cap := by
   have := hcn k c e fz g1 g3
   rw [<- g4] at this;have := Nat.le_of_mul_le_mul_right this hz
   omega
  refine ⟨a, cap, rfl, by omega, _, _, rfl, by omega, by omega, by omega, .inr ⟨k, c, e, fz, g1, ?_, g3, ?_⟩⟩
  ·by_cases hcl : cap = l
   ·left; omega
   ·right;rw [if_neg hcl, g2.resolve_left (by omega)]; simp [add_addr, Nat.add_mul]
  ·rw [<- g4]; congr 1; omega
theorem RepH.fits (hE : RepH G E) {b : Nat} {t : DTy} {xs : List t.den} (hb : (∃ lo par, getB E.H b = .arr t xs lo par) \/ getB E.H b = .frz t xs) :
  0 < t.size /\ (E.β b = none -> xs.length = 0) /\ ∀ (k : Nat) (c : Array Value) (e : TypeId) (fz : Nat × Nat), E.β b = some k -> E.w.heap[k]? = some (Obj.cells c e fz) -> xs.length * t.size <= c.size := by
 have key : ∀ c, Rows t.size (RoT E t) xs 0 c -> xs.length * t.size <= c.size := fun c hr => by
  rcases Nat.eq_zero_or_pos xs.length with h0 | h0
  ·rw [h0]; simp
  ·rcases Nat.eq_zero_or_pos t.size with hz | hz
   ·rw [hz]; simp
   obtain ⟨us, _, h2, h3⟩ := hr (xs.length - 1) (by omega)
   have := h3 (t.size - 1) (by omega)
   have hlt : t.size - 1 < us.length := by omega
   rw [List.getElem?_eq_getElem hlt] at this
   have := (Array.getElem?_eq_some_iff.1 this).1
   have e : xs.length * t.size = (xs.length - 1) * t.size + t.size := by
    rw [<- Nat.succ_mul]; congr 1; omega
   omega
 have h := hE.blk b
 rcases hb with ⟨lo, par, hb⟩ | hb <;> rw [hb] at h
 ·refine ⟨h.2.1, fun h0 => ?_, fun k c e fz hk hc => ?_⟩
  ·rcases h.2.2 with ⟨_, h1⟩ | ⟨k, c, e, fz, h1, _⟩
   ·rw [h1]; rfl
   ·rw [h0] at h1; cases h1
  ·rcases h.2.2 with ⟨h1, _⟩ | ⟨k', c', e', fz', h1, h2, _, h3⟩
   ·rw [hk] at h1; cases h1
   ·rw [hk] at h1; obtain rfl := smI h1;rw [hc] at h2; cases h2; exact key _ h3
 ·refine ⟨h.1, fun h0 => ?_, fun k c e fz hk hc => ?_⟩
  ·rcases h.2 with ⟨_, h1⟩ | ⟨k, c, e, fz, h1, _⟩
   ·rw [h1]; rfl
   ·rw [h0] at h1; cases h1
  ·rcases h.2 with ⟨h1, _⟩ | ⟨k', c', e', fz', h1, h2, h3, _⟩
   ·rw [hk] at h1; cases h1
   ·rw [hk] at h1; obtain rfl := smI h1;rw [hc] at h2; cases h2; exact key _ h3
theorem run_sliceAt_slice {T e : TypeId} (hT : P.underlying T = some (.slice e)) (he : 0 < P.cellsOf e) {a : Option Addr} {len cap l h : Nat} {low high : Option Value} {w : World} (hb : (Instr.sliceBounds true len cap low high none).run P w = .ok (l, h, cap) w) :
  (Instr.sliceAt T (.slice a len cap) low high none).run P w = .ok (.slice (if cap = l then a else a.map (·.add (l * P.cellsOf e))) (h - l) (cap - l)) w := by
 simp [Instr.sliceAt, Instr.slice, run_underlying hT, hb, run_sizeOf_pos he]
theorem RoSl.sub {sz : Nat} {α : Type} {Q : α -> List Value -> Prop} {xs : List α} {len l h : Nat} {v : Value} (hs : RoSl E sz Q xs len v) (h1 : l <= h) (h2 : h <= xs.length) :
  ∃ a cap, v = .slice a len cap /\ h <= cap /\ RoSl E sz Q (xs.drop l) (h - l) (.slice (if cap = l then a else a.map (·.add (l * sz))) (h - l) (cap - l)) := by
 obtain ⟨a, cap, rfl, h3, h4, h5, h6, h7⟩ := hs;refine ⟨a, cap, rfl, by omega, _, _, rfl, by rw [List.length_drop]; omega, by rw [List.length_drop]; omega, by omega, h6, fun hne => ?_⟩
 have hl : l < xs.length := by
  rcases Nat.lt_or_ge l xs.length with h | h
  ·exact h
  ·exact (hne (List.drop_eq_nil_of_le h)).elim
 obtain ⟨k, off, c, e, fz, rfl, g2, g3, g4⟩ := h7 (fun e => by rw [e] at hl; simp at hl)
 refine ⟨k, off + l * sz, c, e, fz, by rw [if_neg (by omega)]; simp [add_addr], g2, g3, fun i hi => ?_⟩
 rw [List.length_drop] at hi;obtain ⟨us, q1, q2, q3⟩ := g4 (l + i) (by omega)
 refine ⟨us, by rw [List.getElem_drop]; exact q1, q2, fun j hj => ?_⟩
 rw [<- q3 j hj]; congr 1; rw [Nat.add_mul]; omega
theorem sliceT_sound (hE : RepH G E) {look : Look} (hk : LookOk E look) {T : TypeId} {x : SV} {u : Value} {lo hi mx : Option SV} {low high max : Option Value} {r : Res} (hx : RelS E x u) (hlo : RelO E lo low) (hhi : RelO E hi high) (hmx : RelO E mx max)
  (h : (sliceT P look T x lo hi mx).val = some r) : SemOk P G E (Instr.sliceAt T u low high max) r := by
 unfold sliceT at h;split at h
 ·cases h
 ·cases max with
  | some _ => exact hmx.elim
  | none =>
   split at h
   ·rename_i s hT;obtain ⟨l, h', h1, h2, h3, h4, h5, h6⟩ := val_slice (p := fun l h => decide (l <= h /\ h <= s.size)) (t := fun l h => .ret (one (.str (s.extract l h)), [])) h
    obtain rfl := val_ret h6;have h5 := ofD h5
    obtain rfl : u = .string s := hx;exact SemOk.pure hE (u := .string (s.extract l h')) (by simp [Instr.sliceAt, Instr.slice, run_underlying hT, run_bounds (P := P) (b := false) hlo hhi h1 h2 h3 h4 h5.1 h5.2]) rfl
   ·rename_i e b off len hT;obtain ⟨l, h1, h⟩ := val_opt h;obtain ⟨h', h2, h⟩ := val_opt h;split at h
    ·rename_i t xs lo' par hb;split at h
     ·rename_i hs;obtain ⟨h5, h6⟩ := val_chk h;simp only [Bool.and_eq_true, decide_eq_true_eq] at h5;obtain ⟨⟨h3, h4⟩, h5, h7⟩ := h5;obtain rfl := val_ret h6;have hb := hk.eq hb (by intro h; cases h)
      obtain ⟨f1, f2, f3⟩ := hE.fits (.inl ⟨lo', par, hb⟩);obtain ⟨_, hx⟩ := hx;unfold RelSl at hx;rw [hb] at hx;obtain ⟨a, cap, rfl, g1, g2⟩ := hx.sub h5 h7 f3 f2 f1;refine SemOk.pure hE (run_sliceAt_slice hT (by omega) (run_bounds hlo hhi h1 h2 h3 h4 h5 g1 _)) ⟨trivial, ?_⟩
      unfold RelSl;rw [hb, <- hs];exact g2
     ·cases h
    ·rename_i t xs hb;split at h
     ·rename_i hs;obtain ⟨h5, h6⟩ := val_chk h;simp only [Bool.and_eq_true, decide_eq_true_eq] at h5;obtain ⟨⟨h3, h4⟩, h5, h7⟩ := h5;obtain rfl := val_ret h6;have hb := hk.eq hb (by intro h; cases h)
      obtain ⟨f1, f2, f3⟩ := hE.fits (.inr hb);obtain ⟨_, hx⟩ := hx;unfold RelSl at hx;rw [hb] at hx;obtain ⟨a, cap, rfl, g1, g2⟩ := hx.sub h5 h7 f3 f2 f1;refine SemOk.pure hE (run_sliceAt_slice hT (by omega) (run_bounds hlo hhi h1 h2 h3 h4 h5 g1 _)) ⟨trivial, ?_⟩
      unfold RelSl;rw [hb, <- hs];exact g2
     ·cases h
    ·cases h
   ·rename_i e t xs len hT;obtain ⟨l, h1, h⟩ := val_opt h;obtain ⟨h', h2, h⟩ := val_opt h;split at h
    ·rename_i hs;obtain ⟨h5, h6⟩ := val_chk h;simp only [Bool.and_eq_true, decide_eq_true_eq] at h5;obtain ⟨⟨h3, h4⟩, h5, h7⟩ := h5;obtain rfl := val_ret h6;have hx : RoSl E t.size (RoT E t) xs len u := hx
     have hz : 0 < t.size := by obtain ⟨_, _, _, _, _, _, hz, _⟩ := hx; exact hz
     obtain ⟨a, cap, rfl, g1, g2⟩ := hx.sub h5 h7;refine SemOk.pure hE (run_sliceAt_slice hT (by omega) (run_bounds hlo hhi h1 h2 h3 h4 h5 g1 _)) ?_
     rw [<- hs];exact g2
    ·cases h
   ·rename_i e b o n off len hT;obtain ⟨l, h1, h⟩ := val_opt h;obtain ⟨h', h2, h⟩ := val_opt h;split at h
    ·rename_i hs;obtain ⟨h5, h6⟩ := val_chk h;simp only [Bool.and_eq_true, decide_eq_true_eq] at h5;obtain ⟨⟨h3, h4⟩, h5, h7⟩ := h5;obtain rfl := val_ret h6;obtain ⟨_, hx⟩ := hx;unfold RelSla at hx;cases hb : getB E.H b with
     | vals fs =>
      rw [hb] at hx;obtain ⟨a, cap, rfl, q1, q2, q3, q4⟩ := hx;refine SemOk.pure hE (run_sliceAt_slice hT (by omega) (run_bounds hlo hhi h1 h2 h3 h4 h5 (by omega) _)) ⟨trivial, ?_⟩
      unfold RelSla;rw [hb];refine ⟨_, _, rfl, by omega, by omega, by omega, ?_⟩
      by_cases hcl : cap = l
      ·left; omega
      ·right;rcases q4 with q4 | ⟨k, q4, q5⟩
       ·omega
       ·exact ⟨k, q4, by rw [if_neg hcl, q5, hs]; simp [add_addr, Nat.add_assoc]⟩
     | gone =>
      rw [hb] at hx;obtain ⟨a, cap, rfl, q1, q2, q3, q4⟩ := hx;refine SemOk.pure hE (run_sliceAt_slice hT (by omega) (run_bounds hlo hhi h1 h2 h3 h4 h5 (by omega) _)) ⟨trivial, ?_⟩
      unfold RelSla;rw [hb];refine ⟨_, _, rfl, by omega, by omega, by omega, ?_⟩
      by_cases hcl : cap = l
      ·left; omega
      ·right;rcases q4 with q4 | ⟨q, q4⟩
       ·omega
       ·exact ⟨_, by rw [if_neg hcl, q4]; rfl⟩
     | arr t xs lo par => rw [hb] at hx; exact hx.elim
     | frz t xs => rw [hb] at hx; exact hx.elim
     | dead => rw [hb] at hx; exact hx.elim
    ·cases h
   ·rename_i e hT;obtain ⟨l, h1, h⟩ := val_opt h;obtain ⟨h', h2, h⟩ := val_opt h;split at h
    ·cases h
    rename_i hez;obtain ⟨h5, h6⟩ := val_chk h;simp only [Bool.and_eq_true, decide_eq_true_eq] at h5;obtain ⟨⟨h3, h4⟩, h5, h7⟩ := h5;obtain rfl := val_ret h6;obtain rfl : u = .slice none 0 0 := hx;obtain rfl : h' = 0 := by omega
    obtain rfl : l = 0 := by omega
    have hb := run_bounds (P := P) (b := true) hlo hhi h1 h2 h3 h4 h5 (Nat.le_refl 0) E.w
    have hd := run_sizeOf_pos (P := P) (t := e) (by omega) E.w
    exact SemOk.pure hE (u := .slice none 0 0) (by simp [Instr.sliceAt, Instr.slice, run_underlying hT, hb, hd]) rfl
   ·rename_i n e b o hT;obtain ⟨l, h1, h⟩ := val_opt h;obtain ⟨h', h2, h⟩ := val_opt h;split at h
    ·rename_i k' he;split at h
     ·rename_i hs;obtain ⟨h5, h6⟩ := val_chk h;simp only [Bool.and_eq_true, decide_eq_true_eq] at h5;obtain ⟨⟨h3, h4⟩, h5, h7⟩ := h5;obtain rfl := val_ret h6;obtain ⟨a, rfl⟩ := ptr_known hx;have hbd := run_bounds (P := P) (b := false) hlo hhi h1 h2 h3 h4 h5 h7 E.w
      have hrun : (Instr.sliceAt T (.pointer (some a)) low high none).run P E.w = .ok (.slice (some (if n = l then a else a.add (l * P.cellsOf e))) (h' - l) (n - l)) E.w := by
       simp [Instr.sliceAt, run_underlying hT, run_sureAddr, hbd, run_sizeOf_pos (show 0 < P.cellsOf e by omega)]
      refine SemOk.pure hE hrun ⟨trivial, ?_⟩
      obtain ⟨_, hx⟩ := hx;unfold RelPtr at hx;unfold RelSla;obtain ⟨hs, hn, hv⟩ := hs;have hv : isVals (getB E.H b) = true := by
       rcases hk b with h9 | h9
       ·rw [h9] at hv; cases hv
       ·rw [<- h9]; exact hv
      cases hb : getB E.H b with
      | vals fs =>
       rw [hb] at hx;obtain ⟨⟨kb, q1, q2⟩, _⟩ := hx;simp only [Value.pointer.injEq, Option.some.injEq] at q2;subst q2;refine ⟨_, _, rfl, by omega, by omega, by omega, ?_⟩
       by_cases hcl : n = l
       ·left; omega
       ·right; exact ⟨kb, q1, by rw [if_neg hcl, add_addr, hs]; simp⟩
      | gone => rw [hb] at hv; cases hv
      | arr t xs lo par => rw [hb] at hv; cases hv
      | frz t xs => rw [hb] at hv; cases hv
      | dead => rw [hb] at hx; exact hx.elim
     ·cases h
    ·cases h
   ·rename_i n e t d o hT;obtain ⟨l, h1, h⟩ := val_opt h;obtain ⟨h', h2, h⟩ := val_opt h;split at h
    ·rename_i k' he;split at h
     ·rename_i kd m xs hw;split at h
      ·rename_i hs;obtain ⟨hs, hn, rfl⟩ := hs;obtain ⟨h5, h6⟩ := val_chk h;simp only [Bool.and_eq_true, decide_eq_true_eq] at h5;obtain ⟨⟨h3, h4⟩, h5, h7⟩ := h5;obtain rfl := val_ret h6;obtain ⟨kb, a, c, e', fz, us, rfl, g2, g3, g4, g5, g6⟩ := hx;obtain ⟨q1, q2, q3, q4⟩ := wsAt_rel hw (toF_rel t d us g4);have hbd := run_bounds (P := P) (b := false) hlo hhi h1 h2 h3 h4 h5 h7 E.w
       have hrun : (Instr.sliceAt T (.pointer (some ⟨kb, a + (o + 0), none⟩)) low high none).run P E.w = .ok (.slice (some (if m = l then ⟨kb, a + (o + 0), none⟩ else (⟨kb, a + (o + 0), none⟩ : Addr).add (l * P.cellsOf e))) (h' - l) (m - l)) E.w := by
        simp [Instr.sliceAt, run_underlying hT, run_sureAddr, hbd, run_sizeOf_pos (show 0 < P.cellsOf e by omega)]
       refine SemOk.pure hE hrun ⟨_, _, rfl, ?_, ?_, by omega, Nat.one_pos, fun hne => ?_⟩
       ·show h' - l <= (List.drop l xs).length
        rw [List.length_drop]; omega
       ·show (List.drop l xs).length <= m - l
        rw [List.length_drop]; omega
       ·have hlm : l < xs.length := by
         rcases Nat.lt_or_ge l xs.length with h | h
         ·exact h
         ·exact (hne (List.drop_eq_nil_of_le h)).elim
        refine ⟨kb, a + (o + l), c, e', fz, ?_, g2, g3, fun i hi => ?_⟩
        ·rw [if_neg (by omega), add_addr, hs]; simp; omega
        ·have hi' : l + i < xs.length := by
          have : i < (List.drop l xs).length := hi
          rw [List.length_drop] at this; omega
         have hel : (List.drop l xs : List Int)[i]'hi = xs[l + i] := List.getElem_drop
         refine ⟨[.int kd xs[l + i]], ⟨congrArg (fun z : Int => [Value.int kd z]) hel.symm, (congrArg (InK kd) hel).mpr (q2 _ (List.getElem_mem hi'))⟩, rfl, fun j hj => ?_⟩
         have hj : j = 0 := by have : j < 1 := hj; omega
         subst hj;have h9 := g6 (o + (l + i)) (by rw [<- g5]; omega)
         have h10 : ((us.drop o).take m)[l + i]? = some (Value.int kd xs[l + i]) := by rw [q3, List.getElem?_map, List.getElem?_eq_getElem hi']; rfl
         rw [List.getElem?_take, if_pos (by omega), List.getElem?_drop] at h10
         have e1 : a + (o + l) + (i * DTy.size (.int kd) + 0) = a + (o + (l + i)) := by
          show a + (o + l) + (i * 1 + 0) = _
          omega
         rw [e1, h9, h10]; rfl
      ·cases h
     ·cases h
    ·cases h
   ·cases h
end Go.SX
