/-
  SX, part 8: operations that read memory, or reckon with addresses.
-/
import Derived.Test.YticfnbhbpcpgeaaDoorSx7
namespace Go.SX
open Go
variable {G : GlobT} {E : Env} {P : Program}

/-- values lie in memory -/
def At (w : World) (kb base : Nat) (vs : List Value) : Prop := ∀ (j : Nat) (v : Value), vs[j]? = some v → w.cell? ⟨kb, base + j, none⟩ = some v

theorem cell_of {w : World} {k : Nat} {c : Array Value} {e : TypeId} {fz : Nat × Nat} (h : w.heap[k]? = some (.cells c e fz)) (off : Nat) : w.cell? ⟨k, off, none⟩ = c[off]? := by
  simp [World.cell?, h]

theorem add_addr (kb off j : Nat) : (⟨kb, off, none⟩ : Addr).add j = ⟨kb, off + j, none⟩ := by unfold Addr.add; split <;> simp_all

theorem At.run {w : World} {kb base : Nat} {vs : List Value} (h : At w kb base vs) : (loadCells ⟨kb, base, none⟩ vs.length).run P w = .ok vs.toArray w :=
  run_loadCells_list w _ vs (fun j v hv => by rw [add_addr]; exact h j v hv)

theorem At.sub {w : World} {kb base : Nat} {vs : List Value} (h : At w kb base vs) (o m : Nat) : At w kb (base + o) ((vs.drop o).take m) := fun j v hv => by
  rw [Nat.add_assoc]
  refine h _ _ ?_
  rw [List.getElem?_take] at hv
  split at hv
  · rwa [List.getElem?_drop] at hv
  · cases hv

theorem load_run {w : World} {a : Addr} {v : Value} (h : w.cell? a = some v) : (load a).run P w = .ok v w := by simp [h]

theorem getGP_rel {fs : List FCell} {o n : Nat} {r : List FCell} {vs : List Value} (h : getGP fs o n = some r) (hr : RelFs E fs vs) :
    RelFs E r ((vs.drop o).take n) ∧ o + n ≤ vs.length := by
  unfold getGP at h
  split at h
  · rename_i kd m xs r' h1
    obtain ⟨g1, g2⟩ := dropF_rel h1 hr
    split at h
    · rename_i hlt
      obtain rfl := Option.some.inj h
      obtain ⟨us, hus, g3, g4, g5⟩ := relFs_cons_ws g1
      have hl : (vs.drop o).length = xs.length + us.length := by rw [hus, List.length_append, List.length_map]
      rw [List.length_drop] at hl
      refine ⟨⟨(xs.take n).map (Value.int kd), [], ?_, ⟨by rw [List.length_take]; omega, fun y hy => g4 y (List.mem_of_mem_take hy), rfl⟩, rfl⟩, by omega⟩
      rw [hus, List.take_append, List.length_map, show n - xs.length = 0 from by omega, List.take_zero, List.map_take]
    · obtain ⟨g3, g4⟩ := takeF_rel h g1
      rw [List.length_drop] at g4
      exact ⟨g3, by omega⟩
  · rename_i r' h1
    obtain ⟨g1, g2⟩ := dropF_rel ‹_› hr
    obtain ⟨g3, g4⟩ := takeF_rel h g1
    rw [List.length_drop] at g4
    exact ⟨g3, by omega⟩
  · cases h

theorem seeC_rel {x : Cell} {r : Res} {v : Value} (h : (seeC x).val = some r) (hr : RelC E x v) : r.2 = [] ∧ RelS E r.1 v := by
  unfold seeC at h
  split at h
  · rename_i d
    have key : ∀ b, d.isOwn b = true → RelC E (.sl b d.off d.len) v := fun b hb => by
      cases d with
      | own b' off len =>
        have : b' = b := by simpa [RefD.isOwn] using hb
        subst this
        exact hr
      | _ => simp [RefD.isOwn] at hb
    simp only [Tree.val] at h
    split at h
    · rename_i hb
      obtain rfl := Option.some.inj h
      exact ⟨rfl, key 0 hb⟩
    · split at h
      · rename_i hb
        obtain rfl := Option.some.inj h
        exact ⟨rfl, key 1 hb⟩
      · obtain rfl := Option.some.inj h
        exact ⟨rfl, hr⟩
  · obtain rfl := val_ret h
    exact ⟨rfl, hr⟩

theorem loadF_sound (hE : RepH G E) {T : TypeId} {fs : List FCell} {o k n kb base : Nat} {vs : List Value} {r : Res} (h : (loadF P T fs o k n).val = some r) (hk : KN k n) (hr : RelFs E fs vs) (hat : At E.w kb base vs) :
    ∃ u, (loadVar T ⟨kb, base + (o + k), none⟩).run P E.w = .ok u E.w ∧ r.2 = [] ∧ RelS E r.1 u := by
  unfold loadF at h
  split at h
  · rename_i hT
    obtain ⟨x, h1, h2⟩ := val_opt h
    obtain ⟨v, g1, g2⟩ := getC_rel h1 hk hr
    obtain ⟨q1, q2⟩ := seeC_rel h2 g2
    refine ⟨v, ?_, q1, q2⟩
    simp only [loadVar, Sem.run_bind, run_isAgg hT, Result.andThen_ok, Bool.false_eq_true, if_false]
    exact load_run (hat _ _ g1)
  · rename_i hT
    split at h
    · obtain ⟨gs, h1, h2⟩ := val_opt h
      obtain rfl := val_ret h2
      obtain ⟨g1, g2⟩ := getGP_rel h1 hr
      refine ⟨.agg ((vs.drop o).take (P.cellsOf T)).toArray, ?_, rfl, ⟨_, rfl, by simpa using g1⟩⟩
      obtain ⟨d, hd⟩ := underlying_of_isAgg hT
      have hl : ((vs.drop o).take (P.cellsOf T)).length = P.cellsOf T := by rw [List.length_take, List.length_drop]; omega
      have := (hat.sub o (P.cellsOf T)).run (P := P)
      rw [hl] at this
      simp only [loadVar, Sem.run_bind, run_isAgg hT, Result.andThen_ok, if_true, run_sizeOf hd, Nat.add_zero, this, Sem.run_pure]
    · cases h
  · cases h

theorem Rows.at {sz : Nat} {α : Type} {Q : α → List Value → Prop} {xs : List α} {c : Array Value} {e : TypeId} {fz : Nat × Nat} {w : World} {k at_ : Nat} (h : Rows sz Q xs at_ c) (hc : w.heap[k]? = some (.cells c e fz)) {i : Nat} (hi : i < xs.length) :
    ∃ us, Q xs[i] us ∧ us.length = sz ∧ At w k (at_ + i * sz) us := by
  obtain ⟨us, h1, h2, h3⟩ := h i hi
  refine ⟨us, h1, h2, fun j v hv => ?_⟩
  have hj : j < sz := by rw [← h2]; exact (List.getElem?_eq_some_iff.1 hv).1
  rw [cell_of hc, Nat.add_assoc, h3 j hj]; exact hv

/-- the cells of a slice's block -/
theorem blockRows (hE : RepH G E) {b k : Nat} {t : DTy} {xs : List t.den} (hb : (∃ lo par, getB E.H b = .arr t xs lo par) ∨ getB E.H b = .frz t xs) (hk : E.β b = some k) :
    ∃ c e fz, E.w.heap[k]? = some (.cells c e fz) ∧ Rows t.size (RoT E t) xs 0 c := by
  have h := hE.blk b
  rcases hb with ⟨lo, par, hb⟩ | hb <;> rw [hb] at h
  · rcases h.2.2 with ⟨h1, _⟩ | ⟨k', c, e, fz, h1, h2, h3, h4⟩
    · rw [hk] at h1; cases h1
    · rw [hk] at h1; obtain rfl := Option.some.inj h1; exact ⟨c, e, fz, h2, h4⟩
  · rcases h.2 with ⟨h1, _⟩ | ⟨k', c, e, fz, h1, h2, h3, h4⟩
    · rw [hk] at h1; cases h1
    · rw [hk] at h1; obtain rfl := Option.some.inj h1; exact ⟨c, e, fz, h2, h3⟩

theorem getD_eq {α : Type} {xs : List α} {i : Nat} {d : α} (h : i < xs.length) : xs.getD i d = xs[i] := by simp [List.getD, h]

/-- numbers one behind the other -/
theorem ints_at {kd : IntKind} {xs : List Int} {k at_ : Nat} {c : Array Value} {e : TypeId} {fz : Nat × Nat} {w : World} (hc : w.heap[k]? = some (.cells c e fz))
    (hrows : Rows 1 (fun d vs => vs = [Value.int kd d] ∧ InK kd d) xs at_ c) : At w k at_ (xs.map (Value.int kd)) ∧ ∀ x ∈ xs, InK kd x := by
  have hel : ∀ q (hq : q < xs.length), w.cell? ⟨k, at_ + q, none⟩ = some (.int kd xs[q]) ∧ InK kd xs[q] := fun q hq => by
    obtain ⟨us, ⟨rfl, g4⟩, g2, g3⟩ := hrows q hq
    have := g3 0 (by omega)
    simp only [Nat.mul_one, Nat.add_zero] at this
    exact ⟨by rw [cell_of hc, this]; rfl, g4⟩
  refine ⟨fun j v hv => ?_, fun x hx => ?_⟩
  · rw [List.getElem?_map] at hv
    cases hx : xs[j]? with
    | none => rw [hx] at hv; cases hv
    | some y =>
      rw [hx] at hv
      obtain ⟨hq, hy⟩ := List.getElem?_eq_some_iff.1 hx
      obtain rfl := Option.some.inj hv
      rw [(hel j hq).1, hy]
  · obtain ⟨q, hq, rfl⟩ := List.getElem_of_mem hx
    exact (hel q hq).2

theorem rowInts {T e' : TypeId} {kd : IntKind} {xs : List Int} {i k n : Nat} {c : Array Value} {e : TypeId} {fz : Nat × Nat} (hT : P.underlying T = some (.array n e')) (hsz : P.cellsOf T = n) (h1 : i + n ≤ xs.length)
    (hc : E.w.heap[k]? = some (.cells c e fz)) (hrows : Rows 1 (fun d vs => vs = [Value.int kd d] ∧ InK kd d) xs 0 c) :
    ∃ u, (loadVar T ⟨k, i, none⟩).run P E.w = .ok u E.w ∧ RelS E (.one (.g [.ws kd n ((xs.drop i).take n)])) u := by
  obtain ⟨hat, hin⟩ := ints_at hc hrows
  have hlen : ((xs.drop i).take n).length = n := by
    rw [List.length_take, List.length_drop]
    omega
  have hat' := hat.sub i n
  rw [← List.map_drop, ← List.map_take, Nat.zero_add] at hat'
  have ha : isAggT P T = some true := by simp [isAggT, hT]
  have hrun := hat'.run (P := P)
  rw [List.length_map, hlen] at hrun
  refine ⟨.agg (((xs.drop i).take n).map (Value.int kd)).toArray, ?_, ⟨_, rfl, ?_⟩⟩
  · simp only [loadVar, Sem.run_bind, run_isAgg ha, Result.andThen_ok, if_true, run_sizeOf hT, hsz, hrun, Sem.run_pure]
  · exact ⟨_, [], by simp, ⟨hlen, fun y hy => hin y (List.mem_of_mem_drop (List.mem_of_mem_take hy)), rfl⟩, rfl⟩

theorem rowLoad0_sound {T : TypeId} {t : DTy} {xs : List t.den} {i k : Nat} {tr : Tree Res} {r : Res} {c : Array Value} {e : TypeId} {fz : Nat × Nat} (h : rowLoad0 P T t xs i = some tr) (hr : tr.val = some r)
    (hc : E.w.heap[k]? = some (.cells c e fz)) (hrows : Rows t.size (RoT E t) xs 0 c) :
    ∃ u, (loadVar T ⟨k, i * t.size, none⟩).run P E.w = .ok u E.w ∧ r.2 = [] ∧ RelS E r.1 u := by
  unfold rowLoad0 at h
  split at h
  · rename_i kd xs n e' hT
    split at h
    · rename_i kd' he
      split at h
      · rename_i hkd
        obtain ⟨rfl, hsz⟩ := hkd
        obtain rfl := Option.some.inj h
        obtain ⟨h1, h2⟩ := val_chk hr
        obtain rfl := val_ret h2
        obtain ⟨u, g1, g2⟩ := rowInts (E := E) (xs := xs) hT hsz (of_decide_eq_true h1) hc hrows
        exact ⟨u, by rw [show i * (DTy.int kd).size = i from Nat.mul_one i]; exact g1, rfl, g2⟩
      · cases h
    · cases h
  · cases h

theorem rowLoad_sound {T : TypeId} {t : DTy} {xs : List t.den} {i o q n k : Nat} {tr : Tree Res} {r : Res} {c : Array Value} {e : TypeId} {fz : Nat × Nat} (h : rowLoad P T t xs i o q n = some tr) (hr : tr.val = some r)
    (hc : E.w.heap[k]? = some (.cells c e fz)) (hrows : Rows t.size (RoT E t) xs 0 c) :
    ∃ u, (loadVar T ⟨k, i * t.size + (o + q), none⟩).run P E.w = .ok u E.w ∧ r.2 = [] ∧ RelS E r.1 u := by
  unfold rowLoad at h
  split at h
  · cases h
  · split at h
    · exact rowLoad0_sound h hr hc hrows
    · cases h

theorem run_sureAddr (a : Addr) (w : World) : (Instr.sureAddr (.pointer (some a))).run P w = .ok a w := rfl

theorem RepH.vals (hE : RepH G E) {b : Nat} {fs : List FCell} (hb : getB E.H b = .vals fs) :
    ∃ k c e fz, E.β b = some k ∧ E.w.heap[k]? = some (.cells c e fz) ∧ NoFz fz c.size ∧ RelFs E fs c.toList := by
  have h := hE.blk b
  rw [hb] at h
  exact h

theorem vals_at {w : World} {k : Nat} {c : Array Value} {e : TypeId} {fz : Nat × Nat} (hc : w.heap[k]? = some (.cells c e fz)) : At w k 0 c.toList := fun j v hv => by
  rw [cell_of hc, Nat.zero_add]; simpa using hv

/-- an executor's look at the blocks -/
def LookOk (E : Env) (look : Look) : Prop := ∀ b, look b = .dead ∨ look b = getB E.H b

theorem LookOk.eq {look : Look} (h : LookOk E look) {b : Nat} {k : Blk} (hb : look b = k) (hk : k ≠ .dead) : getB E.H b = k := by
  rcases h b with h1 | h1
  · rw [h1] at hb; exact absurd hb.symm hk
  · rw [← h1]; exact hb

theorem loadT_sound (hE : RepH G E) {look : Look} (hl : LookOk E look) {T : TypeId} {p : SV} {x : Value} {r : Res} (hp : RelS E p x) (h : (loadT P look T p).val = some r) : SemOk P G E (Instr.loadAt T x) r := by
  unfold loadT at h
  split at h
  · rename_i b i es o k n
    obtain ⟨_, h2⟩ := hp
    unfold RelPtr at h2
    split at h
    · rename_i t xs lo par hb
      have hb := hl.eq hb (by intro h; cases h)
      rw [hb] at h2
      obtain ⟨_, h3', h5⟩ := h2
      split at h
      · rename_i hes
        obtain ⟨⟨kb, h3, rfl⟩, h4⟩ := h3' hes
        obtain ⟨c, e, fz, hc, hrows⟩ := blockRows hE (.inl ⟨lo, par, hb⟩) h3
        split at h
        · rename_i tr htr
          obtain ⟨u, g1, g2, g3⟩ := rowLoad_sound htr h hc hrows
          obtain ⟨rv, rw⟩ := r
          obtain rfl : rw = [] := g2
          exact SemOk.pure hE (u := u) (by simp only [Instr.loadAt, Sem.run_bind, run_sureAddr, Result.andThen_ok, hes]; exact g1) g3
        · obtain ⟨fs, h6, h7⟩ := val_opt h
          simp only [rowOf, Option.some.injEq] at h6
          subst h6
          rw [getD_eq h5] at h7
          obtain ⟨us, q1, q2, q3⟩ := hrows.at hc h5
          obtain ⟨u, g1, g2, g3⟩ := loadF_sound hE h7 h4 (toF_rel t _ us q1) q3
          obtain ⟨rv, rw⟩ := r
          obtain rfl : rw = [] := g2
          exact SemOk.pure hE (u := u) (by simp only [Instr.loadAt, Sem.run_bind, run_sureAddr, Result.andThen_ok, hes]; rw [Nat.zero_add] at g1; exact g1) g3
      · cases h
    · rename_i t xs hb
      have hb := hl.eq hb (by intro h; cases h)
      rw [hb] at h2
      obtain ⟨_, h3', h5⟩ := h2
      split at h
      · rename_i hes
        obtain ⟨⟨kb, h3, rfl⟩, h4⟩ := h3' hes
        obtain ⟨c, e, fz, hc, hrows⟩ := blockRows hE (.inr hb) h3
        split at h
        · rename_i tr htr
          obtain ⟨u, g1, g2, g3⟩ := rowLoad_sound htr h hc hrows
          obtain ⟨rv, rw⟩ := r
          obtain rfl : rw = [] := g2
          exact SemOk.pure hE (u := u) (by simp only [Instr.loadAt, Sem.run_bind, run_sureAddr, Result.andThen_ok, hes]; exact g1) g3
        · obtain ⟨fs, h6, h7⟩ := val_opt h
          simp only [rowOf, Option.some.injEq] at h6
          subst h6
          rw [getD_eq h5] at h7
          obtain ⟨us, q1, q2, q3⟩ := hrows.at hc h5
          obtain ⟨u, g1, g2, g3⟩ := loadF_sound hE h7 h4 (toF_rel t _ us q1) q3
          obtain ⟨rv, rw⟩ := r
          obtain rfl : rw = [] := g2
          exact SemOk.pure hE (u := u) (by simp only [Instr.loadAt, Sem.run_bind, run_sureAddr, Result.andThen_ok, hes]; rw [Nat.zero_add] at g1; exact g1) g3
      · cases h
    · rename_i fs hb
      have hb := hl.eq hb (by intro h; cases h)
      rw [hb] at h2
      obtain ⟨⟨kb, h3, rfl⟩, h4⟩ := h2
      split at h
      · obtain ⟨k', c, e, fz, g1, g2, g3, g4⟩ := hE.vals hb
        rw [h3] at g1
        obtain rfl := Option.some.inj g1
        obtain ⟨u, q1, q2, q3⟩ := loadF_sound hE h h4 g4 (vals_at g2)
        obtain ⟨rv, rw⟩ := r
        obtain rfl : rw = [] := q2
        exact SemOk.pure hE (u := u) (by simp only [Instr.loadAt, Sem.run_bind, run_sureAddr, Result.andThen_ok, Nat.zero_mul]; exact q1) q3
      · cases h
    · cases h
  · rename_i t d o
    obtain ⟨kb, off, c, e, fz, us, rfl, h2, h3, h4, h5, h6⟩ := hp
    have hat : At E.w kb off us := fun j v hv => by
      have hj : j < t.size := by rw [← h5]; exact (List.getElem?_eq_some_iff.1 hv).1
      rw [cell_of h3, h6 j hj]; exact hv
    obtain ⟨u, q1, q2, q3⟩ := loadF_sound hE h (.inl ⟨rfl, rfl⟩) (toF_rel t d us h4) hat
    obtain ⟨rv, rw⟩ := r
    obtain rfl : rw = [] := q2
    exact SemOk.pure hE (u := u) (by simp only [Instr.loadAt, Sem.run_bind, run_sureAddr, Result.andThen_ok]; exact q1) q3
  · cases h

/-! ### Addresses -/
/-- an address that is known, of which a later one is reckoned -/
theorem ptr_known {b i es o k n : Nat} {x : Value} (h : RelC E (.ptr b i es o k n) x) : (∃ a, x = .pointer (some a)) := by
  obtain ⟨_, h2⟩ := h
  unfold RelPtr at h2
  split at h2
  · obtain ⟨⟨kb, _, e⟩, _⟩ := h2; exact ⟨_, e⟩
  · exact h2.1
  · exact h2.1
  · exact h2
  · exact h2.elim

theorem PtrAt.shift {b i es o n o' k' n' : Nat} {a : Addr} (h2 : PtrAt E b i es o 0 n (.pointer (some a))) (m : Nat) (hm : o' + k' = o + m) (hk : KN k' n') : PtrAt E b i es o' k' n' (.pointer (some (a.add m))) := by
  obtain ⟨⟨kb, h3, h4⟩, _⟩ := h2
  simp only [Value.pointer.injEq, Option.some.injEq] at h4
  subst h4
  exact ⟨⟨kb, h3, by rw [add_addr]; simp; omega⟩, hk⟩

/-- a place reckoned from another one, within the same element -/
theorem ptr_shift {b i es o n o' k' n' : Nat} {a : Addr} (h : RelC E (.ptr b i es o 0 n) (.pointer (some a))) (m : Nat) (hm : o' + k' = o + m) (hk : KN k' n') : RelC E (.ptr b i es o' k' n') (.pointer (some (a.add m))) := by
  obtain ⟨_, h2⟩ := h
  refine ⟨trivial, ?_⟩
  unfold RelPtr at h2 ⊢
  cases hb : getB E.H b <;> rw [hb] at h2
  · exact h2.shift m hm hk
  · exact ⟨⟨_, rfl⟩, fun e => (h2.2.1 e).shift m hm hk, h2.2.2⟩
  · exact ⟨⟨_, rfl⟩, fun e => (h2.2.1 e).shift m hm hk, h2.2.2⟩
  · exact ⟨_, rfl⟩
  · exact h2.elim

theorem fieldOff_run {S : TypeId} {f off : Nat} {T : TypeId} (h : fieldOff P S f = some (off, T)) :
    ∃ fields fd, P.underlying S = some (.struct fields) ∧ fields[f]? = some fd ∧ fd.offset = off ∧ fd.type = T ∧ P.cellsOf T ≠ 0 := by
  unfold fieldOff at h
  split at h
  · rename_i fields hS
    split at h
    · rename_i fd hf
      split at h
      · cases h
      · rename_i hz
        simp only [Option.some.injEq, Prod.mk.injEq] at h
        obtain ⟨h1, h2⟩ := h
        subst h2
        exact ⟨fields, fd, hS, hf, h1, rfl, hz⟩
    · cases h
  · cases h

theorem run_sizeOf' {t : TypeId} (h : P.cellsOf t ≠ 0) (w : World) : (sizeOf t).run P w = .ok (P.cellsOf t) w := by
  unfold Program.cellsOf at h ⊢
  cases hi : P.info? t with
  | none => rw [hi] at h; exact absurd rfl h
  | some i => simp [sizeOf, run_typeInfo hi]

theorem run_fieldAt {S : TypeId} {f off : Nat} {T : TypeId} (h : fieldOff P S f = some (off, T)) (kb o : Nat) (w : World) :
    (Instr.fieldAt S (.pointer (some ⟨kb, o, none⟩)) f).run P w = .ok (.pointer (some ⟨kb, o + off, none⟩)) w := by
  obtain ⟨fields, fd, h1, h2, rfl, rfl, h5⟩ := fieldOff_run h
  simp only [Instr.fieldAt, Sem.run_bind, run_underlying h1, Result.andThen_ok, h2, run_sureAddr, fieldPlace, run_sizeOf' h5, h5, if_false, add_addr, Sem.run_pure]

theorem fieldAddrT_sound (hE : RepH G E) {S : TypeId} {f : Nat} {p : SV} {x : Value} {r : Res} (hp : RelS E p x) (h : (fieldAddrT P S p f).val = some r) : SemOk P G E (Instr.fieldAt S x f) r := by
  unfold fieldAddrT at h
  split at h
  · rename_i b i es o off T hf
    obtain rfl := val_ret h
    obtain ⟨a, rfl⟩ := ptr_known hp
    obtain ⟨fields, fd, h1, h2, rfl, rfl, h5⟩ := fieldOff_run hf
    exact SemOk.pure hE (u := .pointer (some (a.add fd.offset))) (by
      simp only [Instr.fieldAt, Sem.run_bind, run_underlying h1, Result.andThen_ok, h2, run_sureAddr, fieldPlace, run_sizeOf' h5, h5, if_false, Sem.run_pure])
      (ptr_shift hp _ (by omega) (.inl ⟨rfl, rfl⟩))
  · rename_i t d o off T hf
    obtain rfl := val_ret h
    obtain ⟨kb, a, c, e, fz, us, rfl, h2, h3, h4, h5, h6⟩ := hp
    exact SemOk.pure hE (u := _) (run_fieldAt hf _ _ _) ⟨kb, a, c, e, fz, us, by simp [Nat.add_assoc], h2, h3, h4, h5, h6⟩
  · cases h

theorem part_sound {T : TypeId} {fs : List FCell} {off : Nat} {cs : Array Value} {r : Res} (hr : RelFs E fs cs.toList)
    (h : (match isAggT P T with
      | some false => Tree.opt (getC fs off 0 0) fun c => .ret (one c, [])
      | some true => Tree.opt (getG fs off (P.cellsOf T)) fun gs => .ret (.one (.g gs), [])
      | none => (.fail : Tree Res)).val = some r) (w : World) : ∃ u, (part T cs off).run P w = .ok u w ∧ r.2 = [] ∧ RelS E r.1 u := by
  split at h
  · rename_i hT
    obtain ⟨x, h1, h2⟩ := val_opt h
    obtain rfl := val_ret h2
    obtain ⟨v, g1, g2⟩ := getC_rel h1 (.inl ⟨rfl, rfl⟩) hr
    have g1 : cs[off]? = some v := by simpa using g1
    exact ⟨v, by simp [part, run_isAgg hT, g1], rfl, g2⟩
  · rename_i hT
    obtain ⟨gs, h1, h2⟩ := val_opt h
    obtain rfl := val_ret h2
    obtain ⟨g1, g2⟩ := getG_rel h1 hr
    obtain ⟨d, hd⟩ := underlying_of_isAgg hT
    refine ⟨.agg (cs.extract off (off + P.cellsOf T)), by simp [part, run_isAgg hT, run_sizeOf hd], rfl, ⟨_, rfl, ?_⟩⟩
    rw [Array.toList_extract]
    simpa [List.extract_eq_take_drop] using g1
  · cases h

theorem fieldT_sound (hE : RepH G E) {S : TypeId} {f : Nat} {p : SV} {x : Value} {r : Res} (hp : RelS E p x) (h : (fieldT P S p f).val = some r) : SemOk P G E (Instr.field S x f) r := by
  unfold fieldT at h
  split at h
  · rename_i fs off T hf
    obtain ⟨cs, rfl, hr⟩ := hp
    obtain ⟨u, g1, g2, g3⟩ := part_sound hr h E.w
    obtain ⟨rv, rw⟩ := r
    obtain rfl : rw = [] := g2
    obtain ⟨fields, fd, h1, h2, rfl, rfl, h5⟩ := fieldOff_run hf
    exact SemOk.pure hE (u := u) (by simp [Instr.field, run_underlying h1, h2, asAgg, g1]) g3
  · cases h

theorem extract_sound (hE : RepH G E) {vs : List V1} {x : Value} {i : Nat} {v : V1} (hp : RelS E (.tup vs) x) (h : vs[i]? = some v) : SemOk P G E (Instr.extract x i) (.one v, []) := by
  obtain ⟨us, rfl, hr⟩ := hp
  have key : ∀ (vs : List V1) (us : List Value) (i : Nat), RelVs E vs us → vs[i]? = some v → ∃ u, us[i]? = some u ∧ RelV E v u := by
    intro vs
    induction vs with
    | nil => intro us i _ h; simp at h
    | cons y ys ih =>
      intro us i hr h
      obtain ⟨u, us', rfl, h1, h2⟩ := hr
      cases i with
      | zero => simp at h; subst h; exact ⟨u, rfl, h1⟩
      | succ i => exact ih us' i h2 (by simpa using h)
  obtain ⟨u, h1, h2⟩ := key vs us.toList i hr h
  have h1 : us[i]? = some u := by simpa using h1
  exact SemOk.pure hE (u := u) (by simp [Instr.extract, h1]) h2
end Go.SX
