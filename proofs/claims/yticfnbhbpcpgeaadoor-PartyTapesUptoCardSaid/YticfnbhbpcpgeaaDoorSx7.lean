/-
  SX, part 7: operations that compute: what the machine does is what the executor says.
-/
import Derived.Test.YticfnbhbpcpgeaaDoorSx6
import Derived.Laws.StructEq
namespace Go.SX
open Go
variable {G : GlobT} {E : Env} {P : Program}

/-! ### Trees -/
theorem Tree.val_bind {α β : Type} : ∀ (t : Tree α) (f : α → Tree β), (t.bind f).val = t.val.bind fun a => (f a).val
  | .ret a, f => rfl
  | .br b t e, f => by
    simp only [Tree.bind, Tree.val]
    cases b
    · simpa using Tree.val_bind e f
    · simpa using Tree.val_bind t f
  | .fail, f => rfl

theorem val_opt {α β : Type} {o : Option α} {f : α → Tree β} {r : β} (h : (Tree.opt o f).val = some r) : ∃ a, o = some a ∧ (f a).val = some r := by
  cases o with
  | none => cases h
  | some a => exact ⟨a, rfl, h⟩
theorem val_chk {α : Type} {b : Bool} {t : Tree α} {r : α} (h : (Tree.chk b t).val = some r) : b = true ∧ t.val = some r := by
  cases b with
  | false => cases h
  | true => exact ⟨rfl, h⟩
theorem val_stat {α : Type} {b : Bool} {t : Tree α} {r : α} (h : (Tree.stat b t).val = some r) : b = true ∧ t.val = some r := by
  cases b with
  | false => cases h
  | true => exact ⟨rfl, h⟩
theorem val_chkl {α : Type} {l b : Bool} {t : Tree α} {r : α} (h : (Tree.chkl l b t).val = some r) : b = true ∧ t.val = some r := by
  cases l with
  | false => exact val_chk h
  | true => exact val_stat h
theorem val_brl {α : Type} {l b : Bool} {t e : Tree α} : (Tree.brl l b t e).val = (if b then t else e).val := by
  cases l <;> cases b <;> rfl
theorem val_ret {α : Type} {a r : α} (h : (Tree.ret a).val = some r) : a = r := Option.some.inj h

/-! ### Numbers -/
theorem inK_wrap (k : IntKind) (n : Int) : InK k (k.wrap n) := by
  cases k <;> simp [InK, IntKind.wrap, IntKind.min, IntKind.max, IntKind.signed, IntKind.bits] <;> (try split) <;> omega

theorem inK_fdiv {k : IntKind} {x : Int} (h : InK k x) (n : Nat) : InK k (x.fdiv (2 ^ n)) := by
  have hp : (0 : Int) < 2 ^ n := Int.pow_pos (by omega)
  have h0 : k.min ≤ 0 ∧ 0 ≤ k.max := by cases k <;> simp [IntKind.min, IntKind.max, IntKind.signed, IntKind.bits]
  obtain ⟨h1, h2⟩ := h
  rw [Int.fdiv_eq_ediv_of_nonneg _ (by omega)]
  constructor
  · by_cases hx : 0 ≤ x
    · exact Int.le_trans h0.1 (Int.ediv_nonneg hx (by omega))
    · refine Int.le_trans h1 ?_
      rw [Int.le_ediv_iff_mul_le hp]
      have : x * 2 ^ n ≤ x * 1 := Int.mul_le_mul_of_nonpos_left (by omega) (by omega)
      omega
  · by_cases hx : 0 ≤ x
    · exact Int.le_trans (Int.ediv_le_self _ hx) h2
    · have : x / 2 ^ n < 0 := Int.ediv_neg_of_neg_of_pos (by omega) hp
      omega

theorem inK_tmod {k : IntKind} {x : Int} (h : InK k x) (y : Int) : InK k (x.tmod y) := by
  have h0 : k.min ≤ 0 ∧ 0 ≤ k.max := by cases k <;> simp [IntKind.min, IntKind.max, IntKind.signed, IntKind.bits]
  obtain ⟨h1, h2⟩ := h
  have hn : (x.tmod y).natAbs ≤ x.natAbs := by rw [Int.natAbs_tmod]; exact Nat.mod_le _ _
  by_cases hx : 0 ≤ x
  · have g1 : 0 ≤ x.tmod y := Int.tmod_nonneg _ hx
    exact ⟨by omega, by omega⟩
  · have e : x.tmod y = -((-x).tmod y) := by rw [Int.neg_tmod, Int.neg_neg]
    have g1 : 0 ≤ (-x).tmod y := Int.tmod_nonneg _ (by omega)
    exact ⟨by omega, by omega⟩

theorem shI_inK {op : BinOp} {k : IntKind} {x y v : Int} (h : shI op k x y = some v) (hx : InK k x) : InK k v := by
  unfold shI at h
  split at h <;> first | (obtain rfl := Option.some.inj h; first | exact inK_wrap _ _ | exact inK_fdiv hx _) | cases h
theorem divI_inK {op : BinOp} {k : IntKind} {x y v : Int} (h : divI op k x y = some v) (hx : InK k x) : InK k v := by
  unfold divI at h
  split at h <;> first | (obtain rfl := Option.some.inj h; first | exact inK_wrap _ _ | exact inK_tmod hx _) | cases h
theorem binI_inK {op : BinOp} {k : IntKind} {x y v : Int} (h : binI op k x y = some (.n v)) : InK k v := by
  unfold binI at h
  split at h <;> first | (cases h; exact inK_wrap _ _) | cases h

/-! ### What an operation yields -/
/-- the state that a result stands for -/
def ResR (G : GlobT) (E : Env) (r : Res) (u : Value) (w' : World) : Prop :=
  ∃ β' R', RepH G ⟨β', setBs E.H r.2, w', R'⟩ ∧ Ext E ⟨β', setBs E.H r.2, w', R'⟩ ∧ RelS ⟨β', setBs E.H r.2, w', R'⟩ r.1 u

/-- the machine's operation runs, and yields what the result says -/
def SemOk (P : Program) (G : GlobT) (E : Env) (s : Sem Value) (r : Res) : Prop := ∃ v w', s.run P E.w = .ok v w' ∧ ResR G E r v w'

theorem ResR.pure (hE : RepH G E) {v : SV} {u : Value} (h : RelS E v u) : ResR G E (v, []) u E.w := ⟨E.β, E.R, hE, Ext.refl E, h⟩
theorem SemOk.pure (hE : RepH G E) {s : Sem Value} {v : SV} {u : Value} (hs : s.run P E.w = .ok u E.w) (h : RelS E v u) : SemOk P G E s (v, []) := ⟨u, E.w, hs, ResR.pure hE h⟩

theorem run_isAgg {t : TypeId} {b : Bool} (h : isAggT P t = some b) (w : World) : (isAgg t).run P w = .ok b w := by
  unfold isAggT at h
  split at h <;> first
    | (rename_i hu; obtain rfl := Option.some.inj h; simp [isAgg, run_underlying hu])
    | cases h
    | (rename_i d hns hna hu; obtain rfl := Option.some.inj h; simp only [isAgg, Sem.run_bind, run_underlying hu, Result.andThen_ok]; cases d <;> first | rfl | (exfalso; simp_all; done))

theorem info_of_underlying {t : TypeId} {d : TypeDesc} (h : P.underlying t = some d) : ∃ i, P.info? t = some i := by
  unfold Program.underlying at h
  cases hi : P.info? t with
  | none => rw [hi] at h; cases h
  | some i => exact ⟨i, rfl⟩

theorem run_typeInfo {t : TypeId} {i : TypeInfo} (h : P.info? t = some i) (w : World) : (typeInfo t).run P w = .ok i w := by
  simp [typeInfo, h]

theorem run_sizeOf {t : TypeId} {d : TypeDesc} (h : P.underlying t = some d) (w : World) : (sizeOf t).run P w = .ok (P.cellsOf t) w := by
  obtain ⟨i, hi⟩ := info_of_underlying h
  simp [sizeOf, run_typeInfo hi, Program.cellsOf, hi]

theorem underlying_of_isAgg {t : TypeId} {b : Bool} (h : isAggT P t = some b) : ∃ d, P.underlying t = some d := by
  unfold isAggT at h
  cases hu : P.underlying t with
  | none => rw [hu] at h; cases h
  | some d => exact ⟨d, rfl⟩

/-! ### Unary and binary operations -/
theorem unT_sound (hE : RepH G E) {op : UnOp} {a : SV} {x : Value} {r : Res} (ha : RelS E a x) (h : (unT op a).val = some r) : SemOk P G E (Op.unary op x) r := by
  unfold unT at h
  split at h
  · obtain rfl := val_ret h
    obtain ⟨rfl, hk⟩ := ha
    exact SemOk.pure hE (u := .int _ _) (by simp [Op.unary, Op.intArith]) ⟨rfl, inK_wrap _ _⟩
  · obtain rfl := val_ret h
    obtain ⟨rfl, hk⟩ := ha
    exact SemOk.pure hE (u := .int _ _) (by simp [Op.unary, Op.intBits]) ⟨rfl, inK_wrap _ _⟩
  · obtain rfl := val_ret h
    obtain rfl : x = .bool _ := ha
    exact SemOk.pure hE (u := .bool _) (by simp [Op.unary]) rfl
  · cases h

theorem run_eqGuard_int (op : BinOp) (T : TypeId) (x y : Operand) (k k' : IntKind) (a b : Int) (w : World) : (eqGuard op T x y (.int k a) (.int k' b)).run P w = .ok () w := by
  unfold eqGuard; cases op <;> rfl
theorem run_eqGuard_bool (op : BinOp) (T : TypeId) (x y : Operand) (a b : Bool) (w : World) : (eqGuard op T x y (.bool a) (.bool b)).run P w = .ok () w := by
  unfold eqGuard; cases op <;> rfl
theorem run_eqGuard_str (op : BinOp) (T : TypeId) (x y : Operand) (a b : ByteArray) (w : World) : (eqGuard op T x y (.string a) (.string b)).run P w = .ok () w := by
  unfold eqGuard; cases op <;> rfl
theorem run_eqGuard_ptr (op : BinOp) (T : TypeId) (x y : Operand) (a b : Option Addr) (w : World) : (eqGuard op T x y (.pointer a) (.pointer b)).run P w = .ok () w := by
  unfold eqGuard; cases op <;> rfl

theorem binI_run {op : BinOp} {k : IntKind} {x y : Int} {nr : NR} {T : TypeId} (h : binI op k x y = some nr) (w : World) :
    (binOp op T (.int k x) (.int k y)).run P w = .ok (match nr with | .n v => .int k v | .b v => .bool v) w := by
  cases op <;> simp only [binI] at h <;> first | (cases h; done) | (obtain rfl := Option.some.inj h; simp [binOp, Op.intArith, Op.intBits, Op.intCmp])

/-- '==' of two cells -/
theorem oneFit_c {T : TypeId} {x y : Cell} {l b : Bool} (hf : oneFit P T (.c x) = true) (h : eqF [.c x] [.c y] = some (l, b)) {u v : Value} (hu : RelC E x u) (hv : RelC E y v) (d : Nat) (w : World) :
    (Op.equalIn (d + 1) T u v).run P w = .ok b w := by
  cases x with
  | int lx k n =>
    cases y with
    | int ly k' n' =>
      simp only [eqF] at h
      split at h
      · rename_i hk
        simp only [Option.some.injEq, Prod.mk.injEq, Bool.and_true] at h
        obtain ⟨_, rfl⟩ := h
        subst hk
        rw [hu.1, hv.1]
        simp only [oneFit] at hf
        split at hf
        · rename_i hT; exact run_equalIn_int w d T _ _ _ _ hT
        · cases hf
      · cases h
    | _ => simp [eqF] at h
  | bool lx n =>
    cases y with
    | bool ly n' =>
      simp only [eqF, Option.some.injEq, Prod.mk.injEq, Bool.and_true] at h
      obtain ⟨_, rfl⟩ := h
      rw [show u = _ from hu, show v = _ from hv]
      simp only [oneFit] at hf
      split at hf
      · rename_i hT; exact run_equalIn_bool' w d T _ _ hT
      · cases hf
    | _ => simp [eqF] at h
  | str n =>
    cases y with
    | str n' =>
      simp only [eqF, Option.some.injEq, Prod.mk.injEq, Bool.and_true] at h
      obtain ⟨_, rfl⟩ := h
      rw [show u = _ from hu, show v = _ from hv]
      simp only [oneFit] at hf
      split at hf
      · rename_i hT; rw [run_equalIn_string w d T _ _ hT, beq_toListBytes]
      · cases hf
    | _ => simp [eqF] at h
  | _ => simp [eqF] at h

theorem part_ints {e : TypeId} {k : IntKind} {k' : IntKind} (he : P.underlying e = some (.int k')) (xs : List Int) (i : Nat) (hi : i < xs.length) (w : World) :
    (part e (xs.map (Value.int k)).toArray i).run P w = .ok (.int k xs[i]) w := by
  have ha : (isAgg e).run P w = .ok false w := by simp [isAgg, run_underlying he]
  simp [part, ha, hi]

theorem forIn_range_eq {e : TypeId} {k k' : IntKind} (he : P.underlying e = some (.int k')) (hs : P.cellsOf e = 1) (d : Nat) (xs ys : List Int) (hl : ys.length = xs.length) (w : World) :
    ∀ (n s : Nat), n + s = xs.length → 
    (forIn (m := Sem) (List.range' s n) ((none, ()) : Option Bool × Unit) fun i r => do
        let a ← part e (xs.map (Value.int k)).toArray (i * 1)
        let b ← part e (ys.map (Value.int k)).toArray (i * 1)
        let c ← Op.equalIn (d + 1) e a b
        if (!c) = true then pure (ForInStep.done (some false, ())) else pure (ForInStep.yield (none, ()))).run P w =
      .ok (if xs.drop s == ys.drop s then (none, ()) else (some false, ())) w
  | 0, s, hns => by
    have h1 : xs.drop s = [] := List.drop_eq_nil_of_le (by omega)
    have h2 : ys.drop s = [] := List.drop_eq_nil_of_le (by omega)
    simp [h1, h2]
  | n + 1, s, hns => by
    have hs1 : s < xs.length := by omega
    have hs2 : s < ys.length := by omega
    have ih := forIn_range_eq (k := k) he hs d xs ys hl w n (s + 1) (by omega)
    rw [List.range'_succ, List.forIn_cons]
    simp only [Sem.run_bind, Nat.mul_one, part_ints he xs s hs1, part_ints he ys s hs2, Result.andThen_ok, run_equalIn_int w d e k k' _ _ he]
    have e1 : (xs.drop s == ys.drop s) = ((xs[s] == ys[s]) && (xs.drop (s + 1) == ys.drop (s + 1))) := by
      rw [List.drop_eq_getElem_cons hs1, List.drop_eq_getElem_cons hs2]; rfl
    rw [e1]
    cases hb : xs[s] == ys[s]
    · simp only [Bool.not_false, if_true, Sem.run_pure, Result.andThen_ok, Bool.false_and, Bool.false_eq_true, if_false]
    · simp only [Bool.not_true, Bool.false_eq_true, if_false, Sem.run_pure, Result.andThen_ok, Bool.true_and]
      simp only [Nat.mul_one] at ih
      exact ih

theorem run_equalIn_array {T e : TypeId} {n : Nat} {k k' : IntKind} (hT : P.underlying T = some (.array n e)) (he : P.underlying e = some (.int k')) (hs : P.cellsOf e = 1) (d : Nat) (xs ys : List Int) (hx : xs.length = n) (hy : ys.length = n) (w : World) :
    (Op.equalIn (d + 2) T (.agg (xs.map (Value.int k)).toArray) (.agg (ys.map (Value.int k)).toArray)).run P w = .ok (xs == ys) w := by
  have h := forIn_range_eq (k := k) he hs d xs ys (hy.trans hx.symm) w n 0 (by omega)
  rw [Op.equalIn]
  simp only [Sem.run_bind, run_underlying hT, run_sizeOf he, hs, Result.andThen_ok, Std.Legacy.Range.forIn_eq_forIn_range']
  rw [show [:n].size = n from by simp [Std.Legacy.Range.size]]
  simp only [List.drop_zero] at h
  rw [h]
  cases xs == ys <;> rfl

theorem eqF_cons {f g : FCell} {fs gs : List FCell} {l b : Bool} (h : eqF (f :: fs) (g :: gs) = some (l, b)) :
    ∃ l1 b1 l2 b2, eqF [f] [g] = some (l1, b1) ∧ eqF fs gs = some (l2, b2) ∧ b = (b1 && b2) ∧ f.size = g.size := by
  cases f with
  | c x =>
    cases g with
    | ws k n xs => cases x <;> simp [eqF] at h
    | c y =>
      cases x <;> cases y <;> simp only [eqF] at h <;> try (cases h; done)
      · split at h
        · rename_i hk
          split at h
          · rename_i m b' h'
            simp only [Option.some.injEq, Prod.mk.injEq] at h
            exact ⟨_, _, m, b', by simp only [eqF, if_pos hk]; rfl, h', by rw [← h.2, Bool.and_true], rfl⟩
          · cases h
        · cases h
      · split at h
        · rename_i m b' h'
          simp only [Option.some.injEq, Prod.mk.injEq] at h
          exact ⟨_, _, m, b', by simp only [eqF]; rfl, h', by rw [← h.2, Bool.and_true], rfl⟩
        · cases h
      · split at h
        · rename_i m b' h'
          simp only [Option.some.injEq, Prod.mk.injEq] at h
          exact ⟨_, _, m, b', by simp only [eqF]; rfl, h', by rw [← h.2, Bool.and_true], rfl⟩
        · cases h
  | ws k n xs =>
    cases g with
    | c y => simp [eqF] at h
    | ws k' n' ys =>
      simp only [eqF] at h
      split at h
      · rename_i hk
        split at h
        · rename_i m b' h'
          simp only [Option.some.injEq, Prod.mk.injEq] at h
          exact ⟨_, _, m, b', by simp only [eqF, if_pos hk]; rfl, h', by rw [← h.2, Bool.and_true], hk.2⟩
        · cases h
      · cases h

/-- '==' of a field's part -/
theorem oneFit_part {T : TypeId} {f g : FCell} {l b : Bool} (hf : oneFit P T f = true) (h : eqF [f] [g] = some (l, b)) {us vs : List Value} (hu : RelF E f us) (hv : RelF E g vs) (pre post pre' post' : List Value) (hp : pre'.length = pre.length) (d : Nat) (w : World) :
    ∃ u v, (part T (pre ++ us ++ post).toArray pre.length).run P w = .ok u w ∧ (part T (pre' ++ vs ++ post').toArray pre.length).run P w = .ok v w ∧ (Op.equalIn (d + 2) T u v).run P w = .ok b w := by
  cases f with
  | c x =>
    cases g with
    | ws k n xs => cases x <;> simp [eqF] at h
    | c y =>
      obtain ⟨u, rfl, hu⟩ := hu
      obtain ⟨v, rfl, hv⟩ := hv
      have ha : (isAgg T).run P w = .ok false w := by
        cases x <;> simp only [oneFit] at hf <;> first
          | (cases hf; done)
          | (split at hf <;> first | (rename_i hT; simp [isAgg, run_underlying hT]) | cases hf)
      refine ⟨u, v, ?_, ?_, oneFit_c hf h hu hv (d + 1) w⟩
      · simp [part, ha]
      · simp [part, ha, ← hp]
  | ws k n xs =>
    cases g with
    | c y => simp [eqF] at h
    | ws k' n' ys =>
      simp only [eqF] at h
      split at h
      · rename_i hk
        obtain ⟨rfl, rfl⟩ := hk
        simp only [Option.some.injEq, Prod.mk.injEq, Bool.and_true] at h
        obtain ⟨_, rfl⟩ := h
        obtain ⟨h1, h2, rfl⟩ := hu
        obtain ⟨g1, g2, rfl⟩ := hv
        simp only [oneFit] at hf
        split at hf
        · rename_i m e hT
          split at hf
          · rename_i k'' he
            simp only [Bool.and_eq_true, beq_iff_eq] at hf
            obtain ⟨⟨rfl, hs⟩, hc⟩ := hf
            have ha : (isAgg T).run P w = .ok true w := by simp [isAgg, run_underlying hT]
            refine ⟨.agg (xs.map (Value.int k)).toArray, .agg (ys.map (Value.int k)).toArray, ?_, ?_, run_equalIn_array hT he hs d xs ys h1 g1 w⟩
            · simp only [part, Sem.run_bind, ha, Result.andThen_ok, if_true, run_sizeOf hT, hc, Sem.run_pure]
              congr 2
              apply Array.ext'
              simp [h1]
            · simp only [part, Sem.run_bind, ha, Result.andThen_ok, if_true, run_sizeOf hT, hc, Sem.run_pure]
              congr 2
              apply Array.ext'
              simp [g1, ← hp]
          · cases hf
        · cases hf
      · cases h

theorem fits_eq {d : Nat} : ∀ {fl : List Field} {fs gs : List FCell} {l b : Bool} {us vs pre pre' : List Value}, fitsS P fl fs pre.length = true → eqF fs gs = some (l, b) → RelFs E fs us → RelFs E gs vs → pre'.length = pre.length → ∀ w,
    (Op.eqFields (d + 2) (pre ++ us).toArray (pre' ++ vs).toArray fl).run P w = .ok b w
  | [], [], gs, l, b, us, vs, pre, pre', hf, h, hu, hv, hp, w => by
    cases gs with
    | cons g gs => simp [eqF] at h
    | nil =>
      simp only [eqF, Option.some.injEq, Prod.mk.injEq] at h
      obtain ⟨_, rfl⟩ := h
      rfl
  | [], _ :: _, _, _, _, _, _, _, _, hf, _, _, _, _, _ => by cases hf
  | _ :: _, [], _, _, _, _, _, _, _, hf, _, _, _, _, _ => by cases hf
  | fd :: fl, f :: fs, gs, l, b, us, vs, pre, pre', hf, h, hu, hv, hp, w => by
    cases gs with
    | nil => cases f with | c x => cases x <;> simp [eqF] at h | ws k n xs => simp [eqF] at h
    | cons g gs =>
      obtain ⟨l1, b1, l2, b2, h1, h2, rfl, hsz⟩ := eqF_cons h
      obtain ⟨u1, u2, rfl, hu1, hu2⟩ := hu
      obtain ⟨v1, v2, rfl, hv1, hv2⟩ := hv
      simp only [fitsS, Bool.and_eq_true, bne_iff_ne, ne_eq, beq_iff_eq] at hf
      obtain ⟨⟨⟨hn, ho⟩, hof⟩, hrest⟩ := hf
      obtain ⟨u, v, q1, q2, q3⟩ := oneFit_part hof h1 hu1 hv1 pre u2 pre' v2 hp d w
      have hl1 := RelF.len hu1
      have hl2 := RelF.len hv1
      have ih := fits_eq (d := d) (fl := fl) (us := u2) (vs := v2) (pre := pre ++ u1) (pre' := pre' ++ v1) (by rw [List.length_append, hl1]; exact hrest) h2 hu2 hv2 (by simp [hp, hl1, hl2, hsz]) w
      simp only [List.append_assoc] at q1 q2 ih
      simp only [Op.eqFields, ne_eq, hn, not_false_eq_true, if_true, Sem.run_bind, ho, q1, q2, q3, Result.andThen_ok, ih]
      cases b1
      · simp
      · simpa using ih

theorem run_eq_agg {T : TypeId} {fs gs : List FCell} {l b : Bool} (hp : plainT P T fs = true) (h : eqF fs gs = some (l, b)) {us vs : Array Value} (hu : RelFs E fs us.toList) (hv : RelFs E gs vs.toList) (w : World) :
    (Op.equalIn 10000 T (.agg us) (.agg vs)).run P w = .ok b w ∧ P.eqGuardType P.depth T = false := by
  unfold plainT at hp
  split at hp
  · rename_i n e hT
    split at hp
    · rename_i k m xs
      simp only [Bool.and_eq_true, Bool.not_eq_true'] at hp
      refine ⟨?_, hp.2⟩
      obtain ⟨hp1, _⟩ := hp
      simp only [oneFit, hT] at hp1
      cases gs with
      | nil => simp [eqF] at h
      | cons g gs =>
        cases g with
        | c y => simp [eqF] at h
        | ws k' n' ys =>
          cases gs with
          | cons _ _ => simp [eqF] at h
          | nil =>
            simp only [eqF] at h
            split at h
            · rename_i hk
              obtain ⟨rfl, rfl⟩ := hk
              simp only [Option.some.injEq, Prod.mk.injEq, Bool.and_true] at h
              obtain ⟨_, rfl⟩ := h
              obtain ⟨u1, u2, e1, ⟨h1, h2, rfl⟩, rfl⟩ := hu
              obtain ⟨v1, v2, e2, ⟨g1, g2, rfl⟩, rfl⟩ := hv
              rw [List.append_nil] at e1 e2
              split at hp1
              · rename_i k'' he
                simp only [Bool.and_eq_true, beq_iff_eq] at hp1
                obtain ⟨⟨rfl, hs⟩, hc⟩ := hp1
                have := run_equalIn_array (k := k) hT he hs 9998 xs ys h1 g1 w
                rw [← e1, ← e2] at this
                exact this
              · cases hp1
            · cases h
    · cases hp
  · rename_i fields hT
    simp only [Bool.and_eq_true, Bool.not_eq_true'] at hp
    refine ⟨?_, hp.2⟩
    have hT' : P.underlying T = some (.struct (P.fieldsOf T)) := by simp [Program.fieldsOf, hT]
    rw [run_equalIn_struct w 9999 T us vs hT' hp.1.2]
    have := fits_eq (d := 9997) (pre := []) (pre' := []) hp.1.1 h hu hv rfl w
    simpa [Program.fieldsOf, hT] using this
  · cases hp

theorem run_equalIn_ptr_nil {T e : TypeId} (hT : P.underlying T = some (.pointer e)) (d : Nat) (a : Option Addr) (w : World) : (Op.equalIn (d + 1) T (.pointer a) (.pointer none)).run P w = .ok a.isNone w := by
  cases a <;> simp [Op.equalIn, run_underlying hT]
theorem run_eql_ptr_nil {T e : TypeId} (hT : P.underlying T = some (.pointer e)) (a : Option Addr) (w : World) : (binOp .eql T (.pointer a) (.pointer none)).run P w = .ok (.bool a.isNone) w := by
  have h := run_equalIn_ptr_nil hT 9999 a w
  show ((Op.equalIn 10000 T (.pointer a) (.pointer none)) >>= fun b => Pure.pure (Value.bool b)).run P w = _
  rw [Sem.run_bind, h]; rfl
theorem run_neq_ptr_nil {T e : TypeId} (hT : P.underlying T = some (.pointer e)) (a : Option Addr) (w : World) : (binOp .neq T (.pointer a) (.pointer none)).run P w = .ok (.bool (!a.isNone)) w := by
  have h := run_equalIn_ptr_nil hT 9999 a w
  show ((Op.equalIn 10000 T (.pointer a) (.pointer none)) >>= fun b => Pure.pure (Value.bool (!b))).run P w = _
  rw [Sem.run_bind, h]; rfl

theorem binT_sound (hE : RepH G E) {op : BinOp} {T : TypeId} {a b : SV} {x y : Value} {r : Res} (ha : RelS E a x) (hb : RelS E b y) (xo yo : Operand) (h : (binT P op T a b).val = some r) :
    SemOk P G E (do eqGuard op T xo yo x y; binOp op T x y) r := by
  unfold binT at h
  split at h
  · obtain ⟨rfl, hx⟩ := ha
    obtain ⟨rfl, hy⟩ := hb
    split at h
    · obtain ⟨h1, h2⟩ := val_chkl h
      obtain ⟨v, h3, h4⟩ := val_opt h2
      obtain rfl := val_ret h4
      have h1 := Int.not_lt.2 (of_decide_eq_true h1)
      refine SemOk.pure hE (u := .int _ _) ?_ ⟨rfl, shI_inK h3 hx⟩
      simp only [Sem.run_bind, run_eqGuard_int, Result.andThen_ok]
      simp only [shI, Option.some.injEq] at h3
      subst h3
      simp [binOp, Op.shift, h1]
    · obtain ⟨h1, h2⟩ := val_chkl h
      obtain ⟨v, h3, h4⟩ := val_opt h2
      obtain rfl := val_ret h4
      have h1 := Int.not_lt.2 (of_decide_eq_true h1)
      refine SemOk.pure hE (u := .int _ _) ?_ ⟨rfl, shI_inK h3 hx⟩
      simp only [Sem.run_bind, run_eqGuard_int, Result.andThen_ok]
      simp only [shI, Option.some.injEq] at h3
      subst h3
      simp [binOp, Op.shift, h1]
    · split at h
      · rename_i hk
        subst hk
        obtain ⟨h1, h2⟩ := val_chkl h
        obtain ⟨v, h3, h4⟩ := val_opt h2
        obtain rfl := val_ret h4
        refine SemOk.pure hE (u := .int _ _) ?_ ⟨rfl, divI_inK h3 hx⟩
        have h1 := of_decide_eq_true h1
        simp only [Sem.run_bind, run_eqGuard_int, Result.andThen_ok]
        simp only [divI, Option.some.injEq] at h3
        subst h3
        simp [binOp, Op.intDiv, h1]
      · cases h
    · split at h
      · rename_i hk
        subst hk
        obtain ⟨h1, h2⟩ := val_chkl h
        obtain ⟨v, h3, h4⟩ := val_opt h2
        obtain rfl := val_ret h4
        refine SemOk.pure hE (u := .int _ _) ?_ ⟨rfl, divI_inK h3 hx⟩
        have h1 := of_decide_eq_true h1
        simp only [Sem.run_bind, run_eqGuard_int, Result.andThen_ok]
        simp only [divI, Option.some.injEq] at h3
        subst h3
        simp [binOp, Op.intDiv, h1]
      · cases h
    · split at h
      · rename_i hk
        subst hk
        obtain ⟨nr, h3, h4⟩ := val_opt h
        have h5 := binI_run (P := P) (T := T) h3 E.w
        cases nr with
        | n v =>
          obtain rfl := val_ret h4
          exact SemOk.pure hE (u := .int _ _) (by simp only [Sem.run_bind, run_eqGuard_int, Result.andThen_ok]; exact h5) ⟨rfl, binI_inK h3⟩
        | b v =>
          obtain rfl := val_ret h4
          exact SemOk.pure hE (u := .bool _) (by simp only [Sem.run_bind, run_eqGuard_int, Result.andThen_ok]; exact h5) rfl
      · cases h
  · obtain rfl : x = .bool _ := ha
    obtain rfl : y = .bool _ := hb
    split at h
    · rename_i hT
      obtain rfl := val_ret h
      exact SemOk.pure hE (u := .bool _) (by simp [run_eqGuard_bool, binOp, Op.equal, Op.maxDepth, run_equalIn_bool' _ _ _ _ _ hT]) rfl
    · rename_i hT
      obtain rfl := val_ret h
      exact SemOk.pure hE (u := .bool _) (by simp [run_eqGuard_bool, binOp, Op.equal, Op.maxDepth, run_equalIn_bool' _ _ _ _ _ hT]) rfl
    · cases h
  · obtain rfl : x = .string _ := ha
    obtain rfl : y = .string _ := hb
    split at h
    · obtain ⟨h1, h2⟩ := val_chk h
      obtain rfl := val_ret h2
      have h1 := Int.not_lt.2 (of_decide_eq_true h1)
      exact SemOk.pure hE (u := .string _) (by simp [run_eqGuard_str, binOp, Op.stringOp]; simp [IntKind.max, IntKind.signed, IntKind.bits] at h1 ⊢; omega) rfl
    · obtain rfl := val_ret h
      exact SemOk.pure hE (u := .bool _) (by simp [run_eqGuard_str, binOp, Op.stringOp]) rfl
    · obtain rfl := val_ret h
      exact SemOk.pure hE (u := .bool _) (by simp [run_eqGuard_str, binOp, Op.stringOp]) rfl
    · cases h
  · obtain ⟨us, rfl, hu⟩ := ha
    obtain ⟨vs, rfl, hv⟩ := hb
    split at h
    · rename_i hp
      split at h
      · rename_i l b hq
        obtain rfl := val_ret h
        obtain ⟨q1, q2⟩ := run_eq_agg hp hq hu hv E.w
        exact SemOk.pure hE (u := .bool _) (by simp only [Sem.run_bind, run_eqGuard_agg _ _ _ _ _ _ _ q2, Result.andThen_ok, run_eql_struct, q1]) rfl
      · rename_i l b hq
        obtain rfl := val_ret h
        obtain ⟨q1, q2⟩ := run_eq_agg hp hq hu hv E.w
        exact SemOk.pure hE (u := .bool _) (by simp only [Sem.run_bind, run_eqGuard_agg _ _ _ _ _ _ _ q2, Result.andThen_ok, run_neq_struct, q1]) rfl
      · cases h
    · cases h
  · rename_i b i es o k n
    obtain ⟨q, rfl⟩ : ∃ q, x = .pointer (some q) := by
      obtain ⟨_, h2⟩ := ha
      unfold RelPtr at h2
      split at h2
      · obtain ⟨⟨kb, _, e⟩, _⟩ := h2; exact ⟨_, e⟩
      · exact h2.1
      · exact h2.1
      · exact h2
      · exact h2.elim
    obtain rfl : y = .pointer none := hb
    split at h
    · rename_i hT
      obtain rfl := val_ret h
      exact SemOk.pure hE (u := .bool _) (by rw [Sem.run_bind, run_eqGuard_ptr, Result.andThen_ok, run_eql_ptr_nil hT]; rfl) rfl
    · rename_i hT
      obtain rfl := val_ret h
      exact SemOk.pure hE (u := .bool _) (by rw [Sem.run_bind, run_eqGuard_ptr, Result.andThen_ok, run_neq_ptr_nil hT]; rfl) rfl
    · cases h
  · obtain rfl : x = .pointer none := ha
    obtain rfl : y = .pointer none := hb
    split at h
    · rename_i hT
      obtain rfl := val_ret h
      exact SemOk.pure hE (u := .bool _) (by rw [Sem.run_bind, run_eqGuard_ptr, Result.andThen_ok, run_eql_ptr_nil hT]; rfl) rfl
    · rename_i hT
      obtain rfl := val_ret h
      exact SemOk.pure hE (u := .bool _) (by rw [Sem.run_bind, run_eqGuard_ptr, Result.andThen_ok, run_neq_ptr_nil hT]; rfl) rfl
    · cases h
  · cases h
end Go.SX
