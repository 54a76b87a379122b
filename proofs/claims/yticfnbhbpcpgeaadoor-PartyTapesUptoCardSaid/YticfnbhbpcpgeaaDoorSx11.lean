/-
  SX, part 11: lengths, addresses of arrays, new variables, literals.
-/
import Derived.Test.YticfnbhbpcpgeaaDoorSx10
namespace Go.SX
open Go
variable {G : GlobT} {E : Env} {P : Program}

theorem inK_nat {n : Nat} (h : n < 9223372036854775808) : InK .i64 (n : Int) := by
  simp [InK, IntKind.min, IntKind.max, IntKind.signed, IntKind.bits]; omega

theorem relTs_one {x : SV} {us : List Value} (h : RelTs E [x] us) : ∃ u, us = [u] ∧ RelS E x u := by
  obtain ⟨u, us', rfl, h1, h2⟩ := h
  have h2 : us' = [] := h2
  subst h2
  exact ⟨u, rfl, h1⟩

theorem relTs_two {x y : SV} {us : List Value} (h : RelTs E [x, y] us) : ∃ u v, us = [u, v] ∧ RelS E x u ∧ RelS E y v := by
  obtain ⟨u, us', rfl, h1, h2⟩ := h
  obtain ⟨v, rfl, h3⟩ := relTs_one h2
  exact ⟨u, v, rfl, h1, h3⟩

theorem lenT_sound (hE : RepH G E) {args : List SV} {types : Array TypeId} {vs : Array Value} {ty : TypeId} {r : Res} (ha : RelTs E args vs.toList) (h : (lenT P args types.toList).val = some r) :
    SemOk P G E (Builtin.len_ types ty vs) r := by
  unfold lenT at h
  split at h
  · rename_i x T rest heq
    obtain ⟨u, hu, hx⟩ := relTs_one ha
    have hT : types[0]? = some T := by rw [← Array.getElem?_toList, heq]; rfl
    have hv : vs[0]? = some u := by rw [← Array.getElem?_toList, hu]; rfl
    split at h
    · rename_i s hU
      obtain ⟨h1, h2⟩ := val_chk h
      obtain rfl := val_ret h2
      obtain rfl : u = .string s := hx
      exact SemOk.pure hE (u := .int .i64 s.size) (by simp [Builtin.len_, hT, hv, run_underlying hU, goInt]) ⟨rfl, inK_nat (of_decide_eq_true h1)⟩
    · rename_i e hU
      obtain rfl := val_ret h
      obtain rfl : u = .slice none 0 0 := hx
      exact SemOk.pure hE (u := .int .i64 0) (by simp [Builtin.len_, hT, hv, run_underlying hU, goInt]) ⟨rfl, inK_nat (n := 0) (by omega)⟩
    · rename_i e b off len hU
      obtain rfl := val_ret h
      obtain ⟨a, cap, rfl, h1, h2, _⟩ := sl_known hx
      exact SemOk.pure hE (u := .int .i64 len) (by simp [Builtin.len_, hT, hv, run_underlying hU, goInt]) ⟨rfl, inK_nat (by omega)⟩
    · rename_i e b o n off len hU
      obtain rfl := val_ret h
      obtain ⟨_, hx⟩ := hx
      obtain ⟨a, cap, rfl, h1, h2⟩ : ∃ a cap, u = .slice a len cap ∧ len ≤ cap ∧ cap < 9223372036854775808 := by
        unfold RelSla at hx
        split at hx
        · obtain ⟨a, cap, h1, h2, h3, _⟩ := hx; exact ⟨a, cap, h1, h2, h3⟩
        · obtain ⟨a, cap, h1, h2, h3, _⟩ := hx; exact ⟨a, cap, h1, h2, h3⟩
        · exact hx.elim
      exact SemOk.pure hE (u := .int .i64 len) (by simp [Builtin.len_, hT, hv, run_underlying hU, goInt]) ⟨rfl, inK_nat (by omega)⟩
    · rename_i e t xs len hU
      obtain rfl := val_ret h
      obtain ⟨a, cap, rfl, h1, h2, h3, _⟩ := hx
      exact SemOk.pure hE (u := .int .i64 len) (by simp [Builtin.len_, hT, hv, run_underlying hU, goInt]) ⟨rfl, inK_nat (by omega)⟩
    · rename_i n e y hU
      split at h
      · obtain rfl := val_ret h
        exact SemOk.pure hE (u := .int .i64 n) (by simp [Builtin.len_, hT, hv, run_underlying hU, goInt]) ⟨rfl, inK_nat (by omega)⟩
      · cases h
    · rename_i a hU
      split at h
      · rename_i n e hA
        split at h
        · obtain rfl := val_ret h
          exact SemOk.pure hE (u := .int .i64 n) (by simp [Builtin.len_, hT, hv, run_underlying hU, run_underlying hA, goInt]) ⟨rfl, inK_nat (by omega)⟩
        · cases h
      · cases h
    · cases h
  · cases h

theorem ro_array {kd : IntKind} {xs : List Int} {n k off : Nat} {c : Array Value} {e : TypeId} {fz : Nat × Nat} (hR : E.R k) (hc : E.w.heap[k]? = some (.cells c e fz)) (hr : Rows 1 (fun d vs => vs = [Value.int kd d] ∧ InK kd d) xs off c) (hn : n ≤ xs.length) :
    RelRp E (.ws kd n) (xs.take n) 0 0 (.pointer (some ⟨k, off, none⟩)) := by
  obtain ⟨hat, hin⟩ := ints_at hc hr
  have hlen : (xs.take n).length = n := by rw [List.length_take]; omega
  refine ⟨k, off, c, e, fz, (xs.take n).map (Value.int kd), rfl, hR, hc, ⟨hlen, fun y hy => hin y (List.mem_of_mem_take hy), rfl⟩, by rw [List.length_map]; exact hlen, fun j hj => ?_⟩
  have hj : j < n := hj
  have hj' : j < xs.length := by omega
  have := hat j (.int kd xs[j]) (by rw [List.getElem?_map, List.getElem?_eq_getElem hj']; rfl)
  rw [cell_of hc] at this
  rw [this, List.getElem?_map, List.getElem?_take, if_pos hj, List.getElem?_eq_getElem hj']; rfl

theorem arrayAtT_sound (hE : RepH G E) {look : Look} (hk : LookOk E look) {T : TypeId} {x : SV} {u : Value} {r : Res} (hx : RelS E x u) (h : (arrayAtT P look T x).val = some r) : SemOk P G E (Instr.arrayAt T u) r := by
  unfold arrayAtT at h
  split at h
  · rename_i n e hT
    split at h
    · rename_i kd he
      split at h
      · rename_i hs
        split at h
        · rename_i t xs len
          split at h
          · rename_i ys hc
            split at h
            · rename_i hn
              obtain ⟨h1, h2⟩ := val_chk h
              obtain rfl := val_ret h2
              have h1 := of_decide_eq_true h1
              obtain ⟨e', he'⟩ := castL_eq hc
              subst e'
              simp only at he'
              subst he'
              obtain ⟨a, cap, rfl, h3, h4, h5, h6, h7⟩ := hx
              have hrun : (Instr.arrayAt T (.slice a len cap)).run P E.w = .ok (.pointer a) E.w := by
                simp [Instr.arrayAt, run_underlying hT, Nat.not_lt.2 h1]
              have hne : xs ≠ [] := fun e => by rw [e] at h3; simp at h3; omega
              obtain ⟨k, off, c, e', fz, rfl, g2, g3, g4⟩ := h7 hne
              exact SemOk.pure hE hrun (ro_array (xs := xs) g2 g3 g4 (Nat.le_trans h1 h3))
            · cases h
          · cases h
        · rename_i b off len
          obtain ⟨h1, h2⟩ := val_chk h
          obtain rfl := val_ret h2
          have h1 := of_decide_eq_true h1
          obtain ⟨a, cap, rfl, h3, h4, h5⟩ := sl_known hx
          have hc : cap ≠ 0 := by omega
          obtain ⟨q, rfl⟩ := h5.resolve_left hc
          have hrun : (Instr.arrayAt T (.slice (some q) len cap)).run P E.w = .ok (.pointer (some q)) E.w := by
            simp [Instr.arrayAt, run_underlying hT, Nat.not_lt.2 h1.1]
          have := sl_elem (es := 1) hx hc (show 0 < len by omega)
          simp only [Nat.zero_mul, Nat.add_zero] at this
          exact SemOk.pure hE hrun this
        · rename_i b o m len
          split at h
          · rename_i hn
            obtain ⟨h1, h2⟩ := val_chk h
            obtain rfl := val_ret h2
            have h1 := of_decide_eq_true h1
            obtain ⟨_, hx⟩ := hx
            unfold RelSla at hx
            cases hb : getB E.H b with
            | vals fs =>
              rw [hb] at hx
              obtain ⟨a, cap, rfl, q1, q2, q3, q4⟩ := hx
              rcases q4 with q4 | ⟨k, q4, rfl⟩
              · omega
              · refine SemOk.pure hE (u := .pointer (some ⟨k, o + 0, none⟩)) (by simp [Instr.arrayAt, run_underlying hT, Nat.not_lt.2 h1]) ⟨trivial, ?_⟩
                unfold RelPtr
                rw [hb]
                exact ⟨⟨k, q4, by simp⟩, .inl ⟨rfl, rfl⟩⟩
            | gone =>
              rw [hb] at hx
              obtain ⟨a, cap, rfl, q1, q2, q3, q4⟩ := hx
              rcases q4 with q4 | ⟨q, rfl⟩
              · omega
              · refine SemOk.pure hE (u := .pointer (some q)) (by simp [Instr.arrayAt, run_underlying hT, Nat.not_lt.2 h1]) ⟨trivial, ?_⟩
                unfold RelPtr
                rw [hb]
                exact ⟨_, rfl⟩
            | arr t xs lo par => rw [hb] at hx; exact hx.elim
            | frz t xs => rw [hb] at hx; exact hx.elim
            | dead => rw [hb] at hx; exact hx.elim
          · cases h
        · cases h
      · cases h
    · cases h
  · cases h

/-! ### New variables -/
theorem absC_rel {v : Value} (hs : single v) : RelC E (absC v) v := by
  cases v with
  | int k n =>
    simp only [absC]
    split
    · rename_i h; exact ⟨rfl, h⟩
    · exact hs
  | bool b => rfl
  | string s => rfl
  | pointer a => cases a <;> first | rfl | exact hs
  | slice a l c =>
    cases a with
    | some q => exact hs
    | none =>
      simp only [absC]
      split
      · rename_i h; obtain ⟨rfl, rfl⟩ := h; rfl
      · exact hs
  | nilIface => rfl
  | nilFunc => rfl
  | func f x y =>
    cases f with
    | func g =>
      simp only [absC]
      split
      · rename_i h
        obtain ⟨h1, h2⟩ := h
        obtain rfl := Array.eq_empty_of_size_eq_zero h1
        obtain rfl := Array.eq_empty_of_size_eq_zero h2
        exact ⟨rfl, rfl⟩
      · exact hs
    | _ => exact hs
  | agg cs => exact hs.elim
  | tuple vs => exact hs.elim
  | _ => exact hs

theorem absWs_rel {k : IntKind} : ∀ {vs : List Value} {xs : List Int}, absWs k vs = some xs → vs = xs.map (Value.int k) ∧ ∀ x ∈ xs, InK k x
  | [], xs, h => by obtain rfl := Option.some.inj h; exact ⟨rfl, fun _ h => by cases h⟩
  | v :: vs, xs, h => by
    simp only [absWs] at h
    split at h
    · split at h
      · rename_i hk
        obtain ⟨rfl, hk⟩ := hk
        split at h
        · rename_i r hr
          obtain rfl := Option.some.inj h
          obtain ⟨h1, h2⟩ := absWs_rel hr
          refine ⟨by rw [h1]; rfl, fun x hx => ?_⟩
          rcases List.mem_cons.1 hx with h | h
          · subst h; exact hk
          · exact h2 x h
        · cases h
      · cases h
    · cases h

theorem absF_rel : ∀ {ls : List LCell} {vs : List Value} {fs : List FCell}, absF ls vs = some fs → RelFs E fs vs
  | [], [], fs, h => by obtain rfl := Option.some.inj h; rfl
  | [], _ :: _, fs, h => by cases h
  | .one :: ls, [], fs, h => by cases h
  | .one :: ls, v :: vs, fs, h => by
    simp only [absF] at h
    split at h
    · rename_i r h1 h2
      obtain rfl := Option.some.inj h
      have hs : single v := by cases v <;> first | trivial | cases h1
      exact ⟨[v], vs, rfl, ⟨v, rfl, absC_rel hs⟩, absF_rel h2⟩
    · cases h
  | .ws k n :: ls, vs, fs, h => by
    simp only [absF] at h
    split at h
    · rename_i hle
      split at h
      · rename_i xs r h1 h2
        obtain rfl := Option.some.inj h
        obtain ⟨g1, g2⟩ := absWs_rel h1
        refine ⟨vs.take n, vs.drop n, (List.take_append_drop n vs).symm, ⟨?_, g2, g1⟩, absF_rel h2⟩
        have := congrArg List.length g1
        rw [List.length_take, List.length_map] at this
        omega
      · cases h
    · cases h

theorem zeroF_rel {T : TypeId} {fs : List FCell} (h : zeroF P T = some fs) : ∃ v, (∀ w, (zeroValue T).run P w = .ok v w) ∧ RelFs E fs v.cells.toList ∧ (∃ i, P.info? T = some i ∧ i.zero = some v) := by
  unfold zeroF at h
  split at h
  · cases h
  · split at h
    · cases h
    · rename_i i hi
      split at h
      · cases h
      · rename_i v hv
        exact ⟨v, fun w => by simp [zeroValue, run_typeInfo hi, hv], absF_rel h, _, hi, hv⟩

/-- a world in which a block was made -/
theorem same_alloc (w : World) (o : Obj) : Same w (w.alloc o) := ⟨rfl, rfl, rfl⟩

def fresh1 (E : Env) (nid : Nat) : Prop := nid < E.H.length ∧ getB E.H nid = .dead

theorem noFz0 (n : Nat) : NoFz (0, 0) n := fun i _ h => by omega

/-- a new variable -/
theorem newVar_sound (hE : RepH G E) {nid : Nat} (hn : fresh1 E nid) {T : TypeId} {v : Value} {fs : List FCell} (hr : RelFs E fs v.cells.toList) :
    SemOk P G E (do pure (.pointer (some (← newVar T v)))) (one (.ptr nid 0 0 0 0 0), [(nid, .vals fs)]) := by
  obtain ⟨h1, h2⟩ := env_alloc hE hn.1 hn.2 (w' := E.w.alloc (.cells v.cells T)) (c := v.cells) (e := T) (fz := (0, 0)) (same_alloc _ _) rfl (noFz0 _) (blk := .vals fs) hr
  refine ⟨.pointer (some ⟨E.w.heap.size, 0, none⟩), E.w.alloc (.cells v.cells T), rfl, _, _, h1, h2, trivial, ?_⟩
  unfold RelPtr
  rw [show getB (setBs E.H [(nid, Blk.vals fs)]) nid = .vals fs from getB_setB_same hn.1]
  exact (show PtrAt _ nid 0 0 0 0 0 _ from ⟨⟨E.w.heap.size, if_pos rfl, rfl⟩, .inl ⟨rfl, rfl⟩⟩)

theorem v1_cells {v : V1} {u : Value} (h : RelV E v u) : RelFs E v.fs u.cells.toList := by
  cases v with
  | c x =>
    have hs := single_of h
    have : u.cells = #[u] := by cases u <;> first | rfl | exact hs.elim
    rw [this]
    exact relFs_one h
  | g fs =>
    obtain ⟨cs, rfl, h⟩ := h
    exact h
end Go.SX
