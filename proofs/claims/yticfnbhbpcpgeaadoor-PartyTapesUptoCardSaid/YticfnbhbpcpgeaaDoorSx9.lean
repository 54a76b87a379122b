/-
  SX, part 9: indices, slice expressions, lengths.
-/
import Derived.Test.YticfnbhbpcpgeaaDoorSx8
namespace Go.SX
open Go
variable {G : GlobT} {E : Env} {P : Program}

theorem run_asIntOf (k : IntKind) (n : Int) (w : World) : (asIntOf (.int k n)).run P w = .ok (k, n) w := rfl

theorem val_idx {l : Bool} {i : Int} {n : Nat} {t : Tree Res} {r : Res} (h : (idx l i n t).val = some r) : (0 ≤ i ∧ i < (n : Int)) ∧ t.val = some r := by
  obtain ⟨h1, h2⟩ := val_chkl h
  exact ⟨of_decide_eq_true h1, h2⟩
theorem val_idxd {i : Int} {n : Nat} {t : Tree Res} {r : Res} (h : (idxd i n t).val = some r) : (0 ≤ i ∧ i < (n : Int)) ∧ t.val = some r := by
  obtain ⟨h1, h2⟩ := val_chk h
  exact ⟨of_decide_eq_true h1, h2⟩

theorem run_indexAt_array {T e : TypeId} {n : Nat} (hT : P.underlying T = some (.array n e)) {d : TypeDesc} (he : P.underlying e = some d) (kb o : Nat) {k : IntKind} {i : Int} (hi : 0 ≤ i ∧ i < (n : Int)) (w : World) :
    (Instr.indexAt T (.pointer (some ⟨kb, o, none⟩)) (.int k i)).run P w = .ok (.pointer (some ⟨kb, o + i.toNat * P.cellsOf e, none⟩)) w := by
  simp [Instr.indexAt, run_asIntOf, run_underlying hT, run_sureAddr, hi, run_sizeOf he, add_addr]

theorem run_indexAt_slice {T e : TypeId} (hT : P.underlying T = some (.slice e)) {d : TypeDesc} (he : P.underlying e = some d) (kb o len cap : Nat) {k : IntKind} {i : Int} (hi : 0 ≤ i ∧ i < (len : Int)) (w : World) :
    (Instr.indexAt T (.slice (some ⟨kb, o, none⟩) len cap) (.int k i)).run P w = .ok (.pointer (some ⟨kb, o + i.toNat * P.cellsOf e, none⟩)) w := by
  simp [Instr.indexAt, run_asIntOf, run_underlying hT, hi, run_sizeOf he, add_addr]

theorem run_sizeOf_pos {t : TypeId} (h : 0 < P.cellsOf t) (w : World) : (sizeOf t).run P w = .ok (P.cellsOf t) w := run_sizeOf' (by omega) w

theorem run_indexAt_array' {T e : TypeId} {n : Nat} (hT : P.underlying T = some (.array n e)) (he : 0 < P.cellsOf e) (kb o : Nat) {k : IntKind} {i : Int} (hi : 0 ≤ i ∧ i < (n : Int)) (w : World) :
    (Instr.indexAt T (.pointer (some ⟨kb, o, none⟩)) (.int k i)).run P w = .ok (.pointer (some ⟨kb, o + i.toNat * P.cellsOf e, none⟩)) w := by
  simp [Instr.indexAt, run_asIntOf, run_underlying hT, run_sureAddr, hi, run_sizeOf_pos he, add_addr]

theorem run_indexAt_slice' {T e : TypeId} (hT : P.underlying T = some (.slice e)) (he : 0 < P.cellsOf e) (kb o len cap : Nat) {k : IntKind} {i : Int} (hi : 0 ≤ i ∧ i < (len : Int)) (w : World) :
    (Instr.indexAt T (.slice (some ⟨kb, o, none⟩) len cap) (.int k i)).run P w = .ok (.pointer (some ⟨kb, o + i.toNat * P.cellsOf e, none⟩)) w := by
  simp [Instr.indexAt, run_asIntOf, run_underlying hT, hi, run_sizeOf_pos he, add_addr]

theorem run_indexAt_addr {T e : TypeId} {n : Nat} (hT : P.underlying T = some (.array n e)) (he : 0 < P.cellsOf e) (a : Addr) {k : IntKind} {i : Int} (hi : 0 ≤ i ∧ i < (n : Int)) (w : World) :
    (Instr.indexAt T (.pointer (some a)) (.int k i)).run P w = .ok (.pointer (some (a.add (i.toNat * P.cellsOf e)))) w := by
  simp [Instr.indexAt, run_asIntOf, run_underlying hT, run_sureAddr, hi, run_sizeOf_pos he]

/-- a slice of its own: its address, where it has elements -/
theorem sl_known {b off len : Nat} {u : Value} (h : RelC E (.sl b off len) u) : ∃ a cap, u = .slice a len cap ∧ len ≤ cap ∧ cap < 9223372036854775808 ∧ (cap = 0 ∨ ∃ q, a = some q) := by
  obtain ⟨_, h3⟩ := h
  unfold RelSl at h3
  split at h3
  · exact SlAt.gone h3
  · exact SlAt.gone h3
  · exact h3
  · exact h3.elim

theorem SlAt.elem {b sz off len n : Nat} {q : Addr} {cap : Nat} (h : SlAt E b sz off len n (.slice (some q) len cap)) (hc : cap ≠ 0) {i : Nat} (hi : i < len) :
    PtrAt E b (off + i) sz 0 0 0 (.pointer (some (q.add (i * sz)))) ∧ off + i < n := by
  obtain ⟨a, cap', h1, h2, h3, h4, h5⟩ := h
  simp only [Value.slice.injEq] at h1
  obtain ⟨rfl, _, rfl⟩ := h1
  rcases h5 with h5 | ⟨k, c, e, fz, g1, g2, g3, g4⟩
  · exact (hc h5.2).elim
  · have g2 := g2.resolve_left hc
    simp only [Option.some.injEq] at g2
    subst g2
    exact ⟨⟨⟨k, g1, by rw [add_addr]; simp [Nat.add_mul]⟩, .inl ⟨rfl, rfl⟩⟩, by omega⟩

theorem sl_elem {b off len es i : Nat} {q : Addr} {cap : Nat} (h : RelC E (.sl b off len) (.slice (some q) len cap)) (hc : cap ≠ 0) (hi : i < len) : RelC E (.ptr b (off + i) es 0 0 0) (.pointer (some (q.add (i * es)))) := by
  obtain ⟨_, h3⟩ := h
  refine ⟨trivial, ?_⟩
  unfold RelSl at h3
  unfold RelPtr
  cases hb : getB E.H b <;> rw [hb] at h3
  · exact h3.elim
  · obtain ⟨g1, g2⟩ := h3.elem hc hi
    exact ⟨⟨_, rfl⟩, fun e => by rw [e]; exact g1, g2⟩
  · obtain ⟨g1, g2⟩ := h3.elem hc hi
    exact ⟨⟨_, rfl⟩, fun e => by rw [e]; exact g1, g2⟩
  · exact ⟨_, rfl⟩
  · exact h3.elim

theorem run_indexAt_sl {T e : TypeId} (hT : P.underlying T = some (.slice e)) (he : 0 < P.cellsOf e) (q : Addr) (len cap : Nat) {k : IntKind} {i : Int} (hi : 0 ≤ i ∧ i < (len : Int)) (w : World) :
    (Instr.indexAt T (.slice (some q) len cap) (.int k i)).run P w = .ok (.pointer (some (q.add (i.toNat * P.cellsOf e)))) w := by
  simp [Instr.indexAt, run_asIntOf, run_underlying hT, hi, run_sizeOf_pos he]

theorem RoT.rowOf' {t : DTy} {k off : Nat} {c : Array Value} {e : TypeId} {fz : Nat × Nat} {xs : List t.den} {i : Nat} (hR : E.R k) (hc : E.w.heap[k]? = some (.cells c e fz)) (hr : Rows t.size (RoT E t) xs off c) (hi : i < xs.length) :
    RelRp E t (xs.getD i t.dflt) 0 0 (.pointer (some ((⟨k, off, none⟩ : Addr).add (i * t.size)))) := by
  obtain ⟨us, h1, h2, h3⟩ := hr i hi
  exact ⟨k, off + i * t.size, c, e, fz, us, by rw [add_addr]; simp, hR, hc, by rw [getD_eq hi]; exact h1, h2, fun j hj => by rw [Nat.add_assoc]; exact h3 j hj⟩

theorem indexAddrT_sound (hE : RepH G E) {T : TypeId} {x ix : SV} {u v : Value} {r : Res} (hx : RelS E x u) (hi : RelS E ix v) (h : (indexAddrT P T x ix).val = some r) : SemOk P G E (Instr.indexAt T u v) r := by
  unfold indexAddrT at h
  split at h
  · obtain ⟨rfl, hik⟩ := hi
    split at h
    · rename_i l kk i _ _ n e b i0 es o hT
      obtain ⟨a, rfl⟩ := ptr_known hx
      split at h
      · rename_i k' he
        split at h
        · rename_i hs
          obtain ⟨h1, h2⟩ := val_idx h
          obtain rfl := val_ret h2
          exact SemOk.pure hE (run_indexAt_addr hT (by omega) a h1 _) (ptr_shift hx _ (by rw [hs, Nat.mul_one]) (.inr (by omega)))
        · cases h
      · split at h
        · split at h
          · rename_i hs
            obtain ⟨h1, h2⟩ := val_idx h
            obtain rfl := val_ret h2
            exact SemOk.pure hE (run_indexAt_addr hT hs a h1 _) (ptr_shift hx _ (by simp) (.inl ⟨rfl, rfl⟩))
          · cases h
        · cases h
    · rename_i l kk i _ _ n e t d o hT
      obtain ⟨kb, a, c, e', fz, us, rfl, h2, h3, h4, h5, h6⟩ := hx
      split at h
      · rename_i k' he
        split at h
        · rename_i kd m xs hw
          split at h
          · rename_i hs
            obtain ⟨hs1, rfl⟩ := hs
            obtain ⟨h7, h8⟩ := val_idx h
            obtain rfl := val_ret h8
            obtain ⟨g1, g2, g3, g4⟩ := wsAt_rel hw (toF_rel t d us h4)
            have hlt : i.toNat < xs.length := by omega
            refine SemOk.pure hE (run_indexAt_addr hT (by omega) _ h7 _) ?_
            refine ⟨kb, a + (o + i.toNat), c, e', fz, [.int kd (xs.getD i.toNat 0)], by rw [add_addr, hs1]; simp; omega, h2, h3, ⟨rfl, ?_⟩, rfl, fun j hj => ?_⟩
            · rw [getD_eq hlt]; exact g2 _ (List.getElem_mem hlt)
            · have hj : j = 0 := by have : j < 1 := hj; omega
              subst hj
              have h9 := h6 (o + i.toNat) (by rw [← h5]; omega)
              rw [Nat.add_zero, h9, getD_eq hlt]
              have h10 : ((us.drop o).take m)[i.toNat]? = some (Value.int kd xs[i.toNat]) := by rw [g3, List.getElem?_map, List.getElem?_eq_getElem hlt]; rfl
              rw [List.getElem?_take, if_pos (by omega), List.getElem?_drop] at h10
              exact h10
          · cases h
        · cases h
      · split at h
        · split at h
          · rename_i hs
            obtain ⟨h7, h8⟩ := val_idx h
            obtain rfl := val_ret h8
            exact SemOk.pure hE (run_indexAt_addr hT hs _ h7 _) ⟨kb, a, c, e', fz, us, by rw [add_addr]; simp; omega, h2, h3, h4, h5, h6⟩
          · cases h
        · cases h
    · rename_i l kk i _ _ e b off len hT
      split at h
      · rename_i hs
        obtain ⟨h1, h2⟩ := val_idxd h
        obtain rfl := val_ret h2
        obtain ⟨a, cap, rfl, h4, h5, h6⟩ := sl_known hx
        have hc : cap ≠ 0 := by omega
        obtain ⟨q, rfl⟩ := h6.resolve_left hc
        exact SemOk.pure hE (run_indexAt_sl hT hs _ _ _ h1 _) (sl_elem hx hc (by omega))
      · cases h
    · rename_i l kk i _ _ e t xs len hT
      split at h
      · rename_i hs
        obtain ⟨h1, h2⟩ := val_idxd h
        obtain rfl := val_ret h2
        obtain ⟨a, cap, rfl, h3, h4, h5, h6, h7⟩ := hx
        have hne : xs ≠ [] := fun e => by rw [e] at h3; simp at h3; omega
        obtain ⟨k, off, c, e', fz, rfl, g2, g3, g4⟩ := h7 hne
        refine SemOk.pure hE (run_indexAt_sl hT (by omega) _ _ _ h1 _) ?_
        rw [← hs.1]
        exact RoT.rowOf' g2 g3 g4 (by omega)
      · cases h
    · rename_i l kk i _ _ e b o n off len hT
      split at h
      · rename_i hs
        split at h
        · obtain ⟨h1, h2⟩ := val_idxd h
          obtain rfl := val_ret h2
          obtain ⟨_, h3⟩ := hx
          unfold RelSla at h3
          cases hb : getB E.H b with
          | vals fs =>
            rw [hb] at h3
            obtain ⟨a, cap, rfl, h4, h5, h6, h7⟩ := h3
            rcases h7 with h7 | ⟨k, h7, rfl⟩
            · omega
            · refine SemOk.pure hE (run_indexAt_sl hT (by omega) _ _ _ h1 _) ⟨trivial, ?_⟩
              unfold RelPtr
              rw [hb]
              exact ⟨⟨k, h7, by rw [add_addr, hs]; simp; omega⟩, .inr (by omega)⟩
          | arr t xs lo par => rw [hb] at h3; exact h3.elim
          | frz t xs => rw [hb] at h3; exact h3.elim
          | dead => rw [hb] at h3; exact h3.elim
          | gone =>
            rw [hb] at h3
            obtain ⟨a, cap, rfl, h4, h5, h6, h7⟩ := h3
            rcases h7 with h7 | ⟨q, rfl⟩
            · omega
            · refine SemOk.pure hE (run_indexAt_sl hT (by omega) _ _ _ h1 _) ⟨trivial, ?_⟩
              unfold RelPtr
              rw [hb]
              exact ⟨_, rfl⟩
        · obtain ⟨h1, h2⟩ := val_idxd h
          obtain rfl := val_ret h2
          obtain ⟨_, h3⟩ := hx
          unfold RelSla at h3
          cases hb : getB E.H b with
          | vals fs =>
            rw [hb] at h3
            obtain ⟨a, cap, rfl, h4, h5, h6, h7⟩ := h3
            rcases h7 with h7 | ⟨k, h7, rfl⟩
            · omega
            · refine SemOk.pure hE (run_indexAt_sl hT (by omega) _ _ _ h1 _) ⟨trivial, ?_⟩
              unfold RelPtr
              rw [hb]
              exact ⟨⟨k, h7, by rw [add_addr, hs]; simp; omega⟩, .inl ⟨rfl, rfl⟩⟩
          | arr t xs lo par => rw [hb] at h3; exact h3.elim
          | frz t xs => rw [hb] at h3; exact h3.elim
          | dead => rw [hb] at h3; exact h3.elim
          | gone =>
            rw [hb] at h3
            obtain ⟨a, cap, rfl, h4, h5, h6, h7⟩ := h3
            rcases h7 with h7 | ⟨q, rfl⟩
            · omega
            · refine SemOk.pure hE (run_indexAt_sl hT (by omega) _ _ _ h1 _) ⟨trivial, ?_⟩
              unfold RelPtr
              rw [hb]
              exact ⟨_, rfl⟩
      · cases h
    · cases h
  · cases h

theorem indexT_sound (hE : RepH G E) {T : TypeId} {x ix : SV} {u v : Value} {r : Res} (hx : RelS E x u) (hi : RelS E ix v) (h : (indexT P T x ix).val = some r) : SemOk P G E (Instr.index T u v) r := by
  unfold indexT at h
  split at h
  · obtain ⟨rfl, hik⟩ := hi
    split at h
    · rename_i l kk i _ _ n e fs hT
      split at h
      · rename_i kd m xs
        split at h
        · rename_i hs
          obtain ⟨rfl, hs1, hs2⟩ := hs
          obtain ⟨h1, h2⟩ := val_idx h
          obtain rfl := val_ret h2
          obtain ⟨cs, rfl, hr⟩ := hx
          obtain ⟨us, hcs, h3, h4, h5⟩ := relFs_cons_ws hr
          have h5 : us = [] := h5
          subst h5
          have hlt : i.toNat < xs.length := by omega
          have hg : cs[i.toNat]? = some (.int kd xs[i.toNat]) := by
            rw [← Array.getElem?_toList, hcs, List.append_nil, List.getElem?_map, List.getElem?_eq_getElem hlt]; rfl
          refine SemOk.pure hE (u := .int kd xs[i.toNat]) ?_ ⟨by rw [getD_eq hlt], by rw [getD_eq hlt]; exact h4 _ (List.getElem_mem hlt)⟩
          simp only [Instr.index, Sem.run_bind, run_asIntOf, Result.andThen_ok, run_underlying hT, h1, and_self, if_true, run_sizeOf_pos (show 0 < P.cellsOf e by omega), part, run_isAgg hs2, Bool.false_eq_true, if_false, hs1, Nat.mul_one, hg, Sem.run_pure]
        · cases h
      · cases h
    · rename_i l kk i _ _ s hT
      obtain ⟨h1, h2⟩ := val_idxd h
      obtain rfl := val_ret h2
      obtain rfl : u = .string s := hx
      have hlt : i.toNat < s.data.size := by show i.toNat < s.size; omega
      have hg : s[i.toNat]? = some (s.data[i.toNat]) := by
        rw [getElem?_pos s i.toNat hlt]; rfl
      have hgd : s.data.getD i.toNat 0 = s.data[i.toNat] := by unfold Array.getD; rw [dif_pos hlt]; rfl
      have hin : InK .u8 (s.data[i.toNat].toNat : Int) := by
        have := s.data[i.toNat].toNat_lt
        unfold InK
        simp only [IntKind.min, IntKind.max, IntKind.signed, IntKind.bits]
        exact ⟨by simp, by simp; omega⟩
      refine SemOk.pure hE (u := .int .u8 (s.data[i.toNat]).toNat) ?_ ⟨by rw [hgd], by rw [hgd]; exact hin⟩
      · simp [Instr.index, run_asIntOf, run_underlying hT, h1.1, hg]
    · cases h
  · cases h
end Go.SX
