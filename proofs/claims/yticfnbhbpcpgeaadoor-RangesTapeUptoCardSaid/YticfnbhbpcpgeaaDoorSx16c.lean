/-
  SX, part 16c: copies into arrays.
-/
import Derived.Test.YticfnbhbpcpgeaaDoorSx16b
namespace Go.SX
open Go
variable {P : Program} {G : GlobT} {E : Env}

theorem elems_ints {kd : IntKind} {xs : List Int} {news : List Value} (h : ElemRows E (.int kd) xs news) : news = xs.map (Value.int kd) ∧ ∀ x ∈ xs, InK kd x := by
  have hl : news.length = xs.length := by have := h.1; rw [show DTy.size (.int kd) = 1 from rfl, Nat.mul_one] at this; exact this
  have hq : ∀ i (hi : i < xs.length), news[i]? = some (.int kd xs[i]) ∧ InK kd xs[i] := fun i hi => by
    obtain ⟨us, ⟨q0, q1⟩, q2, q3⟩ := h.2 i hi
    have := q3 0 (by show 0 < 1; omega)
    rw [show DTy.size (.int kd) = 1 from rfl, Nat.mul_one, Nat.add_zero, q0] at this
    exact ⟨this, q1⟩
  refine ⟨?_, fun x hx => ?_⟩
  · apply List.ext_getElem?
    intro i
    by_cases hi : i < xs.length
    · rw [(hq i hi).1, List.getElem?_map, List.getElem?_eq_getElem hi]; rfl
    · rw [List.getElem?_eq_none (by omega), List.getElem?_eq_none (by simp; omega)]
  · obtain ⟨i, hi, rfl⟩ := List.getElem_of_mem hx
    exact (hq i hi).2

theorem splice_map {α β : Type} (f : α → β) (xs : List α) (off : Nat) (new : List α) : (splice xs off new).map f = splice (xs.map f) off (new.map f) := by
  unfold splice; simp
theorem splice_within {α : Type} {c : List α} {o off m : Nat} {new : List α} (hm : o + m ≤ c.length) (h : off + new.length ≤ m) :
    c.take (o + off) ++ new ++ c.drop (o + off + new.length) = c.take o ++ splice ((c.drop o).take m) off new ++ c.drop (o + m) := by
  unfold splice
  apply List.ext_getElem?
  intro i
  simp only [List.getElem?_append, List.length_append, List.length_take, List.length_drop, List.getElem?_take, List.getElem?_drop]
  rw [show min (o + off) c.length = o + off from by omega, show min o c.length = o from by omega, show min m (c.length - o) = m from by omega, show min off m = off from by omega]
  rcases Nat.lt_or_ge i o with h1 | h1
  · rw [if_pos (by omega), if_pos (by omega), if_pos (by omega), if_pos (by omega), if_pos (by omega)]
    rw [if_pos h1]
  · rcases Nat.lt_or_ge i (o + off) with h2 | h2
    · rw [if_pos (by omega), if_pos (by omega), if_pos (by omega), if_pos (by omega), if_neg (by omega), if_pos (by omega), if_pos (by omega), if_pos (by omega), if_pos (by omega)]
      congr 1; omega
    · rcases Nat.lt_or_ge i (o + off + new.length) with h3 | h3
      · rw [if_pos (by omega), if_neg (by omega), if_pos (by omega), if_neg (by omega), if_pos (by omega), if_neg (by omega)]
        congr 1; omega
      · rcases Nat.lt_or_ge i (o + m) with h4 | h4
        · rw [if_neg (by omega), if_pos (by omega), if_neg (by omega), if_neg (by omega), if_pos (by omega)]
          congr 1; omega
        · rw [if_neg (by omega), if_neg (by omega)]
          congr 1; omega

theorem copy_core (hE : RepH G E) {types : Array TypeId} {vs : Array Value} {ty T e : TypeId} {dv u : Value} (hT : P.underlying T = some (.slice e)) (hv0 : vs[0]? = some dv) (hv1 : vs[1]? = some u) (ht0 : types[0]? = some T) (hs1 : P.cellsOf e = 1)
    {b o off len m : Nat} {kd : IntKind} {fs r' : List FCell} {xs new' : List Int} {news : List Value} (hb : getB E.H b = .vals fs) (hw : wsAt fs o = some (kd, m, xs)) (hsrc : SrcOk P E (.int kd) u new' news) (hd : RelC E (.sla b o m off len) dv)
    (hr' : setWs fs o (splice xs off (new'.take (min new'.length len))) = some r') :
    SemOk P G E (Builtin.copy_ types ty vs) (one (.int false .i64 (min new'.length len : Nat)), [(b, .vals r')]) := by
  obtain ⟨_, hd⟩ := hd
  unfold RelSla at hd
  rw [hb] at hd
  obtain ⟨a, cap, rfl, h1, h2, h3, h4⟩ := hd
  obtain ⟨k, c, ee, fz, g1, g2, g3, g4⟩ := hE.vals hb
  obtain ⟨q1, q2, q3, q4⟩ := wsAt_rel hw g4
  rw [Array.length_toList] at q4
  obtain ⟨e1, e2⟩ := elems_ints hsrc.rows
  have hnl : news.length = new'.length := by rw [e1, List.length_map]
  -- what goes over
  have hfirst := hsrc.first E.w (min (new'.length) len) rfl (Nat.min_le_left _ _)
  rw [show DTy.size (.int kd) = 1 from rfl, Nat.mul_one] at hfirst
  obtain ⟨cs, hcs⟩ : ∃ cs, cs = news.take (min (new'.length) len) := ⟨_, rfl⟩
  have hcl : cs.length = min (new'.length) len := by rw [hcs, List.length_take, hnl]; omega
  rw [← hcs] at hfirst
  have hcm : cs = (List.take (min (new'.length) len) new').map (Value.int kd) := by rw [hcs, e1, List.map_take]
  have hrel := setWs_rel (vs := c.toList) hw hr' (by unfold splice; simp only [List.length_append, List.length_take, List.length_drop]; omega) (fun y hy => by
    unfold splice at hy
    rw [List.mem_append, List.mem_append] at hy
    rcases hy with (hy | hy) | hy
    · exact q2 _ (List.mem_of_mem_take hy)
    · exact e2 _ (List.mem_of_mem_take hy)
    · exact q2 _ (List.mem_of_mem_drop hy)) g4
  rw [splice_map, ← q3, ← hcm, ← splice_within (by simpa using q4) (by omega)] at hrel
  have hsing : ∀ v ∈ cs, single v := fun v hv => by
    rw [hcm] at hv
    obtain ⟨z, _, rfl⟩ := List.mem_map.1 hv
    trivial
  have hrun : ∃ w' c', (Builtin.copy_ types ty vs).run P E.w = .ok (goInt ((min new'.length len : Nat) : Int)) w' ∧ Same E.w w' ∧ w'.heap.size = E.w.heap.size ∧ (∀ k', k' ≠ k → w'.heap[k']? = E.w.heap[k']?) ∧
      w'.heap[k]? = some (.cells c' ee fz) ∧ c'.size = c.size ∧ c'.toList = c.toList.take (o + off) ++ cs ++ c.toList.drop (o + off + cs.length) := by
    have hpre : ∀ (g : Sem Unit) (w' : World), (match a with | some a => storeCells a cs | none => pure ()).run P E.w = .ok () w' → (Builtin.copy_ types ty vs).run P E.w = .ok (goInt ((min new'.length len : Nat) : Int)) w' := fun g w' hst => by
      have hl := hsrc.len E.w
      simp only [Builtin.copy_, ht0, hv0, hv1, Sem.run_bind, run_underlying hT, Result.andThen_ok, hl, run_sizeOf_pos (show 0 < P.cellsOf e by omega), hs1]
      have hf2 : (Builtin.firstCells 1 (Nat.min new'.length len) u).run P E.w = .ok cs.toArray E.w := hfirst
      refine (congrArg (fun z => Result.andThen z _) hf2).trans ?_
      simp only [Result.andThen_ok]
      cases a with
      | none => simp only [Sem.run_pure, Result.ok.injEq, true_and] at hst; subst hst; rfl
      | some a => simp only [Sem.run_bind, hst, Result.andThen_ok, Sem.run_pure]; rfl
    rcases h4 with h4 | ⟨k1, h4, rfl⟩
    · have h0 : cs = [] := List.length_eq_zero_iff.mp (by omega)
      refine ⟨E.w, c, hpre (pure ()) _ ?_, ⟨rfl, rfl, rfl⟩, rfl, fun _ _ => rfl, g2, rfl, by rw [h0]; simp⟩
      rw [h0]
      cases a <;> rfl
    · rw [g1] at h4
      obtain rfl := Option.some.inj h4
      obtain ⟨s1, s2⟩ := cells_there (o := o + off) (n := cs.length) g2 (by omega) g3
      have hst := run_storeCells_cells (P := P) k (o + off) cs 0 E.w (by simpa using s1) (by simpa using s2) (single_all hsing)
      rw [Nat.add_zero] at hst
      obtain ⟨c', w1, w2, w3, w4, w5, w6⟩ := setCells_heap cs (o + off) E.w c g2 (by omega)
      exact ⟨_, c', hpre (pure ()) _ hst, w6, w5, w4, w1, w3, w2⟩
  obtain ⟨w', c', hrun, hsame, hsz, hoth, hc', hcsz, hct⟩ := hrun
  have hl : live (getB E.H b) = true := by rw [hb]; rfl
  obtain ⟨p1, p2⟩ := env_write hE hl g1 hsame g2 hsz hoth hc' hcsz (blk := .vals r') (by rw [hb]; show RelFs E r' c'.toList; rw [hct]; exact hrel)
    (fun p t xs hp hpk => (hE.noPar hl g1 (fun t xs lo par h => by rw [hb] at h; cases h) hp hpk).elim)
  refine ⟨_, w', hrun, E.β, E.R, p1, p2, rfl, ?_⟩
  have : len ≤ 9223372036854775807 := by omega
  unfold InK
  simp only [IntKind.min, IntKind.max, IntKind.signed, IntKind.bits]
  exact ⟨by simp, by simp; omega⟩

theorem copyT_sound (hE : RepH G E) {look : Look} (hk : LookOk E look) {args : List SV} {types : Array TypeId} {vs : Array Value} {ty : TypeId} {r : Res} (ha : RelTs E args vs.toList) (h : (copyT P look args types.toList).val = some r) :
    SemOk P G E (Builtin.copy_ types ty vs) r := by
  unfold copyT at h
  split at h
  · rename_i d x T rest heq
    obtain ⟨dv, us1, hvs, hd, u, us, rfl, hx, hus⟩ := ha
    have hus : us = [] := hus
    subst hus
    have hv0 : vs[0]? = some dv := by rw [← Array.getElem?_toList, hvs]; rfl
    have hv1 : vs[1]? = some u := by rw [← Array.getElem?_toList, hvs]; rfl
    have ht0 : types[0]? = some T := by rw [← Array.getElem?_toList, heq]; rfl
    split at h
    · rename_i e hT
      split at h
      · cases h
      · rename_i t ht
        split at h
        · rename_i hs
          split at h
          · cases h
          · rename_i new hnew
            obtain ⟨news, hsrc⟩ := elemsOf_sound (P := P) hE hk hx hnew
            split at h
            · rename_i b o n off len
              split at h
              · rename_i fs hb
                have hb := hk.eq hb (by intro h; cases h)
                split at h
                · rename_i kd m xs kd' new' hw _
                  split at h
                  · rename_i hm
                    obtain ⟨rfl, rfl⟩ := hm
                    obtain ⟨r', hr', h⟩ := val_opt h
                    obtain rfl := val_ret h
                    obtain ⟨hs1, hs2⟩ := hs
                    exact copy_core hE hT hv0 hv1 ht0 hs1.symm hb hw hsrc hd hr'
                  · cases h
                · cases h
              · cases h
            · cases h
        · cases h
    · cases h
  · cases h
end Go.SX
