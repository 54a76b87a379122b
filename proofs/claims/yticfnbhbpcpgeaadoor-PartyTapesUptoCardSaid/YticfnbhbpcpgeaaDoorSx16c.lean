/-
  SX, part 16c: copies into arrays.
-/
import Derived.Test.YticfnbhbpcpgeaaDoorSx16b
namespace Go.SX
open Go
variable {P : Program} {G : GlobT} {E : Env}

theorem elems_ints {kd : IntKind} {xs : List Int} {news : List Value} (h : ElemRows E (.int kd) xs news) : news = xs.map (Value.int kd) ∧ ∀ x ∈ xs, InK kd x := by
  have hl : news.length = xs.length := by have := h.1; rw [show DTy.size (.int kd) = 1 from rfl, Nat.mul_one] at this; exact this
  have hq : ∀ i (hi : i < xs.length), news[i]? = some (.int kd xs[i]) ∧ InK kd xs[i] := fun i hi => by
    obtain ⟨us, ⟨q0, q1⟩, q2, q3⟩ := h.2 i hi
    have := q3 0 (by show 0 < 1; omega)
    rw [show DTy.size (.int kd) = 1 from rfl, Nat.mul_one, Nat.add_zero, q0] at this
    exact ⟨this, q1⟩
  refine ⟨?_, fun x hx => ?_⟩
  · apply List.ext_getElem?
    intro i
    by_cases hi : i < xs.length
    · rw [(hq i hi).1, List.getElem?_map, List.getElem?_eq_getElem hi]; rfl
    · rw [List.getElem?_eq_none (by omega), List.getElem?_eq_none (by simp; omega)]
  · obtain ⟨i, hi, rfl⟩ := List.getElem_of_mem hx
    exact (hq i hi).2

theorem splice_map {α β : Type} (f : α → β) (xs : List α) (off : Nat) (new : List α) : (splice xs off new).map f = splice (xs.map f) off (new.map f) := by
  unfold splice; simp
theorem splice_within {α : Type} {c : List α} {o off m : Nat} {new : List α} (hm : o + m ≤ c.length) (h : off + new.length ≤ m) :
    c.take (o + off) ++ new ++ c.drop (o + off + new.length) = c.take o ++ splice ((c.drop o).take m) off new ++ c.drop (o + m) := by
  unfold splice
  apply List.ext_getElem?
  intro i
  simp only [List.getElem?_append, List.length_append, List.length_take, List.length_drop, List.getElem?_take, List.getElem?_drop]
  rw [show min (o + off) c.length = o + off from by omega, show min o c.length = o from by omega, show min m (c.length - o) = m from by omega, show min off m = off from by omega]
  rcases Nat.lt_or_ge i o with h1 | h1
  · rw [if_pos (by omega), if_pos (by omega), if_pos (by omega), if_pos (by omega), if_pos (by omega)]
    rw [if_pos h1]
  · rcases Nat.lt_or_ge i (o + off) with h2 | h2
    · rw [if_pos (by omega), if_pos (by omega), if_pos (by omega), if_pos (by omega), if_neg (by omega), if_pos (by omega), if_pos (by omega), if_pos (by omega), if_pos (by omega)]
      congr 1; omega
    · rcases Nat.lt_or_ge i (o + off + new.length) with h3 | h3
      · rw [if_pos (by omega), if_neg (by omega), if_pos (by omega), if_neg (by omega), if_pos (by omega), if_neg (by omega)]
        congr 1; omega
      · rcases Nat.lt_or_ge i (o + m) with h4 | h4
        · rw [if_neg (by omega), if_pos (by omega), if_neg (by omega), if_neg (by omega), if_pos (by omega)]
          congr 1; omega
        · rw [if_neg (by omega), if_neg (by omega)]
          congr 1; omega

theorem copy_core (hE : RepH G E) {types : Array TypeId} {vs : Array Value} {ty T e : TypeId} {dv u : Value} (hT : P.underlying T = some (.slice e)) (hv0 : vs[0]? = some dv) (hv1 : vs[1]? = some u) (ht0 : types[0]? = some T) (hs1 : P.cellsOf e = 1)
    {b o off len m : Nat} {kd : IntKind} {fs r' : List FCell} {xs new' : List Int} {news : List Value} (hb : getB E.H b = .vals fs) (hw : wsAt fs o = some (kd, m, xs)) (hsrc : SrcOk P E (.int kd) u new' news) (hd : RelC E (.sla b o m off len) dv)
    (hr' : setWs fs o (splice xs off (new'.take (min new'.length len))) = some r') :
    SemOk P G E (Builtin.copy_ types ty vs) (one (.int false .i64 (min new'.length len : Nat)), [(b, .vals r')]) := by
  obtain ⟨_, hd⟩ := hd
  unfold RelSla at hd
  rw [hb] at hd
  obtain ⟨a, cap, rfl, h1, h2, h3, h4⟩ := hd
  obtain ⟨k, c, ee, fz, g1, g2, g3, g4⟩ := hE.vals hb
  obtain ⟨q1, q2, q3, q4⟩ := wsAt_rel hw g4
  rw [Array.length_toList] at q4
  obtain ⟨e1, e2⟩ := elems_ints hsrc.rows
  have hnl : news.length = new'.length := by rw [e1, List.length_map]
  -- what goes over
  have hfirst := hsrc.first E.w (min (new'.length) len) rfl (Nat.min_le_left _ _)
  rw [show DTy.size (.int kd) = 1 from rfl, Nat.mul_one] at hfirst
  obtain ⟨cs, hcs⟩ : ∃ cs, cs = news.take (min (new'.length) len) := ⟨_, rfl⟩
  have hcl : cs.length = min (new'.length) len := by rw [hcs, List.length_take, hnl]; omega
  rw [← hcs] at hfirst
  have hcm : cs = (List.take (min (new'.length) len) new').map (Value.int kd) := by rw [hcs, e1, List.map_take]
  have hrel := setWs_rel (vs := c.toList) hw hr' (by unfold splice; simp only [List.length_append, List.length_take, List.length_drop]; omega) (fun y hy => by
    unfold splice at hy
    rw [List.mem_append, List.mem_append] at hy
    rcases hy with (hy | hy) | hy
    · exact q2 _ (List.mem_of_mem_take hy)
    · exact e2 _ (List.mem_of_mem_take hy)
    · exact q2 _ (List.mem_of_mem_drop hy)) g4
  rw [splice_map, ← q3, ← hcm, ← splice_within (by simpa using q4) (by omega)] at hrel
  have hsing : ∀ v ∈ cs, single v := fun v hv => by
    rw [hcm] at hv
    obtain ⟨z, _, rfl⟩ := List.mem_map.1 hv
    trivial
  have hrun : ∃ w' c', (Builtin.copy_ types ty vs).run P E.w = .ok (goInt ((min new'.length len : Nat) : Int)) w' ∧ Same E.w w' ∧ w'.heap.size = E.w.heap.size ∧ (∀ k', k' ≠ k → w'.heap[k']? = E.w.heap[k']?) ∧
      w'.heap[k]? = some (.cells c' ee fz) ∧ c'.size = c.size ∧ c'.toList = c.toList.take (o + off) ++ cs ++ c.toList.drop (o + off + cs.length) := by
    have hpre : ∀ (g : Sem Unit) (w' : World), (match a with | some a => storeCells a cs | none => pure ()).run P E.w = .ok () w' → (Builtin.copy_ types ty vs).run P E.w = .ok (goInt ((min new'.length len : Nat) : Int)) w' := fun g w' hst => by
      have hl := hsrc.len E.w
      simp only [Builtin.copy_, ht0, hv0, hv1, Sem.run_bind, run_underlying hT, Result.andThen_ok, hl, run_sizeOf_pos (show 0 < P.cellsOf e by omega), hs1]
      have hf2 : (Builtin.firstCells 1 (Nat.min new'.length len) u).run P E.w = .ok cs.toArray E.w := hfirst
      refine (congrArg (fun z => Result.andThen z _) hf2).trans ?_
      simp only [Result.andThen_ok]
      cases a with
      | none => simp only [Sem.run_pure, Result.ok.injEq, true_and] at hst; subst hst; rfl
      | some a => simp only [Sem.run_bind, hst, Result.andThen_ok, Sem.run_pure]; rfl
    rcases h4 with h4 | ⟨k1, h4, rfl⟩
    · have h0 : cs = [] := List.length_eq_zero_iff.mp (by omega)
      refine ⟨E.w, c, hpre (pure ()) _ ?_, ⟨rfl, rfl, rfl⟩, rfl, fun _ _ => rfl, g2, rfl, by rw [h0]; simp⟩
      rw [h0]
      cases a <;> rfl
    · rw [g1] at h4
      obtain rfl := Option.some.inj h4
      obtain ⟨s1, s2⟩ := cells_there (o := o + off) (n := cs.length) g2 (by omega) g3
      have hst := run_storeCells_cells (P := P) k (o + off) cs 0 E.w (by simpa using s1) (by simpa using s2) (single_all hsing)
      rw [Nat.add_zero] at hst
      obtain ⟨c', w1, w2, w3, w4, w5, w6⟩ := setCells_heap cs (o + off) E.w c g2 (by omega)
      exact ⟨_, c', hpre (pure ()) _ hst, w6, w5, w4, w1, w3, w2⟩
  obtain ⟨w', c', hrun, hsame, hsz, hoth, hc', hcsz, hct⟩ := hrun
  have hl : live (getB E.H b) = true := by rw [hb]; rfl
  obtain ⟨p1, p2⟩ := env_write hE hl g1 hsame g2 hsz hoth hc' hcsz (blk := .vals r') (by rw [hb]; show RelFs E r' c'.toList; rw [hct]; exact hrel)
    (fun p t xs hp hpk => (hE.noPar hl g1 (fun t xs lo par h => by rw [hb] at h; cases h) hp hpk).elim)
  refine ⟨_, w', hrun, E.β, E.R, p1, p2, rfl, ?_⟩
  have : len ≤ 9223372036854775807 := by omega
  unfold InK
  simp only [IntKind.min, IntKind.max, IntKind.signed, IntKind.bits]
  exact ⟨by simp, by simp; omega⟩

theorem RoT_heap {t : DTy} {d : t.den} {us : List Value} {E' : Env} (h : RoT E t d us) (hw : E' = E) : RoT E' t d us := hw ▸ h
theorem setB_getB : ∀ (H : Heap) (b : Nat), setB H b (getB H b) = H
  | [], _ => rfl
  | _ :: _, 0 => rfl
  | x :: H, n + 1 => congrArg (List.cons x) (setB_getB H n)
/-- copies into a slice of its own -/
theorem copy_core_sl (hE : RepH G E) {types : Array TypeId} {vs : Array Value} {ty T e : TypeId} {dv u : Value} (hT : P.underlying T = some (.slice e)) (hv0 : vs[0]? = some dv) (hv1 : vs[1]? = some u) (ht0 : types[0]? = some T)
    {b off len lo : Nat} {t : DTy} {xs new' : List t.den} {news : List Value} (hs1 : t.size = P.cellsOf e) (hz : 0 < t.size) (hb : getB E.H b = .arr t xs lo []) (hsrc : SrcOk P E t u new' news) (hd : RelC E (.sl b off len) dv) :
    SemOk P G E (Builtin.copy_ types ty vs) (one (.int false .i64 (min new'.length len : Nat)), [(b, .arr t (splice xs off (new'.take (min new'.length len))) lo [])]) := by
  obtain ⟨_, hd⟩ := hd
  unfold RelSl at hd
  rw [hb] at hd
  obtain ⟨a, cap, rfl, h1, h2, h3, h4⟩ := hd
  obtain ⟨m, hm⟩ : ∃ m, m = min new'.length len := ⟨_, rfl⟩
  rw [← hm]
  have hsl : (splice xs off (new'.take m)).length = xs.length := by
    unfold splice
    simp only [List.length_append, List.length_take, List.length_drop]; omega
  have hfirst := hsrc.first E.w m rfl (by omega)
  obtain ⟨cs, hcs⟩ : ∃ cs, cs = news.take (m * t.size) := ⟨_, rfl⟩
  have hnl := hsrc.rows.1
  have hcl : cs.length = m * t.size := by
    rw [hcs, List.length_take, hnl]
    exact Nat.min_eq_left (Nat.mul_le_mul_right _ (by omega))
  rw [← hcs] at hfirst
  have hInK : InK .i64 ((m : Nat) : Int) := by
    have : len ≤ 9223372036854775807 := by omega
    unfold InK
    simp only [IntKind.min, IntKind.max, IntKind.signed, IntKind.bits]
    exact ⟨by simp, by simp; omega⟩
  have hrb := hE.blk b
  rw [hb] at hrb
  have hpre : ∀ (w' : World), (match a with | some a => storeCells a cs | none => pure ()).run P E.w = .ok () w' → (Builtin.copy_ types ty vs).run P E.w = .ok (goInt ((m : Nat) : Int)) w' := fun w' hst => by
    have hl := hsrc.len E.w
    simp only [Builtin.copy_, ht0, hv0, hv1, Sem.run_bind, run_underlying hT, Result.andThen_ok, hl, run_sizeOf_pos (show 0 < P.cellsOf e by omega)]
    have hf2 : (Builtin.firstCells (P.cellsOf e) (Nat.min new'.length len) u).run P E.w = .ok cs.toArray E.w := by
      rw [← hs1, show Nat.min new'.length len = m from hm.symm]; exact hfirst
    refine (congrArg (fun z => Result.andThen z _) hf2).trans ?_
    simp only [Result.andThen_ok]
    rw [hm]
    cases a with
    | none => simp only [Sem.run_pure, Result.ok.injEq, true_and] at hst; subst hst; rfl
    | some a => simp only [Sem.run_bind, hst, Result.andThen_ok, Sem.run_pure]
  have hlive : live (getB E.H b) = true := by rw [hb]; rfl
  by_cases h0 : m = 0
  · -- nothing goes over
    have hc0 : cs = [] := List.length_eq_zero_iff.mp (by rw [hcl, h0, Nat.zero_mul])
    have hrun : (Builtin.copy_ types ty vs).run P E.w = .ok (goInt ((m : Nat) : Int)) E.w := hpre _ (by rw [hc0]; cases a <;> rfl)
    have hsp : splice xs off (new'.take m) = xs := by
      unfold splice
      rw [h0, List.take_zero, List.append_nil, List.length_nil, Nat.add_zero, List.take_append_drop]
    have hset : setB E.H b (.arr t xs lo []) = E.H := by rw [← hb]; exact setB_getB _ _
    rw [hsp]
    refine ⟨_, E.w, hrun, E.β, E.R, ?_, ?_, rfl, hInK⟩
    · show RepH G ⟨E.β, setB E.H b (.arr t xs lo []), E.w, E.R⟩
      rw [hset]; exact hE
    · show Ext E ⟨E.β, setB E.H b (.arr t xs lo []), E.w, E.R⟩
      rw [hset]; exact Ext.refl E
  · have hcap : cap ≠ 0 := by omega
    rcases h4 with ⟨_, h4⟩ | ⟨k, c, ee, fz, g1, g2, g3, g4⟩
    · exact (hcap h4).elim
    obtain rfl := g2.resolve_left hcap
    rcases hrb.2.2 with ⟨r1, _⟩ | ⟨k1, c1, e1, fz1, r1, r2, r3, r4⟩
    · rw [g1] at r1; cases r1
    rw [g1] at r1
    obtain rfl := Option.some.inj r1
    rw [g3] at r2
    cases r2
    have hroom : off * t.size + cs.length ≤ c.size := by
      rw [hcl, ← Nat.add_mul, ← g4]; exact Nat.mul_le_mul_right _ (by omega)
    obtain ⟨s1, s2⟩ := cells_there (o := off * t.size) (n := cs.length) g3 hroom r3
    have hsing : ∀ v ∈ cs, single v := fun v hv => hsrc.rows.single hz v (by rw [hcs] at hv; exact List.mem_of_mem_take hv)
    have hst := run_storeCells_cells (P := P) k (off * t.size) cs 0 E.w (by simpa using s1) (by simpa using s2) (single_all hsing)
    rw [Nat.add_zero] at hst
    obtain ⟨c', w1, w2, w3, w4, w5, w6⟩ := setCells_heap cs (off * t.size) E.w c g3 hroom
    have hcell : ∀ j, c'[j]? = (c.toList.take (off * t.size) ++ cs ++ c.toList.drop (off * t.size + cs.length))[j]? := fun j => by
      rw [← w2, Array.getElem?_toList]
    have hrows : Rows t.size (RoT E t) (splice xs off (new'.take m)) 0 c' := fun i hi => by
      rw [hsl] at hi
      have hin : ∀ j, j < t.size → (i * t.size + j) < c.size := fun j hj => by
        obtain ⟨us, q1, q2, q3⟩ := r4 i hi
        have := q3 j hj
        rw [List.getElem?_eq_getElem (by omega), Nat.zero_add] at this
        exact (Array.getElem?_eq_some_iff.1 this).1
      have htl : (new'.take m).length = m := by rw [List.length_take]; omega
      have hox : off + m ≤ xs.length := by omega
      by_cases hA : i < off
      · obtain ⟨us, q1, q2, q3⟩ := r4 i hi
        have hel : (splice xs off (new'.take m))[i]'(by rw [hsl]; exact hi) = xs[i] := by
          unfold splice
          rw [List.getElem_append_left (by simp only [List.length_append, List.length_take]; omega), List.getElem_append_left (by rw [List.length_take]; omega), List.getElem_take]
        refine ⟨us, by rw [hel]; exact q1, q2, fun j hj => ?_⟩
        have hlt : i * t.size + j < off * t.size := by
          have : (i + 1) * t.size ≤ off * t.size := Nat.mul_le_mul_right _ hA
          rw [Nat.add_mul, Nat.one_mul] at this; omega
        rw [hcell, List.getElem?_append_left (by simp only [List.length_append, List.length_take, Array.length_toList]; omega), List.getElem?_append_left (by rw [List.length_take, Array.length_toList]; omega), List.getElem?_take, if_pos (by omega), Array.getElem?_toList, ← q3 j hj]
      · by_cases hB : i < off + m
        · obtain ⟨us, q1, q2, q3⟩ := hsrc.rows.2 (i - off) (by omega)
          have hel : (splice xs off (new'.take m))[i]'(by rw [hsl]; exact hi) = new'[i - off]'(by omega) := by
            unfold splice
            have htk : (xs.take off).length = off := by rw [List.length_take]; omega
            rw [List.getElem_append_left (by rw [List.length_append, htk, htl]; omega), List.getElem_append_right (by rw [htk]; omega), List.getElem_take]
            congr 1; omega
          refine ⟨us, by rw [hel]; exact q1, q2, fun j hj => ?_⟩
          have e1 : 0 + (i * t.size + j) = off * t.size + ((i - off) * t.size + j) := by
            have : i * t.size = off * t.size + (i - off) * t.size := by rw [← Nat.add_mul]; congr 1; omega
            omega
          have hlt : (i - off) * t.size + j < m * t.size := by
            have : (i - off + 1) * t.size ≤ m * t.size := Nat.mul_le_mul_right _ (by omega)
            rw [Nat.add_mul, Nat.one_mul] at this; omega
          have hoff : (c.toList.take (off * t.size)).length = off * t.size := by rw [List.length_take, Array.length_toList]; omega
          rw [hcell, e1, List.getElem?_append_left (by rw [List.length_append, hoff, hcl]; omega), List.getElem?_append_right (by rw [hoff]; omega), hoff, Nat.add_sub_cancel_left, hcs, List.getElem?_take, if_pos hlt, q3 j hj]
        · obtain ⟨us, q1, q2, q3⟩ := r4 i hi
          have hel : (splice xs off (new'.take m))[i]'(by rw [hsl]; exact hi) = xs[i] := by
            unfold splice
            have htk : (xs.take off).length = off := by rw [List.length_take]; omega
            rw [List.getElem_append_right (by rw [List.length_append, htk, htl]; omega), List.getElem_drop]
            congr 1
            rw [List.length_append, htk, htl]; omega
          refine ⟨us, by rw [hel]; exact q1, q2, fun j hj => ?_⟩
          have hge : off * t.size + m * t.size ≤ i * t.size := by rw [← Nat.add_mul]; exact Nat.mul_le_mul_right _ (by omega)
          have hoff : (c.toList.take (off * t.size)).length = off * t.size := by rw [List.length_take, Array.length_toList]; omega
          rw [hcell, List.getElem?_append_right (by rw [List.length_append, hoff, hcl]; omega), List.length_append, hoff, List.getElem?_drop, hcl, Array.getElem?_toList, ← q3 j hj]
          congr 1; omega
    obtain ⟨p1, p2⟩ := env_write hE hlive g1 w6 g3 w5 w4 w1 w3 (blk := .arr t (splice xs off (new'.take m)) lo []) (by rw [hb]; exact ⟨rfl, by rw [hsl]; exact Nat.le_refl _, by rw [hsl]; exact hrb.1, hrows⟩)
      (fun p t xs hp hpk => (hE.noPar hlive g1 (fun t xs lo par h => by rw [hb] at h; cases h; rfl) hp hpk).elim)
    exact ⟨_, _, hpre _ hst, E.β, E.R, p1, p2, rfl, hInK⟩

theorem copyT_sound (hE : RepH G E) {look : Look} (hk : LookOk E look) {args : List SV} {types : Array TypeId} {vs : Array Value} {ty : TypeId} {r : Res} (ha : RelTs E args vs.toList) (h : (copyT P look args types.toList).val = some r) :
    SemOk P G E (Builtin.copy_ types ty vs) r := by
  unfold copyT at h
  split at h
  · rename_i d x T rest heq
    obtain ⟨dv, us1, hvs, hd, u, us, rfl, hx, hus⟩ := ha
    have hus : us = [] := hus
    subst hus
    have hv0 : vs[0]? = some dv := by rw [← Array.getElem?_toList, hvs]; rfl
    have hv1 : vs[1]? = some u := by rw [← Array.getElem?_toList, hvs]; rfl
    have ht0 : types[0]? = some T := by rw [← Array.getElem?_toList, heq]; rfl
    split at h
    · rename_i e hT
      split at h
      · cases h
      · rename_i t ht
        split at h
        · rename_i hs
          split at h
          · cases h
          · rename_i new hnew
            obtain ⟨news, hsrc⟩ := elemsOf_sound (P := P) hE hk hx hnew
            split at h
            · rename_i b o n off len
              split at h
              · rename_i fs hb
                have hb := hk.eq hb (by intro h; cases h)
                split at h
                · rename_i kd m xs kd' new' hw _
                  split at h
                  · rename_i hm
                    obtain ⟨rfl, rfl⟩ := hm
                    obtain ⟨r', hr', h⟩ := val_opt h
                    obtain rfl := val_ret h
                    obtain ⟨hs1, hs2⟩ := hs
                    exact copy_core hE hT hv0 hv1 ht0 hs1.symm hb hw hsrc hd hr'
                  · cases h
                · cases h
              · cases h
            · rename_i b off len
              split at h
              · rename_i t' xs lo hb
                have hb := hk.eq hb (by intro h; cases h)
                split at h
                · rename_i ys hc
                  obtain rfl := val_ret h
                  obtain ⟨e', he'⟩ := castL_eq hc
                  subst e'
                  subst he'
                  exact copy_core_sl hE hT hv0 hv1 ht0 hs.1 hs.2 hb hsrc hd
                · cases h
              · cases h
            · cases h
        · cases h
    · cases h
  · cases h
end Go.SX
