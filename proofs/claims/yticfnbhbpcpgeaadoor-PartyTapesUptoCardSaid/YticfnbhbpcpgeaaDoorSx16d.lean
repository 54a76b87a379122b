/-
  SX, part 16d: 'clear' of a slice of an array.
-/
import Derived.Test.YticfnbhbpcpgeaaDoorSx16c
namespace Go.SX
open Go
variable {P : Program} {G : GlobT} {E : Env}

theorem zeroD_int {kd : IntKind} {e : TypeId} {z : Int} (h : zeroD P (.int kd) e = some z) : ∃ v, (∀ w, (zeroValue e).run P w = .ok v w) ∧ v.cells = #[.int kd z] ∧ InK kd z := by
  obtain ⟨i, v, hi, hz, hr⟩ := zeroD_sound h
  obtain ⟨h1, h2⟩ := hr ⟨fun _ => none, [], default, fun _ => False⟩
  refine ⟨v, fun w => by simp [zeroValue, run_typeInfo hi, hz], Array.ext' h1, h2⟩

theorem zeroCells_one (v : Value) (n : Nat) : (Builtin.zeroCells #[v] n).toList = List.replicate n v := by
  simp only [Builtin.zeroCells, Array.toList_map, Array.toList_range]
  rw [show #[v].size = 1 from rfl, Nat.mul_one]
  apply List.ext_getElem?
  intro i
  rw [List.getElem?_map, List.getElem?_replicate]
  by_cases h : i < n
  · rw [List.getElem?_range h, if_pos h]
    simp [Nat.mod_one]
  · rw [List.getElem?_eq_none (by simpa using h), if_neg h]; rfl

theorem clear_core (hE : RepH G E) {types : Array TypeId} {vs : Array Value} {ty T e : TypeId} {dv : Value} (hT : P.underlying T = some (.slice e)) (hv0 : vs[0]? = some dv) (ht0 : types[0]? = some T)
    {b o off len m : Nat} {kd : IntKind} {fs r' : List FCell} {xs : List Int} {z : Int} (hz : zeroD P (.int kd) e = some z) (hb : getB E.H b = .vals fs) (hw : wsAt fs o = some (kd, m, xs)) (hd : RelC E (.sla b o m off len) dv)
    (hr' : setWs fs o (splice xs off (List.replicate len z)) = some r') :
    SemOk P G E (Builtin.clear_ types ty vs) (.tup [], [(b, .vals r')]) := by
  obtain ⟨_, hd⟩ := hd
  unfold RelSla at hd
  rw [hb] at hd
  obtain ⟨a, cap, rfl, h1, h2, h3, h4⟩ := hd
  obtain ⟨k, c, ee, fz, g1, g2, g3, g4⟩ := hE.vals hb
  obtain ⟨q1, q2, q3, q4⟩ := wsAt_rel hw g4
  rw [Array.length_toList] at q4
  obtain ⟨v, hzv, hvc, hzk⟩ := zeroD_int hz
  obtain ⟨cs, hcs⟩ : ∃ cs, cs = List.replicate len (Value.int kd z) := ⟨_, rfl⟩
  have hcl : cs.length = len := by rw [hcs, List.length_replicate]
  have hcm : cs = (List.replicate len z).map (Value.int kd) := by rw [hcs, List.map_replicate]
  have hrel := setWs_rel (vs := c.toList) hw hr' (by unfold splice; simp only [List.length_append, List.length_take, List.length_drop, List.length_replicate]; omega) (fun y hy => by
    unfold splice at hy
    rw [List.mem_append, List.mem_append] at hy
    rcases hy with (hy | hy) | hy
    · exact q2 _ (List.mem_of_mem_take hy)
    · obtain rfl := (List.mem_replicate.1 hy).2
      exact hzk
    · exact q2 _ (List.mem_of_mem_drop hy)) g4
  rw [splice_map, ← q3, ← hcm, ← splice_within (by simpa using q4) (by omega)] at hrel
  have hsing : ∀ v ∈ cs, single v := fun v hv => by
    rw [hcs] at hv
    obtain rfl := (List.mem_replicate.1 hv).2
    trivial
  have hrun : ∃ w' c', (Builtin.clear_ types ty vs).run P E.w = .ok (.tuple #[]) w' ∧ Same E.w w' ∧ w'.heap.size = E.w.heap.size ∧ (∀ k', k' ≠ k → w'.heap[k']? = E.w.heap[k']?) ∧
      w'.heap[k]? = some (.cells c' ee fz) ∧ c'.size = c.size ∧ c'.toList = c.toList.take (o + off) ++ cs ++ c.toList.drop (o + off + cs.length) := by
    rcases Nat.eq_zero_or_pos len with h0 | h0
    · subst h0
      have hc0 : cs = [] := hcs
      refine ⟨E.w, c, ?_, ⟨rfl, rfl, rfl⟩, rfl, fun _ _ => rfl, g2, rfl, by rw [hc0]; simp⟩
      cases a <;> simp [Builtin.clear_, ht0, hv0, Sem.run_bind, run_underlying hT, Result.andThen_ok]
    · rcases h4 with h4 | ⟨k1, h4, rfl⟩
      · omega
      · rw [g1] at h4
        obtain rfl := Option.some.inj h4
        obtain ⟨s1, s2⟩ := cells_there (o := o + off) (n := cs.length) g2 (by omega) g3
        have hst := run_storeCells_cells (P := P) k (o + off) cs 0 E.w (by simpa using s1) (by simpa using s2) (single_all hsing)
        rw [Nat.add_zero] at hst
        obtain ⟨c', w1, w2, w3, w4, w5, w6⟩ := setCells_heap cs (o + off) E.w c g2 (by omega)
        refine ⟨_, c', ?_, w6, w5, w4, w1, w3, w2⟩
        obtain ⟨l, rfl⟩ : ∃ l, len = l + 1 := ⟨len - 1, by omega⟩
        have hzc : (Builtin.zeroCells v.cells (l + 1)).toList = cs := by rw [hvc, zeroCells_one, hcs]
        simp only [Builtin.clear_, ht0, hv0, Sem.run_bind, run_underlying hT, Result.andThen_ok, hzv, hzc, hst, Sem.run_pure]
  obtain ⟨w', c', hrun, hsame, hsz, hoth, hc', hcsz, hct⟩ := hrun
  have hl : live (getB E.H b) = true := by rw [hb]; rfl
  obtain ⟨p1, p2⟩ := env_write hE hl g1 hsame g2 hsz hoth hc' hcsz (blk := .vals r') (by rw [hb]; show RelFs E r' c'.toList; rw [hct]; exact hrel)
    (fun p t xs hp hpk => (hE.noPar hl g1 (fun t xs lo par h => by rw [hb] at h; cases h) hp hpk).elim)
  exact ⟨_, w', hrun, E.β, E.R, p1, p2, #[], rfl, rfl⟩

theorem clearT_sound (hE : RepH G E) {look : Look} (hk : LookOk E look) {args : List SV} {types : Array TypeId} {vs : Array Value} {ty : TypeId} {r : Res} (ha : RelTs E args vs.toList) (h : (clearT P look args types.toList).val = some r) :
    SemOk P G E (Builtin.clear_ types ty vs) r := by
  unfold clearT at h
  split at h
  · rename_i d T heq
    obtain ⟨dv, us1, hvs, hd, hus⟩ := ha
    have hv0 : vs[0]? = some dv := by rw [← Array.getElem?_toList, hvs]; rfl
    have ht0 : types[0]? = some T := by rw [← Array.getElem?_toList, heq]; rfl
    split at h
    · rename_i e hT
      split at h
      · split at h
        · split at h
          · rename_i z hz
            split at h
            · split at h
              · rename_i fs hb
                have hb := hk.eq hb (by intro h; cases h)
                split at h
                · rename_i kd m xs hw
                  split at h
                  · rename_i hm
                    obtain ⟨rfl, rfl⟩ := hm
                    obtain ⟨r', hr', h⟩ := val_opt h
                    obtain rfl := val_ret h
                    exact clear_core hE hT hv0 ht0 hz hb hw hd hr'
                  · cases h
                · cases h
              · cases h
            · cases h
          · cases h
        · cases h
      · cases h
    · cases h
  · cases h
end Go.SX
