/-
  SX, part 12: literals.
-/
import Derived.Test.YticfnbhbpcpgeaaDoorSx11
import Derived.Great.FillDense
namespace Go.SX
open Go
variable {G : GlobT} {E : Env} {P : Program}

theorem fold_splice (vs : Array Value) (off : Nat) (cells : Array Value) (h : off + vs.size ≤ cells.size) :
    (vs.zipIdx.foldl (fun cs (x : Value × Nat) => cs.setIfInBounds (off + x.2) x.1) cells).toList = cells.toList.take off ++ vs.toList ++ cells.toList.drop (off + vs.size) := by
  have e : vs.zipIdx.foldl (fun cs (x : Value × Nat) => cs.setIfInBounds (off + x.2) x.1) cells = (vs.toList.zipIdx 0).foldl (fun cs (x : Value × Nat) => cs.setIfInBounds (off + x.2) x.1) cells := by
    rw [← Array.foldl_toList]; simp
  rw [e]
  obtain ⟨h1, h2⟩ := Great.foldl_set off vs.toList 0 cells
  apply List.ext_getElem?
  intro k
  rw [Array.getElem?_toList, h2 k]
  simp only [Nat.add_zero, Array.length_toList]
  rw [List.getElem?_append, List.getElem?_append]
  simp only [List.length_append, List.length_take, Array.length_toList, List.getElem?_take, Array.getElem?_toList, List.getElem?_drop]
  rw [show min off cells.size = off from by omega]
  by_cases h3 : k < off
  · rw [if_neg (by omega), if_pos (by omega), if_pos (by omega), if_pos h3]
  · by_cases h4 : k < off + vs.size
    · rw [if_pos ⟨by omega, h4, by omega⟩, if_pos h4, if_neg h3]
    · rw [if_neg (by omega), if_neg (by omega)]
      congr 1
      omega

/-- the parts of a literal, as the machine has them -/
def RelPs (E : Env) : List (Nat × SV) → List (Nat × Value) → Prop
  | [], qs => qs = []
  | (i, v) :: ps, qs => ∃ u qs', qs = (i, u) :: qs' ∧ RelS E v u ∧ RelPs E ps qs'

theorem putAll_sound {place : Nat → Option (Nat × Nat)} : ∀ {ps : List (Nat × SV)} {qs : List (Nat × Value)} {fs fs' : List FCell} {cells : Array Value}, putAll place fs ps = some fs' → RelPs E ps qs → RelFs E fs cells.toList →
    ∃ cells', Instr.fill place cells qs = some cells' ∧ RelFs E fs' cells'.toList
  | [], qs, fs, fs', cells, h, hp, hr => by
    obtain rfl := Option.some.inj h
    have hp : qs = [] := hp
    subst hp
    exact ⟨cells, rfl, hr⟩
  | (i, v) :: ps, qs, fs, fs', cells, h, hp, hr => by
    obtain ⟨u, qs', rfl, hv, hp'⟩ := hp
    simp only [putAll] at h
    split at h
    · cases h
    · rename_i off size hpl
      split at h
      · rename_i v
        split at h
        · rename_i hsz
          split at h
          · rename_i fs1 h1
            have hc := v1_cells hv
            obtain ⟨g1, g2⟩ := setG_rel h1 hr hc
            have hl : u.cells.size = size := by
              have := RelFs.len hc
              rw [Array.length_toList] at this
              omega
            simp only [Array.length_toList] at g1 g2
            have hsp := fold_splice u.cells off cells g2
            obtain ⟨cells', q1, q2⟩ := putAll_sound h hp' (cells := u.cells.zipIdx.foldl (fun cs (x : Value × Nat) => cs.setIfInBounds (off + x.2) x.1) cells) (by rw [hsp]; exact g1)
            refine ⟨cells', ?_, q2⟩
            simp only [Instr.fill, hpl]
            rw [if_neg (by simp [hl]; omega)]
            exact q1
          · cases h
        · cases h
      · cases h

theorem putWs_sound {kd : IntKind} {m : Nat} : ∀ {ps : List (Nat × SV)} {qs : List (Nat × Value)} {xs ys : List Int}, putWs kd m xs ps = some ys → RelPs E ps qs → xs.length = m → (∀ x ∈ xs, InK kd x) →
    ∃ cells', Instr.fill (fun i => some (i * 1, 1)) (xs.map (Value.int kd)).toArray qs = some cells' ∧ cells'.toList = ys.map (Value.int kd) ∧ ys.length = m ∧ ∀ x ∈ ys, InK kd x
  | [], qs, xs, ys, h, hp, hl, hi => by
    obtain rfl := Option.some.inj h
    have hp : qs = [] := hp
    subst hp
    exact ⟨_, rfl, rfl, hl, hi⟩
  | (i, v) :: ps, qs, xs, ys, h, hp, hl, hi => by
    obtain ⟨u, qs', rfl, hv, hp'⟩ := hp
    simp only [putWs] at h
    split at h
    · rename_i l kd' x
      split at h
      · rename_i hk
        obtain ⟨rfl, hlt⟩ := hk
        obtain ⟨rfl, hx⟩ := hv
        obtain ⟨cells', q1, q2, q3, q4⟩ := putWs_sound h hp' (by simpa using hl) (fun y hy => by
          rcases List.mem_or_eq_of_mem_set hy with h | h
          · exact hi y h
          · subst h; exact hx)
        refine ⟨cells', ?_, q2, q3, q4⟩
        have hc : (Value.int kd x).cells = #[Value.int kd x] := rfl
        simp only [Instr.fill]
        rw [if_neg (by simp [hc]; omega)]
        rw [← q1]
        congr 1
        apply Array.ext'
        have := fold_splice #[Value.int kd x] i (xs.map (Value.int kd)).toArray (by simp; omega)
        simp only [Nat.mul_one, hc]
        rw [this]
        simp [List.set_eq_take_append_cons_drop, hlt, hl]
      · cases h
    · cases h

theorem run_mapM_places (w : World) : ∀ (l : List Field), (∀ f ∈ l, (P.info? f.type).isSome = true) →
    (l.mapM fun f => (do pure (f.offset, ← sizeOf f.type) : Sem (Nat × Nat))).run P w = .ok (l.map fun f => (f.offset, P.cellsOf f.type)) w
  | [], _ => rfl
  | f :: l, h => by
    obtain ⟨i, hi⟩ := Option.isSome_iff_exists.1 (h f List.mem_cons_self)
    have h1 : (sizeOf f.type).run P w = .ok (P.cellsOf f.type) w := by simp [sizeOf, run_typeInfo hi, Program.cellsOf, hi]
    have h2 := run_mapM_places w l (fun g hg => h g (List.mem_cons_of_mem _ hg))
    simp only [List.mapM_cons, Sem.run_bind, h1, Result.andThen_ok, Sem.run_pure, h2, List.map_cons]

theorem buildT_sound (hE : RepH G E) {T : TypeId} {ps : List (Nat × SV)} {parts : Array (Nat × Value)} {r : Res} (hp : RelPs E ps parts.toList) (h : (buildT P T ps).val = some r) : SemOk P G E (Instr.build T parts) r := by
  unfold buildT at h
  split at h
  · cases h
  · rename_i z hz
    obtain ⟨zv, hz1, hz2, _⟩ := zeroF_rel (E := E) hz
    split at h
    · rename_i fields hT
      split at h
      · rename_i hk
        obtain ⟨fs, h1, h2⟩ := val_opt h
        obtain rfl := val_ret h2
        obtain ⟨cells, g1, g2⟩ := putAll_sound h1 hp hz2
        have hm := run_mapM_places (P := P) E.w fields.toList (by unfold knownT at hk; rw [List.all_eq_true] at hk; exact hk)
        have hm' : (fields.mapM fun f => (do pure (f.offset, ← sizeOf f.type) : Sem (Nat × Nat))).run P E.w = .ok (fields.map fun f => (f.offset, P.cellsOf f.type)) E.w := by
          rw [Array.mapM_eq_mapM_toList, Sem.run_map, hm]
          simp only [Result.andThen_ok]
          congr 1
          apply Array.ext'
          simp
        have hpl : (fun i => (fields.map fun f => (f.offset, P.cellsOf f.type))[i]?) = placeF P fields := by
          funext i
          unfold placeF
          rw [Array.getElem?_map]
          cases fields[i]? <;> rfl
        refine SemOk.pure hE (u := .agg cells) ?_ ⟨cells, rfl, g2⟩
        simp only [Instr.build, Sem.run_bind, hz1, Result.andThen_ok, run_underlying hT, hm', hpl, g1, Sem.run_pure]
      · cases h
    · rename_i n e hT
      split at h
      · rename_i he
        have hs := run_sizeOf_pos (P := P) (t := e) (by omega) E.w
        split at h
        · rename_i kd m xs
          obtain ⟨ys, h1, h2⟩ := val_opt h
          obtain rfl := val_ret h2
          obtain ⟨us, hzl, g3, g4, g5⟩ := relFs_cons_ws hz2
          have g5 : us = [] := g5
          subst g5
          rw [List.append_nil] at hzl
          obtain ⟨cells, g6, g7, g8, g9⟩ := putWs_sound h1 hp g3 g4
          have hzc : zv.cells = (xs.map (Value.int kd)).toArray := by apply Array.ext'; simpa using hzl
          refine SemOk.pure hE (u := .agg cells) ?_ ⟨cells, rfl, ⟨_, [], by simp [g7], ⟨g8, g9, rfl⟩, rfl⟩⟩
          simp only [Instr.build, Sem.run_bind, hz1, Result.andThen_ok, run_underlying hT, hs, he, hzc, g6, Sem.run_pure]
        · obtain ⟨fs, h1, h2⟩ := val_opt h
          obtain rfl := val_ret h2
          obtain ⟨cells, g1, g2⟩ := putAll_sound h1 hp hz2
          refine SemOk.pure hE (u := .agg cells) ?_ ⟨cells, rfl, g2⟩
          simp only [Instr.build, Sem.run_bind, hz1, Result.andThen_ok, run_underlying hT, hs, g1, Sem.run_pure]
      · split at h
        · cases h
        · rename_i he
          have hs := run_sizeOf_pos (P := P) (t := e) (by omega) E.w
          obtain ⟨fs, h1, h2⟩ := val_opt h
          obtain rfl := val_ret h2
          obtain ⟨cells, g1, g2⟩ := putAll_sound h1 hp hz2
          refine SemOk.pure hE (u := .agg cells) ?_ ⟨cells, rfl, g2⟩
          simp only [Instr.build, Sem.run_bind, hz1, Result.andThen_ok, run_underlying hT, hs, g1, Sem.run_pure]
    · cases h
end Go.SX
