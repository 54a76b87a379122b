/-
  SX, part 16b: slices whose elements are kept as cells; a nil slice's capacity.
-/
import Derived.Test.YticfnbhbpcpgeaaDoorSx16
namespace Go.SX
open Go
variable {P : Program} {G : GlobT} {E : Env}

theorem rep_rel {fs : List FCell} {vs : List Value} (h : RelFs E fs vs) : ∀ n, RelFs E (rep fs n) (List.replicate n vs).flatten
  | 0 => rfl
  | n + 1 => by
    rw [List.replicate_succ, List.flatten_cons]
    exact RelFs.append h (rep_rel h n)

theorem buildSliceV_sound (hE : RepH G E) {nid : Nat} (hn : fresh1 E nid) {T : TypeId} {len : Nat} {ps : List (Nat × SV)} {parts : Array (Nat × Value)} {r : Res} (hp : RelPs E ps parts.toList) (h : (buildSliceV P nid T len ps).val = some r) :
    SemOk P G E (Instr.buildSlice T len parts) r := by
  unfold buildSliceV at h
  split at h
  · rename_i e hT
    split at h
    · cases h
    · rename_i z hz
      split at h
      · rename_i hs
        obtain ⟨hs1, hs2, hs3, hs4⟩ := hs
        obtain ⟨fs, hf, h⟩ := val_opt h
        obtain rfl := val_ret h
        obtain ⟨v, _, hv, i, hi, hiz⟩ := zeroF_rel (E := E) hz
        have hvl : v.cells.size = 1 := by
          have := RelFs.len hv
          rw [Array.length_toList] at this
          omega
        have hsz : i.size = 1 := by simpa [Program.cellsOf, hi] using hs2
        have hzc : (Array.range (len * 1)).map (v.cells[· % v.cells.size]!) = ((List.replicate len v.cells.toList).flatten).toArray := by
          apply Array.ext'; rw [range_zero_cells hvl (by omega)]
        obtain ⟨cells, g1, g2⟩ := putAll_sound hf hp (cells := ((List.replicate len v.cells.toList).flatten).toArray) (by simpa using rep_rel hv len)
        have hrun := run_buildSlice (P := P) (parts := parts) (cells := cells) (len := len) hT hi hiz hs2 (by omega) (by omega) (by rw [hzc]; exact g1) (fun h0 => by omega) (fun h0 => by omega) E.w
        refine ⟨_, _, hrun, ?_⟩
        obtain ⟨q1, q2⟩ := env_alloc hE hn.1 hn.2 (w' := E.w.alloc (.cells cells e)) (c := cells) (e := e) (fz := (0, 0)) (same_alloc _ _) rfl (noFz0 _) (blk := .vals fs) g2
        refine ⟨_, _, q1, q2, trivial, ?_⟩
        unfold RelSla
        rw [show getB (setBs E.H [(nid, Blk.vals fs)]) nid = _ from getB_setB_same hn.1]
        exact ⟨_, _, rfl, Nat.le_refl _, by omega, Nat.zero_add _, .inr ⟨E.w.heap.size, if_pos rfl, rfl⟩⟩
      · cases h
  · cases h

theorem capT_sound (hE : RepH G E) {args : List SV} {types : Array TypeId} {vs : Array Value} {ty : TypeId} {r : Res} (ha : RelTs E args vs.toList) (h : (capT P args types.toList).val = some r) :
    SemOk P G E (Builtin.cap_ types ty vs) r := by
  unfold capT at h
  split at h
  · rename_i x T rest heq
    obtain ⟨u, us, hvs, hx, hus⟩ := ha
    have hus : us = [] := hus
    subst hus
    have hv0 : vs[0]? = some u := by rw [← Array.getElem?_toList, hvs]; rfl
    have ht0 : types[0]? = some T := by rw [← Array.getElem?_toList, heq]; rfl
    split at h
    · rename_i e hT
      obtain rfl := val_ret h
      obtain rfl : u = .slice none 0 0 := hx
      refine SemOk.pure hE (u := goInt 0) ?_ ⟨rfl, by unfold InK; decide⟩
      simp [Builtin.cap_, ht0, hv0, run_underlying hT]
    · cases h
  · cases h
end Go.SX
