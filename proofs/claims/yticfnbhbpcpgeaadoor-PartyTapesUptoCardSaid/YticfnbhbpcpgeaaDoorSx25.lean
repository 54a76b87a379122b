/-
  SX, part 25: what is forgotten; results; tables of what functions do.
-/
import Derived.Test.YticfnbhbpcpgeaaDoorSx24
namespace Go.SX
open Go
variable {P : Program} {G : GlobT} {E E0 : Env} {S : Tab} {ids : List Nat}

/-! ### Blocks are renamed, others are forgotten -/
def cutE (E : Env) (ids : List Nat) : Env := ⟨fun j => match ids[j]? with | some b => E.β b | none => none, ids.map fun b => keepB ids (getB E.H b), E.w, E.R⟩

theorem cut_none {j : Nat} (h : ids[j]? = none) : getB (cutE E ids).H j = .dead ∧ (cutE E ids).β j = none := by
  constructor
  · show getB (ids.map _) j = _
    rw [getB_eq, List.getElem?_map, h]; rfl
  · show (match ids[j]? with | some b => E.β b | none => none) = _
    rw [h]
theorem cut_some {j b : Nat} (h : ids[j]? = some b) : getB (cutE E ids).H j = keepB ids (getB E.H b) ∧ (cutE E ids).β j = E.β b := by
  constructor
  · show getB (ids.map _) j = _
    rw [getB_eq, List.getElem?_map, h]; rfl
  · show (match ids[j]? with | some b => E.β b | none => none) = _
    rw [h]

theorem keepB_arr {t : DTy} {xs : List t.den} {lo : Nat} {par : List Nat} : (t.rf = true ∧ keepB ids (.arr t xs lo par) = .gone) ∨ (t.rf = false ∧ ∃ lo', keepB ids (.arr t xs lo par) = .arr t xs lo' (passPar ids par) ∧ lo' ≤ lo ∧ (passPar ids par ≠ [] → lo' = lo)) := by
  cases hf : t.rf with
  | true => exact .inl ⟨rfl, by simp only [keepB, hf]⟩
  | false =>
    refine .inr ⟨rfl, ?_⟩
    cases h : passPar ids par with
    | nil => exact ⟨0, by simp only [keepB, h, hf], Nat.zero_le _, fun h => (h rfl).elim⟩
    | cons q qs => exact ⟨lo, by simp only [keepB, h, hf], Nat.le_refl _, fun _ => rfl⟩
theorem keepB_frz {t : DTy} {xs : List t.den} : (t.rf = true ∧ keepB ids (.frz t xs) = .gone) ∨ (t.rf = false ∧ keepB ids (.frz t xs) = .frz t xs) := by
  cases hf : t.rf <;> simp [keepB, hf]

theorem live_keepB {k : Blk} (hl : live (keepB ids k) = true) : live k = true := by
  cases k with
  | arr t xs lo par => rfl
  | frz t xs => rcases keepB_frz (ids := ids) (xs := xs) with ⟨_, h⟩ | ⟨_, h⟩ <;> rw [h] at hl <;> cases hl
  | _ => exact hl

theorem cut_live {j : Nat} (h : live (getB (cutE E ids).H j) = true) : ∃ b, ids[j]? = some b ∧ live (getB E.H b) = true ∧ (cutE E ids).β j = E.β b ∧ getB (cutE E ids).H j = keepB ids (getB E.H b) := by
  cases hj : ids[j]? with
  | none => rw [(cut_none hj).1] at h; cases h
  | some b =>
    obtain ⟨h1, h2⟩ := cut_some (E := E) hj
    rw [h1] at h
    exact ⟨b, rfl, live_keepB h, h2, h1⟩

theorem cut_rot {t : DTy} {d : t.den} {vs : List Value} (hf : t.rf = false) (h : RoT E t d vs) : RoT (cutE E ids) t d vs := rotQ (E := cutE E ids) (El := E) rfl hf (.inr fun _ h => h) h

theorem cut_ptr {b j i es o k n : Nat} {v : Value} (hj : ids[j]? = some b) (h : RelPtr E b i es o k n v) : RelPtr (cutE E ids) j i es o k n v := by
  obtain ⟨h1, h2⟩ := cut_some (E := E) hj
  unfold RelPtr at h ⊢
  have hat : PtrAt E b i es o k n v → PtrAt (cutE E ids) j i es o k n v := fun ⟨⟨kb, q1, q2⟩, q3⟩ => ⟨⟨kb, h2.trans q1, q2⟩, q3⟩
  rw [h1]
  cases hk : getB E.H b <;> rw [hk] at h
  · exact hat h
  · rcases keepB_arr (ids := ids) with ⟨_, hq⟩ | ⟨_, lo', hq, _⟩ <;> rw [hq]
    · exact h.1
    · exact ⟨h.1, fun e => hat (h.2.1 e), h.2.2⟩
  · rcases keepB_frz (ids := ids) with ⟨_, hq⟩ | ⟨_, hq⟩ <;> rw [hq]
    · exact h.1
    · exact ⟨h.1, fun e => hat (h.2.1 e), h.2.2⟩
  · exact h
  · exact h.elim

theorem cut_noRefs : ∀ {x : Cell}, cellRefs x = [] → ∀ {u : Value}, RelC E x u → RelC (cutE E ids) x u
  | .any, _, v, h => h
  | .int .., _, v, h => h
  | .bool .., _, v, h => h
  | .str _, _, v, h => h
  | .nilp, _, v, h => h
  | .nils, _, v, h => h
  | .nilif, _, v, h => h
  | .nilfn, _, v, h => h
  | .fn f cs, _, v, h => h
  | .rptr t d o k, hr, v, h => rpQ (E := cutE E ids) (El := E) rfl (fun _ h => h) (rf_of hr) h
  | .ref _, hr, v, h => by simp [cellRefs] at hr
  | .ro t xs len, hr, v, h => by
    have hf := rf_of hr
    obtain ⟨a, cap, q2, q3, q4, q5, q6, q7⟩ := h
    refine ⟨a, cap, q2, q3, q4, q5, q6, fun hne => ?_⟩
    obtain ⟨k, off, c, e, fz, g1, g2, g3, g4⟩ := q7 hne
    exact ⟨k, off, c, e, fz, g1, g2, g3, g4.mono fun a us hu => cut_rot hf hu⟩
  | .ifc t x, hr, v, h => by
    obtain ⟨u, rfl, h⟩ := h
    exact ⟨u, rfl, cut_noRefs (x := x) hr h⟩
  | .ifd T t d, hr, v, h => by
    obtain ⟨cs, rfl, h⟩ := h
    exact ⟨cs, rfl, cut_rot (rf_of hr) h⟩
  | .ptr .., hr, v, h => by simp [cellRefs] at hr
  | .sl .., hr, v, h => by simp [cellRefs] at hr
  | .sla .., hr, v, h => by simp [cellRefs] at hr

theorem cut_c : ∀ {x : Cell} {v : Value}, RelC E x v → RelC (cutE E ids) (keepC ids x) v
  | .any, v, h => h
  | .int .., v, h => h
  | .bool .., v, h => h
  | .str _, v, h => h
  | .nilp, v, h => h
  | .nils, v, h => h
  | .nilif, v, h => h
  | .nilfn, v, h => h
  | .fn f cs, v, h => by
    obtain ⟨rfl, h⟩ := h
    exact ⟨rfl, h⟩
  | .rptr t d o k, v, h => by
    simp only [keepC]
    split
    · exact single_of h
    · rename_i hf
      exact rpQ (E := cutE E ids) (El := E) rfl (fun _ h => h) hf h
  | .ref _, v, h => refSingle h
  | .ro t xs len, v, h => by
    simp only [keepC]
    split
    · exact single_of h
    rename_i hf
    obtain ⟨a, cap, q2, q3, q4, q5, q6, q7⟩ := h
    refine ⟨a, cap, q2, q3, q4, q5, q6, fun hne => ?_⟩
    obtain ⟨k, off, c, e, fz, g1, g2, g3, g4⟩ := q7 hne
    exact ⟨k, off, c, e, fz, g1, g2, g3, g4.mono fun a us hu => cut_rot hf hu⟩
  | .ifd T t d, v, h => by
    simp only [keepC]
    split
    · exact single_of h
    rename_i hf
    obtain ⟨cs, rfl, h⟩ := h
    exact ⟨cs, rfl, cut_rot hf h⟩
  | .ifc t x, v, h => by
    obtain ⟨u, rfl, h⟩ := h
    simp only [keepC]
    split
    · rename_i hr
      exact ⟨u, rfl, cut_noRefs hr h⟩
    · exact ⟨u, rfl, cut_c h⟩
  | .ptr b i es o k n, v, h => by
    obtain ⟨h1, h2⟩ := h
    simp only [keepC]
    split
    · rename_i j hj
      exact ⟨h1, cut_ptr (place_some hj) h2⟩
    · exact h1
  | .sl b off len, v, h => by
    obtain ⟨h1, h2⟩ := h
    simp only [keepC]
    split
    · rename_i j hj
      refine ⟨h1, ?_⟩
      obtain ⟨g1, g2⟩ := cut_some (E := E) (place_some hj)
      unfold RelSl at h2 ⊢
      rw [g1]
      cases hk : getB E.H b <;> rw [hk] at h2
      · exact h2.elim
      · rcases keepB_arr (ids := ids) with ⟨_, hq⟩ | ⟨_, lo', hq, _⟩ <;> rw [hq]
        · exact SlAt.gone h2
        obtain ⟨a, cap, q1, q2, q3, q4, q5⟩ := h2
        exact ⟨a, cap, q1, q2, q3, q4, by rw [g2]; exact q5⟩
      · rcases keepB_frz (ids := ids) with ⟨_, hq⟩ | ⟨_, hq⟩ <;> rw [hq]
        · exact SlAt.gone h2
        obtain ⟨a, cap, q1, q2, q3, q4, q5⟩ := h2
        exact ⟨a, cap, q1, q2, q3, q4, by rw [g2]; exact q5⟩
      · exact h2
      · exact h2.elim
    · exact h1
  | .sla b o n off len, v, h => by
    obtain ⟨h1, h2⟩ := h
    simp only [keepC]
    split
    · rename_i j hj
      refine ⟨h1, ?_⟩
      obtain ⟨g1, g2⟩ := cut_some (E := E) (place_some hj)
      unfold RelSla at h2 ⊢
      rw [g1]
      cases hk : getB E.H b <;> rw [hk] at h2
      · obtain ⟨a, cap, q1, q2, q3, q4, q5⟩ := h2
        exact ⟨a, cap, q1, q2, q3, q4, by rw [g2]; exact q5⟩
      · exact h2.elim
      · exact h2.elim
      · exact h2
      · exact h2.elim
    · exact h1

theorem cut_fs : ∀ {fs : List FCell} {vs : List Value}, RelFs E fs vs → RelFs (cutE E ids) (keepF ids fs) vs
  | [], vs, h => h
  | .c x :: fs, vs, h => by
    obtain ⟨v1, v2, rfl, ⟨v, rfl, h1⟩, h2⟩ := h
    exact ⟨[v], v2, rfl, ⟨v, rfl, cut_c h1⟩, cut_fs h2⟩
  | .ws k n xs :: fs, vs, h => by
    obtain ⟨v1, v2, rfl, h1, h2⟩ := h
    exact ⟨v1, v2, rfl, h1, cut_fs (fs := fs) h2⟩

theorem cut_v {x : V1} {v : Value} (h : RelV E x v) : RelV (cutE E ids) (keepV ids x) v := by
  cases x with
  | c x => exact cut_c h
  | g fs => obtain ⟨cs, rfl, h⟩ := h; exact ⟨cs, rfl, cut_fs h⟩

theorem cut_vs : ∀ {xs : List V1} {vs : List Value}, RelVs E xs vs → RelVs (cutE E ids) (xs.map (keepV ids)) vs
  | [], _, h => h
  | x :: xs, vs, h => by
    obtain ⟨u, us, rfl, h1, h2⟩ := h
    exact ⟨u, us, rfl, cut_v h1, cut_vs h2⟩

theorem cut_s {x : SV} {v : Value} (h : RelS E x v) : RelS (cutE E ids) (keepS ids x) v := by
  cases x with
  | any => trivial
  | one x => exact cut_v h
  | tup xs => obtain ⟨us, rfl, h⟩ := h; exact ⟨us, rfl, cut_vs h⟩

theorem cut_t {keep : List Nat} : ∀ {n : Nat} {t : List SV} {l : List Value}, RelTs E t l → RelTs (cutE E ids) (keepT keep ids n t) l
  | _, [], _, h => h
  | n, x :: t, l, h => by
    obtain ⟨u, us, rfl, h1, h2⟩ := h
    refine ⟨u, us, rfl, ?_, cut_t h2⟩
    split
    · exact cut_s h1
    · trivial

theorem cut_rep (hE : RepH G E) (hnd : ids.Nodup) : RepH G (cutE E ids) where
  ro := fun k hk => ⟨(hE.ro k hk).1, fun j hj hjk => by
    obtain ⟨b, h1, h2, h3, _⟩ := cut_live hj
    rw [h3] at hjk
    exact (hE.ro k hk).2 b h2 hjk⟩
  inj := fun j j' k hj hj' hk hk' => by
    obtain ⟨b, h1, h2, h3, _⟩ := cut_live hj
    obtain ⟨b', h1', h2', h3', _⟩ := cut_live hj'
    rw [h3] at hk
    rw [h3'] at hk'
    have := hE.inj b b' k h2 h2' hk hk'
    subst this
    exact (List.getElem?_inj (List.getElem?_eq_some_iff.1 h1).1 hnd).1 (h1.trans h1'.symm)
  blk := fun j => by
    cases hj : ids[j]? with
    | none => rw [(cut_none hj).1]; trivial
    | some b =>
      obtain ⟨h1, h2⟩ := cut_some (E := E) hj
      rw [h1]
      have hb := hE.blk b
      cases hk : getB E.H b with
      | vals fs =>
        rw [hk] at hb
        obtain ⟨k, c, e, fz, q1, q2, q3, q4⟩ := hb
        exact ⟨k, c, e, fz, h2.trans q1, q2, q3, cut_fs q4⟩
      | arr t xs lo par =>
        rw [hk] at hb
        obtain ⟨q1, q2, q3⟩ := hb
        rcases keepB_arr (ids := ids) (t := t) (xs := xs) (lo := lo) (par := par) with ⟨_, hq⟩ | ⟨hf, lo', hq, hl, _⟩ <;> rw [hq]
        · trivial
        refine ⟨by omega, q2, ?_⟩
        rcases q3 with ⟨q3, q4⟩ | ⟨k, c, e, fz, q3, q4, q5, q6⟩
        · exact .inl ⟨h2.trans q3, q4⟩
        · exact .inr ⟨k, c, e, fz, h2.trans q3, q4, q5, q6.mono fun a us hu => cut_rot hf hu⟩
      | frz t xs =>
        rw [hk] at hb
        obtain ⟨q2, q3⟩ := hb
        rcases keepB_frz (ids := ids) (t := t) (xs := xs) with ⟨_, hq⟩ | ⟨hf, hq⟩ <;> rw [hq]
        · trivial
        refine ⟨q2, ?_⟩
        rcases q3 with ⟨q3, q4⟩ | ⟨k, c, e, fz, q3, q4, q5, q6⟩
        · exact .inl ⟨h2.trans q3, q4⟩
        · refine .inr ⟨k, c, e, fz, h2.trans q3, q4, q5.mono fun a us hu => cut_rot hf hu, fun j' hl' hk' => ?_⟩
          obtain ⟨b', g1, g2, g3, g4⟩ := cut_live hl'
          rw [g3] at hk'
          obtain ⟨xs', lo, par, z1, z2, z3⟩ := q6 b' g2 hk'
          obtain ⟨_, lo', hq, _, hl⟩ := (keepB_arr (ids := ids) (t := t) (xs := xs') (lo := lo) (par := par)).resolve_left (fun h => by rw [hf] at h; cases h.1)
          have hmem : j ∈ passPar ids par := ?_
          · exact ⟨xs', lo', passPar ids par, by rw [g4, z1, hq], hmem, by rw [hl (List.ne_nil_of_mem hmem)]; exact z3⟩
          refine List.mem_filterMap.2 ⟨b, z2, ?_⟩
          cases hp : place ids b with
          | none => exact (place_none hp (List.mem_of_getElem? hj)).elim
          | some i =>
            have hi := place_some hp
            rw [(List.getElem?_inj (List.getElem?_eq_some_iff.1 hi).1 hnd).1 (hi.trans hj.symm)]
      | gone => trivial
      | dead => trivial
  glob := fun g t d hg => ⟨rpQ (E := cutE E ids) (El := E) rfl (fun _ h => h) (hE.glob g t d hg).2 (hE.glob g t d hg).1, (hE.glob g t d hg).2⟩

theorem idsOk_spec {m : Nat} (h : idsOk m ids = true) : ids.Nodup ∧ ∀ j, j < m → ids[j]? = some j := by
  simp only [idsOk, Bool.and_eq_true, beq_iff_eq] at h
  refine ⟨nodup_of h.1, fun j hj => ?_⟩
  have : (ids.take m)[j]? = some j := by rw [h.2, List.getElem?_range hj]
  rw [List.getElem?_take, if_pos hj] at this
  exact this

theorem cut_ext {m : Nat} (x : Ext E0 E) (hm : ∀ j, j < m → ids[j]? = some j) (hl : E0.H.length ≤ m) : Ext E0 (cutE E ids) where
  os := x.os
  tape := x.tape
  output := x.output
  size := x.size
  ro := x.ro
  rnew := x.rnew
  keep := x.keep
  cells := x.cells
  blk := fun b => by
    rcases Nat.lt_or_ge b m with hb | hb
    · obtain ⟨h1, h2⟩ := cut_some (E := E) (hm b hb)
      rw [h1]
      have := x.blk b
      cases h3 : getB E0.H b <;> cases h4 : getB E.H b <;> rw [h3, h4] at this <;> (try (rcases keepB_arr (ids := ids) with ⟨_, hq⟩ | ⟨_, lo', hq, _⟩ <;> rw [hq])) <;> (try (rcases keepB_frz (ids := ids) with ⟨_, hq⟩ | ⟨_, hq⟩ <;> rw [hq])) <;> first | exact this.elim | trivial | exact h2.trans this | exact ⟨this.1, this.2.1, h2.trans this.2.2⟩
    · have : getB E0.H b = .dead := by rw [getB_eq, List.getElem?_eq_none (by omega)]; rfl
      rw [this]; trivial
  fresh := fun j k hj hk => by
    obtain ⟨b, h1, h2, h3, _⟩ := cut_live hj
    rw [h3] at hk
    exact x.fresh b k h2 hk

theorem cut_rp {keep : List Nat} {s : St} {a : Act} (hnd : ids.Nodup) (h : Rp G E s a) : Rp G (cutE E ids) (s.cut keep ids) a where
  h := cut_rep h.h hnd
  eq := by
    show ids.map _ = ids.map _
    rw [h.eq]
  t := cut_t h.t
  d := h.d

/-! ### Results -/
theorem resV_sound {s : St} {a : Act} (hs : Rp G E s a) {rv : ResultVar} {v : V1} (h : resV P s rv = some v) :
    match rv with
    | .tmp t => RelV E v (a.tmps.getD t undef)
    | .cell t T => ∃ q u, a.tmps.getD t undef = .pointer (some q) ∧ (loadVar T q).run P E.w = .ok u E.w ∧ RelV E v u := by
  have hget : ∀ t, RelS E (getT s.t t) (a.tmps.getD t undef) := fun t => by
    have := relTs_get (u := t) hs.t
    rwa [List.getD_eq_getElem?_getD, Array.getElem?_toList, ← Array.getD_eq_getD_getElem?] at this
  cases rv with
  | tmp t =>
    simp only [resV] at h
    have := hget t
    split at h
    · rename_i v' hv
      obtain rfl := Option.some.inj h
      rw [hv] at this
      exact this
    · cases h
  | cell t T =>
    simp only [resV] at h
    have hp := hget t
    split at h
    · rename_i b hv
      rw [hv] at hp
      split at h
      · rename_i fs hb
        split at h
        · rename_i v' hl
          obtain rfl := Option.some.inj h
          have hb : getB E.H b = .vals fs := by rw [hs.eq]; exact hb
          obtain ⟨_, hp⟩ := hp
          unfold RelPtr at hp
          rw [hb] at hp
          obtain ⟨⟨kb, h3, h5⟩, h4⟩ := hp
          obtain ⟨k', c, e, fz, g1, g2, g3, g4⟩ := hs.h.vals hb
          rw [h3] at g1
          obtain rfl := Option.some.inj g1
          obtain ⟨u, q1, _, q3⟩ := loadF_sound (r := (.one v', [])) hs.h (by rw [hl]; rfl) h4 g4 (vals_at g2)
          exact ⟨_, u, h5, by rw [Nat.zero_mul]; exact q1, q3⟩
        · cases h
      · cases h
    · cases h

theorem resL_sound {s : St} {g : ResultVar → Sem Value} (hg : ∀ rv v, resV P s rv = some v → ∃ u, (g rv).run P E.w = .ok u E.w ∧ RelV E v u) : ∀ {l : List ResultVar} {vs : List V1}, mapO (resV P s) l = some vs →
    ∃ us, (l.mapM g).run P E.w = .ok us E.w ∧ RelVs E vs us
  | [], vs, h => by
    obtain rfl := Option.some.inj h
    exact ⟨[], rfl, rfl⟩
  | x :: l, vs, h => by
    simp only [mapO] at h
    split at h
    · rename_i y r h1 h2
      obtain rfl := Option.some.inj h
      obtain ⟨u, q1, q2⟩ := hg x y h1
      obtain ⟨us, q3, q4⟩ := resL_sound hg h2
      exact ⟨u :: us, by simp [List.mapM_cons, q1, q3], u, us, rfl, q2, q4⟩
    · cases h

theorem relVs_len : ∀ {vs : List V1} {us : List Value}, RelVs E vs us → us.length = vs.length
  | [], us, h => by have h : us = [] := h; subst h; rfl
  | v :: vs, us, h => by obtain ⟨u, us', rfl, _, h⟩ := h; simp [relVs_len h]

theorem resA_sound {s : St} {g : ResultVar → Sem Value} (hg : ∀ rv v, resV P s rv = some v → ∃ u, (g rv).run P E.w = .ok u E.w ∧ RelV E v u) {fn : Func} {v : SV} (h : resS P fn s = some v) :
    ∃ u, (do let vs ← fn.results.mapM g; pure (if h : vs.size = 1 then vs[0] else .tuple vs) : Sem Value).run P E.w = .ok u E.w ∧ RelS E v u := by
  rw [Array.mapM_eq_mapM_toList]
  unfold resS at h
  cases hm : mapO (resV P s) fn.results.toList with
  | none => rw [hm] at h; cases h
  | some vs =>
    rw [hm] at h
    obtain ⟨us, h1, h2⟩ := resL_sound hg hm
    have hlen := relVs_len h2
    match vs, h2, hlen, h with
    | [w], h2, hlen, h =>
      obtain rfl := Option.some.inj h
      obtain ⟨u, us', rfl, h3, rfl⟩ := h2
      refine ⟨u, ?_, h3⟩
      simp only [Sem.run_bind, Sem.run_map, h1, Result.andThen_ok]
      simp
    | [], h2, hlen, h =>
      obtain rfl := Option.some.inj h
      refine ⟨.tuple us.toArray, ?_, us.toArray, rfl, by simpa using h2⟩
      simp only [Sem.run_bind, Sem.run_map, h1, Result.andThen_ok]
      simp at hlen
      simp [hlen]
    | x :: y :: vs, h2, hlen, h =>
      obtain rfl := Option.some.inj h
      refine ⟨.tuple us.toArray, ?_, us.toArray, rfl, by simpa using h2⟩
      simp only [Sem.run_bind, Sem.run_map, h1, Result.andThen_ok]
      simp [hlen]

theorem resS_sound {s : St} {a : Act} (hs : Rp G E s a) {fn : Func} {v : SV} (h : resS P fn s = some v) : ∃ u, (results fn a.tmps).run P E.w = .ok u E.w ∧ RelS E v u := by
  unfold results
  refine resA_sound (fun rv v hv => ?_) h
  have := resV_sound hs hv
  cases rv with
  | tmp t => exact ⟨_, rfl, this⟩
  | cell t T =>
    obtain ⟨q, u, h1, h2, h3⟩ := this
    refine ⟨u, ?_, h3⟩
    show (do loadVar T (← asAddr (a.tmps.getD t undef)) : Sem Value).run P E.w = _
    rw [h1]
    simpa [asAddr] using h2

/-! ### Bodies -/
/-- the machine is at the body's end, and yields this -/
def FinOk (P : Program) (G : GlobT) (fn : Func) (E0 : Env) (v : SV) (hl : Heap) (a : Act) (w : World) : Prop :=
  a.defers = [] ∧ ∀ w₁, Grow w w₁ → ∃ u, (results fn a.tmps).run P w₁ = .ok u w₁ ∧ ∃ β' R', RepH G ⟨β', hl, w₁, R'⟩ ∧ Ext E0 ⟨β', hl, w₁, R'⟩ ∧ RelS ⟨β', hl, w₁, R'⟩ v u

/-- from this state on, with this to do, the body yields v and leaves hl behind; m: so many blocks were handed over -/
def Runs (P : Program) (S : Tab) (fn : Func) (m : Nat) (is : List Item) (s : St) (v : SV) (hl : Heap) : Prop :=
  ∀ (E0 E : Env) (a : Act), Ext E0 E → E0.H.length ≤ m → Rp S.gl E s a → ItemsWp P (FinOk P S.gl fn E0 v hl) is a E.w

theorem fin_sound {fn : Func} {m : Nat} {s : St} {a : Act} {v : SV} {hl : Heap} (hs : Rp G E s a) (x : Ext E0 E) (hm : E0.H.length ≤ m) (hids : idsOk m ids = true) (h : finR P fn ids s = some (v, hl)) : FinOk P G fn E0 v hl a E.w := by
  unfold finR at h
  split at h
  · rename_i v' hv
    simp only [Option.some.injEq, Prod.mk.injEq] at h
    obtain ⟨rfl, rfl⟩ := h
    obtain ⟨h1, h2⟩ := idsOk_spec hids
    refine ⟨hs.d, fun w₁ g => ?_⟩
    obtain ⟨x1, hs1⟩ := hs.grow g
    obtain ⟨u, q1, q2⟩ := resS_sound hs1 hv
    have x := x.trans x1
    have hH : (cutE ⟨E.β, E.H, w₁, E.R⟩ ids).H = ids.map fun b => keepB ids (getB s.h b) := by
      show ids.map _ = _
      rw [← hs.eq]
    refine ⟨u, q1, (cutE ⟨E.β, E.H, w₁, E.R⟩ ids).β, E.R, ?_, ?_, ?_⟩
    · have := cut_rep (ids := ids) hs1.h h1
      show RepH G ⟨_, ids.map fun b => keepB ids (getB s.h b), _, _⟩
      rw [← hH]; exact this
    · have := cut_ext x h2 hm
      show Ext E0 ⟨_, ids.map fun b => keepB ids (getB s.h b), _, _⟩
      rw [← hH]; exact this
    · have := cut_s (ids := ids) q2
      show RelS ⟨_, ids.map fun b => keepB ids (getB s.h b), _, _⟩ _ _
      rw [← hH]; exact this
  · cases h

theorem Runs.run (hsp : SpecOk P S) (hmx : P.follows .mixedOrders = true) {un : Code → Bool} {n m : Nat} {fn : Func} {is : List Item} {s : St} {v : SV} {hl : Heap} {out : Out} (h : (runK S P un n is s).val = some out)
    (hout : match out with | .fin s' => ∃ ids, idsOk m ids = true ∧ finR P fn ids s' = some (v, hl) | .stop k s' => Runs P S fn m k s' v hl) : Runs P S fn m is s v hl := by
  intro E0 E a x hm hs
  refine runK_sound hsp hmx n h hs (fun E' a' x' => ?_)
  cases out with
  | fin s' =>
    intro hs'
    obtain ⟨ids, h1, h2⟩ := hout
    exact fin_sound hs' (x.trans x') hm h1 h2
  | stop k s' =>
    intro hs'
    exact hout E0 E' a' (x.trans x') hm hs'

/-- what is forgotten does no harm -/
theorem Runs.cut {fn : Func} {m : Nat} {is : List Item} {s : St} {v : SV} {hl : Heap} (keep : List Nat) (ids : List Nat) (hids : idsOk m ids = true) (h : Runs P S fn m is (s.cut keep ids) v hl) : Runs P S fn m is s v hl := by
  intro E0 E a x hm hs
  obtain ⟨h1, h2⟩ := idsOk_spec hids
  exact h E0 (cutE E ids) a (cut_ext x h2 hm) hm (cut_rp h1 hs)

theorem relVs_one : ∀ {vs : List V1} {us : List Value} {n : Nat}, RelVs E vs us → RelTs E (vs.map SV.one ++ List.replicate n SV.any) (us ++ List.replicate n undef)
  | [], us, n, h => by
    have h : us = [] := h
    subst h
    induction n with
    | zero => rfl
    | succ n ih => exact ⟨undef, _, rfl, trivial, ih⟩
  | v :: vs, us, n, h => by
    obtain ⟨u, us', rfl, h1, h2⟩ := h
    exact ⟨u, _, rfl, h1, relVs_one h2⟩

/-- a body's answer is the function's -/
theorem Runs.spec {f : FuncId} {fn : Func} {c : Code} {vs : List V1} {hl hl' : Heap} {v : SV} (hf : P.funcs[f]? = some fn) (hb : fn.body = some c) (hn : (fn.name == "runtime.NumGoroutine") = false)
    (h : Runs P S fn hl.length [.code c] ⟨enterT fn vs, hl⟩ v hl') (E : Env) (us : Array Value) (hE : E.H = hl) (hr : RepH S.gl E) (hv : RelVs E vs us.toList) :
    CallP P f us E.w fun u w' => ∃ β' R', RepH S.gl ⟨β', hl', w', R'⟩ ∧ Ext E ⟨β', hl', w', R'⟩ ∧ RelS ⟨β', hl', w', R'⟩ v u := by
  left
  constructor
  · have hn' : ¬ fn.name = "runtime.NumGoroutine" := by simpa using hn
    simp [callFunc, hf, hn', hb]
  · intro main Stop cs hk
    have hlen := relVs_len hv
    have hs : Rp S.gl E ⟨enterT fn vs, hl⟩ { tmps := us ++ Array.replicate (fn.ntmps - us.size) undef, defers := [] } := {
      h := hr
      eq := hE
      t := by
        have := relVs_one (n := fn.ntmps - vs.length) hv
        have hlen' : us.size = vs.length := by simpa using hlen
        simpa [enterT, hlen'] using this
      d := rfl }
    rw [Conc.enter_at us hf hb]
    have key := h E E _ (Ext.refl E) (by rw [hE]; exact Nat.le_refl _) hs main Stop (Conc.base f) [] cs rfl
    rw [List.append_nil] at key
    have leave : ∀ (todo : List Item) (a' : Act) (w' : World), FinOk P S.gl fn E v hl' a' w' → Way P main Stop (Conc.G { (Conc.base f).at a' todo with mode := .returning } cs) w' := fun todo a' w' hF =>
      hk _ w' ⟨rfl, rfl, rfl, hF.1, fn, hf, fun w₁ g => let ⟨u, h3, h4⟩ := hF.2 w₁ g; ⟨u, h3, h4⟩⟩
    refine key (fun g a' w' hl q => ?_)
    cases hl with
    | on => exact Way.ctl rfl (fun _ => Conc.stepG_end) (leave [] a' w' q)
    | ret todo => exact leave todo a' w' q

/-- an entry of a table -/
def EntryOk (P : Program) (G : GlobT) (f : FuncId) (T : List V1 → Heap → Tree (SV × Heap)) : Prop :=
  ∀ vs hl r hl', (T vs hl).val = some (r, hl') → ∀ (E : Env) (us : Array Value), E.H = hl → RepH G E → RelVs E vs us.toList →
    CallP P f us E.w fun u w' => ∃ β' R', RepH G ⟨β', hl', w', R'⟩ ∧ Ext E ⟨β', hl', w', R'⟩ ∧ RelS ⟨β', hl', w', R'⟩ r u

theorem SpecOk.put {f : FuncId} {k : Nat} {T : List V1 → Heap → Tree (SV × Heap)} (h : SpecOk P S) (hT : EntryOk P S.gl f T) : SpecOk P (S.put f k T) := by
  intro g vs hl r hl' hr E us
  by_cases hg : g = f
  · subst hg
    have : ((S.put g k T).T g) = T := by simp [Tab.put]
    rw [this] at hr
    exact hT vs hl r hl' hr E us
  · have : ((S.put f k T).T g) = S.T g := by simp [Tab.put, hg]
    rw [this] at hr
    exact h g vs hl r hl' hr E us

theorem SpecOk.empty {gl : GlobT} : SpecOk P (Tab.empty gl) := fun _ _ _ _ _ h => by cases h

theorem finT_spec {fn : Func} {m : Nat} {s : St} {r : SV × Heap} (h : (finT P fn m s).val = some r) : ∃ ids, idsOk m ids = true ∧ finR P fn ids s = some r := by
  unfold finT at h
  split at h
  · cases h
  · rename_i v hv
    simp only at h
    split at h
    · rename_i hok
      split at h
      · rename_i r' hr
        obtain rfl := val_ret h
        exact ⟨_, hok, hr⟩
      · cases h
    · cases h

/-- a body that is run through is an entry -/
theorem bodyT_ok (hsp : SpecOk P S) (hmx : P.follows .mixedOrders = true) {un : Code → Bool} {f : FuncId} {fn : Func} {c : Code} (hf : P.funcs[f]? = some fn) (hb : fn.body = some c) (hn : (fn.name == "runtime.NumGoroutine") = false) : EntryOk P S.gl f (bodyT S P un fn c) := by
  intro vs hl r hl' h
  unfold bodyT at h
  obtain ⟨out, h1, h2⟩ := val_bind h
  refine Runs.spec hf hb hn (Runs.run hsp hmx h1 ?_)
  cases out with
  | fin s => exact finT_spec h2
  | stop k s => cases h2
end Go.SX
