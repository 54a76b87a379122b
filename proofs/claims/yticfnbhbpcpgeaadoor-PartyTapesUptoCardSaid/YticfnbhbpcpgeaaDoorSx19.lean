/-
  SX, part 19: calls: what the caller sees.
-/
import Derived.Test.YticfnbhbpcpgeaaDoorSx18
namespace Go.SX
open Go
variable {P : Program} {G : GlobT} {E El : Env} {look : Look} {ids : List Nat} {hl : Heap} {Rl R' : Nat → Prop} {shown : List Nat} {nid n : Nat}

theorem getB_setBs_all : ∀ (ws : List (Nat × Blk)) (H : Heap) (b : Nat) (k : Blk), (∀ k', (b, k') ∈ ws → k' = k) → b < H.length → ((∃ k', (b, k') ∈ ws) ∨ getB H b = k) → getB (setBs H ws) b = k
  | [], H, b, k, _, _, h => by
    rcases h with ⟨_, h⟩ | h
    · cases h
    · exact h
  | (c, kc) :: ws, H, b, k, hall, hlen, h => by
    refine getB_setBs_all ws _ b k (fun k' hk => hall k' (List.mem_cons_of_mem _ hk)) (by rw [length_setB]; exact hlen) ?_
    by_cases hc : b = c
    · subst hc
      right
      rw [getB_setB_same hlen]
      exact hall kc List.mem_cons_self
    · rcases h with ⟨k', h⟩ | h
      · rcases List.mem_cons.1 h with h | h
        · cases h; exact (hc rfl).elim
        · exact .inl ⟨k', h⟩
      · right; rw [getB_setB_ne hc]; exact h

theorem mem_writes {ren : Nat → Nat} : ∀ {bs : Heap} {i b : Nat} {k : Blk}, (b, k) ∈ writes ids nid ren i bs ↔ ∃ m blk, bs[m]? = some blk ∧ b = renOf ids nid (i + m) ∧ k = backB ren blk
  | [], i, b, k => by simp [writes]
  | x :: bs, i, b, k => by
    simp only [writes, List.mem_cons]
    constructor
    · rintro (h | h)
      · cases h
        exact ⟨0, x, rfl, rfl, rfl⟩
      · obtain ⟨m, blk, h1, h2, h3⟩ := mem_writes.1 h
        exact ⟨m + 1, blk, by simpa using h1, by rw [h2]; congr 1; omega, h3⟩
    · rintro ⟨m, blk, h1, h2, h3⟩
      cases m with
      | zero =>
        simp at h1; subst h1
        left; rw [h2, h3]; rfl
      | succ m =>
        right
        exact mem_writes.2 ⟨m, blk, by simpa using h1, by rw [h2]; congr 1; omega, h3⟩

/-- the caller's state -/
def caller (E : Env) (ids : List Nat) (nid : Nat) (El : Env) (R' : Nat → Prop) : Env :=
  ⟨fun b => match place ids b with
    | some j => El.β j
    | none => if nid ≤ b ∧ b < nid + (El.H.length - ids.length) then El.β (ids.length + (b - nid)) else E.β b,
   setBs E.H (writes ids nid (renOf ids nid) 0 El.H), El.w, R'⟩

structure BackOk (G : GlobT) (E : Env) (look : Look) (ids : List Nat) (hl : Heap) (Rl : Nat → Prop) (shown : List Nat) (nid n : Nat) (El : Env) (R' : Nat → Prop) : Prop where
  p : PassOk G E look ids hl Rl shown
  hE' : RepH G El
  hx : Ext (callee E ids hl Rl) El
  hfresh : ∀ m, m < n → fresh1 E (nid + m)
  hlen1 : El.H.length ≤ ids.length + n
  hlen2 : ids.length ≤ El.H.length
  r1 : ∀ k, E.R k → R' k
  r2 : ∀ k, R' k → El.R k
  r3 : ∀ k, R' k → E.R k ∨ E.w.heap.size ≤ k ∨ ∃ b, b ∈ ids ∧ live (getB E.H b) = true ∧ E.β b = some k

section
variable (h : BackOk G E look ids hl Rl shown nid n El R')
include h

theorem BackOk.idLive {b : Nat} (hb : b ∈ ids) : live (getB E.H b) = true ∧ (∀ t xs lo par, getB E.H b = .arr t xs lo par → par = []) := by
  obtain ⟨j, hj, rfl⟩ := List.mem_iff_getElem.1 hb
  obtain ⟨blk, q1, q2, q3⟩ := h.p.get (List.getElem?_eq_getElem hj)
  have : live (getB hl j) = true := by
    rw [q2]
    cases hk : look ids[j] with
    | vals fs =>
      rw [hk] at q1
      simp only [passB] at q1
      split at q1
      · rw [← Option.some.inj q1]; rfl
      · cases q1
    | arr t xs lo par =>
      rw [hk] at q1
      cases par with
      | nil => rw [(passB_arr q1).2]; rfl
      | cons _ _ => cases q1
    | frz t xs => rw [hk] at q1; cases q1
    | gone => rw [hk] at q1; cases q1
    | dead => rw [hk] at q1; cases q1
  obtain ⟨b, g1, g2, g3⟩ := h.p.live this
  rw [List.getElem?_eq_getElem hj] at g1
  obtain rfl := Option.some.inj g1
  exact ⟨g2, g3⟩

omit h in
theorem backB_arr {ren : Nat → Nat} {t : DTy} {xs : List t.den} {lo : Nat} {par : List Nat} : (t.rf = true ∧ backB ren (.arr t xs lo par) = .gone) ∨ (t.rf = false ∧ backB ren (.arr t xs lo par) = .arr t xs 0 []) := by
  cases hf : t.rf <;> simp [backB, hf]

theorem BackOk.fresh {j : Nat} (h1 : ids.length ≤ j) (h2 : j < El.H.length) : renOf ids nid j = nid + (j - ids.length) ∧ fresh1 E (nid + (j - ids.length)) ∧ nid + (j - ids.length) ∉ ids := by
  have hf := h.hfresh (j - ids.length) (by have := h.hlen1; omega)
  refine ⟨?_, hf, fun hm => ?_⟩
  · unfold renOf; rw [List.getElem?_eq_none h1]
  · have := (h.idLive hm).1
    rw [hf.2] at this; cases this

theorem BackOk.renLen {j : Nat} (h2 : j < El.H.length) : renOf ids nid j < E.H.length := by
  rcases Nat.lt_or_ge j ids.length with h1 | h1
  · have : renOf ids nid j = ids[j] := by unfold renOf; rw [List.getElem?_eq_getElem h1]
    rw [this]
    exact getB_len (live_ne_dead (h.idLive (List.getElem_mem h1)).1)
  · obtain ⟨q1, q2, _⟩ := h.fresh h1 h2
    rw [q1]; exact q2.1

theorem BackOk.renInj {i j : Nat} (hi : i < El.H.length) (hj : j < El.H.length) (e : renOf ids nid i = renOf ids nid j) : i = j := by
  rcases Nat.lt_or_ge i ids.length with h1 | h1 <;> rcases Nat.lt_or_ge j ids.length with h2 | h2
  · unfold renOf at e
    rw [List.getElem?_eq_getElem h1, List.getElem?_eq_getElem h2] at e
    exact (List.getElem?_inj h1 h.p.hnd).1 (by rw [List.getElem?_eq_getElem h1, List.getElem?_eq_getElem h2]; exact congrArg some e)
  · obtain ⟨q1, _, q3⟩ := h.fresh h2 hj
    rw [q1] at e
    have : renOf ids nid i = ids[i] := by unfold renOf; rw [List.getElem?_eq_getElem h1]
    rw [this] at e
    exact (q3 (e ▸ List.getElem_mem h1)).elim
  · obtain ⟨q1, _, q3⟩ := h.fresh h1 hi
    rw [q1] at e
    have : renOf ids nid j = ids[j] := by unfold renOf; rw [List.getElem?_eq_getElem h2]
    rw [this] at e
    exact (q3 (e ▸ List.getElem_mem h2)).elim
  · obtain ⟨q1, _⟩ := h.fresh h1 hi
    obtain ⟨q2, _⟩ := h.fresh h2 hj
    rw [q1, q2] at e
    omega

theorem BackOk.inB {j : Nat} (hj : j < El.H.length) : getB (caller E ids nid El R').H (renOf ids nid j) = backB (renOf ids nid) (getB El.H j) := by
  have hjj : El.H[j]? = some (getB El.H j) := by rw [getB_eq, List.getElem?_eq_getElem hj]; rfl
  refine getB_setBs_all _ _ _ _ (fun k' hk => ?_) (h.renLen hj) (.inl ⟨_, mem_writes.2 ⟨j, _, hjj, by rw [Nat.zero_add], rfl⟩⟩)
  obtain ⟨m, blk, h1, h2, h3⟩ := mem_writes.1 hk
  rw [Nat.zero_add] at h2
  have hm : m < El.H.length := (List.getElem?_eq_some_iff.1 h1).1
  have := h.renInj hj hm h2
  subst this
  rw [hjj] at h1
  rw [h3, ← Option.some.inj h1]

theorem BackOk.inβ {j : Nat} (hj : j < El.H.length) : (caller E ids nid El R').β (renOf ids nid j) = El.β j := by
  show (match place ids (renOf ids nid j) with | some j => _ | none => _) = _
  rcases Nat.lt_or_ge j ids.length with h1 | h1
  · have hr : renOf ids nid j = ids[j] := by unfold renOf; rw [List.getElem?_eq_getElem h1]
    rw [hr]
    cases hp : place ids ids[j] with
    | none => exact (place_none hp (List.getElem_mem h1)).elim
    | some i =>
      have hi := place_some hp
      have hlt : i < ids.length := (List.getElem?_eq_some_iff.1 hi).1
      have : i = j := (List.getElem?_inj hlt h.p.hnd).1 (hi.trans (List.getElem?_eq_getElem h1).symm)
      rw [this]
  · obtain ⟨q1, q2, q3⟩ := h.fresh h1 hj
    rw [q1]
    cases hp : place ids (nid + (j - ids.length)) with
    | some i => exact (q3 (List.mem_of_getElem? (place_some hp))).elim
    | none =>
      simp only
      rw [if_pos (by omega)]
      congr 1; omega

omit h in
theorem caller_out {b : Nat} (hb : ∀ j, j < El.H.length → renOf ids nid j ≠ b) (hlen : ids.length ≤ El.H.length) : getB (caller E ids nid El R').H b = getB E.H b ∧ (caller E ids nid El R').β b = E.β b := by
  constructor
  · refine getB_setBs_not _ _ _ (fun p hp => ?_)
    obtain ⟨q, k⟩ := p
    obtain ⟨m, blk, h1, h2, h3⟩ := mem_writes.1 hp
    rw [Nat.zero_add] at h2
    intro e
    exact hb m (List.getElem?_eq_some_iff.1 h1).1 (by rw [← h2]; exact e)
  · show (match place ids b with | some j => _ | none => _) = _
    cases hp : place ids b with
    | some i =>
      have hi := place_some hp
      have hlt : i < ids.length := (List.getElem?_eq_some_iff.1 hi).1
      exact (hb i (by omega) (by unfold renOf; rw [hi])).elim
    | none =>
      simp only
      rw [if_neg]
      intro hc
      refine hb (ids.length + (b - nid)) (by omega) ?_
      unfold renOf
      rw [List.getElem?_eq_none (by omega)]
      show nid + (ids.length + (b - nid) - ids.length) = b
      omega

theorem BackOk.sort (b : Nat) : (∃ j, j < El.H.length ∧ b = renOf ids nid j ∧ getB (caller E ids nid El R').H b = backB (renOf ids nid) (getB El.H j) ∧ (caller E ids nid El R').β b = El.β j) ∨
    (b ∉ ids ∧ getB (caller E ids nid El R').H b = getB E.H b ∧ (caller E ids nid El R').β b = E.β b) := by
  by_cases hb : ∃ j, j < El.H.length ∧ renOf ids nid j = b
  · obtain ⟨j, hj, rfl⟩ := hb
    exact .inl ⟨j, hj, rfl, h.inB hj, h.inβ hj⟩
  · have hb' : ∀ j, j < El.H.length → renOf ids nid j ≠ b := fun j hj e => hb ⟨j, hj, e⟩
    refine .inr ⟨fun hm => ?_, caller_out hb' h.hlen2⟩
    obtain ⟨j, hj, rfl⟩ := List.mem_iff_getElem.1 hm
    exact hb' j (by have := h.hlen2; omega) (by unfold renOf; rw [List.getElem?_eq_getElem hj])

omit h in
theorem live_backB {ren : Nat → Nat} {k : Blk} (hl : live (backB ren k) = true) : live k = true := by
  cases k <;> first | rfl | cases hl

omit h in
theorem BackOk.idx {j : Nat} (hj : live (getB El.H j) = true) : j < El.H.length := getB_len (live_ne_dead hj)

/-- a live block at the callee's end: one that was handed over, or new -/
theorem BackOk.from_ {j k : Nat} (hj : live (getB El.H j) = true) (hk : El.β j = some k) : (∃ b ∈ ids, live (getB E.H b) = true ∧ E.β b = some k) ∨ E.w.heap.size ≤ k := by
  rcases h.hx.fresh j k hj hk with ⟨b0, h1, h2⟩ | h1
  · obtain ⟨b, g1, g2, _⟩ := h.p.live h1
    rw [PassOk.beta g1] at h2
    exact .inl ⟨b, List.mem_of_getElem? g1, g2, h2⟩
  · exact .inr h1

/-- outside blocks' memory is none of the callee's -/
theorem BackOk.outside {b k j : Nat} (hb : b ∉ ids) (hlb : live (getB E.H b) = true) (hk : E.β b = some k) (hj : live (getB El.H j) = true) : El.β j ≠ some k := by
  intro hjk
  rcases h.from_ hj hjk with ⟨c, h1, h2, h3⟩ | h1
  · exact hb (h.p.hE.inj b c k hlb h2 hk h3 ▸ h1)
  · have := h.p.hE.lt hlb hk; omega

theorem BackOk.outsideF {b k j : Nat} {t : DTy} {xs : List t.den} (hf : getB E.H b = .frz t xs) (hk : E.β b = some k) (hj : live (getB El.H j) = true) : El.β j ≠ some k := by
  intro hjk
  rcases h.from_ hj hjk with ⟨c, h1, h2, h3⟩ | h1
  · obtain ⟨xs', lo, par, q1, q2, _⟩ := h.p.hE.shares hf hk h2 h3
    rw [(h.idLive h1).2 _ _ _ _ q1] at q2; cases q2
  · have hbb := h.p.hE.blk b
    rw [hf] at hbb
    rcases hbb.2 with ⟨h2, _⟩ | ⟨k', c, e, fz, h2, h3, _⟩
    · rw [h2] at hk; cases hk
    · rw [h2] at hk; obtain rfl := Option.some.inj hk; have := (Array.getElem?_eq_some_iff.1 h3).1; omega

/-- memory that none of the live blocks handed over holds is as it was -/
theorem BackOk.keep {k : Nat} (hk : k < E.w.heap.size) (hno : ∀ b ∈ ids, live (getB E.H b) = true → E.β b ≠ some k) : El.w.heap[k]? = E.w.heap[k]? := by
  refine h.hx.keep k hk (fun j hj hjk => ?_)
  obtain ⟨b, g1, g2, _⟩ := h.p.live hj
  rw [PassOk.beta g1] at hjk
  exact hno b (List.mem_of_getElem? g1) g2 hjk

theorem BackOk.ext : Ext E (caller E ids nid El R') where
  os := h.hx.os
  tape := h.hx.tape
  output := h.hx.output
  size := h.hx.size
  ro := h.r1
  rnew := fun k hk => by
    rcases h.r3 k hk with h1 | h1 | ⟨b, _, h1, h2⟩
    · exact .inl h1
    · exact .inr (.inl h1)
    · exact .inr (.inr ⟨b, h1, h2⟩)
  keep := fun k hk hno => h.keep hk fun b _ hl => hno b hl
  cells := h.hx.cells
  blk := fun b => by
    rcases h.sort b with ⟨j, hj, rfl, h1, h2⟩ | ⟨_, h1, h2⟩
    · rw [h1]
      rcases Nat.lt_or_ge j ids.length with hl1 | hl1
      · have hr : renOf ids nid j = ids[j] := by unfold renOf; rw [List.getElem?_eq_getElem hl1]
        rw [hr] at h2 ⊢
        have hb := h.hx.blk j
        obtain ⟨blk, q1, q2, q3⟩ := h.p.get (List.getElem?_eq_getElem hl1)
        have hβ := PassOk.beta (E := E) (hl := hl) (Rl := Rl) (List.getElem?_eq_getElem hl1)
        have q2' : getB (callee E ids hl Rl).H j = blk := q2
        rw [q2'] at hb
        rw [← q3]
        cases hk : look ids[j] with
        | vals fs =>
          rw [hk] at q1
          simp only [passB] at q1
          split at q1
          · rw [← Option.some.inj q1] at hb
            cases hk' : getB El.H j <;> rw [hk'] at hb <;> try (exact hb.elim)
            · exact h2.trans (Eq.trans (show El.β j = (callee E ids hl Rl).β j from hb) hβ)
            · trivial
          · cases q1
        | arr t xs lo par =>
          rw [hk] at q1
          cases par with
          | nil =>
            rw [(passB_arr q1).2] at hb
            cases hk' : getB El.H j <;> rw [hk'] at hb <;> try (exact hb.elim)
            · rcases backB_arr (ren := renOf ids nid) with ⟨_, e⟩ | ⟨_, e⟩ <;> rw [e]
              · trivial
              · exact ⟨hb.1, hb.2.1, h2.trans (hb.2.2.trans hβ)⟩
            · trivial
            · trivial
          | cons _ _ => cases q1
        | frz t xs => rw [hk] at q1; cases q1
        | gone => rw [hk] at q1; cases q1
        | dead => trivial
      · obtain ⟨q1, q2, _⟩ := h.fresh hl1 hj
        rw [q1, q2.2]; trivial
    · rw [h1]
      cases getB E.H b <;> first | exact h2 | trivial | exact ⟨rfl, Nat.le_refl _, h2⟩
  fresh := fun b k hb hk => by
    rcases h.sort b with ⟨j, hj, rfl, h1, h2⟩ | ⟨_, h1, h2⟩
    · rw [h1] at hb
      rw [h2] at hk
      rcases h.from_ (live_backB hb) hk with ⟨c, _, q2, q3⟩ | q
      · exact .inl ⟨c, q2, q3⟩
      · exact .inr q
    · rw [h1] at hb
      rw [h2] at hk
      exact .inl ⟨b, hb, hk⟩

/-! Values -/
omit h in
theorem rotQ (h1 : E.w = El.w) : ∀ {t : DTy} {d : t.den} {vs : List Value}, t.rf = false → (t.deep = false ∨ ∀ k, El.R k → E.R k) → RoT El t d vs → RoT E t d vs
  | .unit, _, _, _, _, q => q
  | .int _, _, _, _, _, q => q
  | .bool, _, _, _, _, q => q
  | .str, _, _, _, _, q => q
  | .ws _ _, _, _, _, _, q => q
  | .ref, _, _, hf, _, _ => by cases hf
  | .pair a b, d, vs, hf, hq, q => by
    have hf : (a.rf || b.rf) = false := hf
    rw [Bool.or_eq_false_iff] at hf
    obtain ⟨v1, v2, q1, q2, q3⟩ := q
    have : (a.deep = false ∨ ∀ k, El.R k → E.R k) ∧ (b.deep = false ∨ ∀ k, El.R k → E.R k) := by
      rcases hq with hq | hq
      · simp only [DTy.deep, Bool.or_eq_false_iff] at hq
        exact ⟨.inl hq.1, .inl hq.2⟩
      · exact ⟨.inr hq, .inr hq⟩
    exact ⟨v1, v2, q1, rotQ h1 hf.1 this.1 q2, rotQ h1 hf.2 this.2 q3⟩
  | .sl t, d, vs, hf, hq, q => by
    have hq : ∀ k, El.R k → E.R k := hq.resolve_left (by simp [DTy.deep])
    obtain ⟨v, q1, a, cap, q2, q3, q4, q5, q6, q7⟩ := q
    refine ⟨v, q1, a, cap, q2, q3, q4, q5, q6, fun hne => ?_⟩
    obtain ⟨k, off, c, e, fz, g1, g2, g3, g4⟩ := q7 hne
    exact ⟨k, off, c, e, fz, g1, hq k g2, by rw [h1]; exact g3, g4.mono fun a us hu => rotQ h1 (t := t) hf (.inr hq) hu⟩

omit h in
theorem rpQ (h1 : E.w = El.w) (hq : ∀ k, El.R k → E.R k) {t : DTy} {d : t.den} {o k : Nat} {v : Value} (hf : t.rf = false) (q : RelRp El t d o k v) : RelRp E t d o k v := by
  obtain ⟨kb, off, c, e, fz, us, q1, q2, q3, q4, q5, q6⟩ := q
  exact ⟨kb, off, c, e, fz, us, q1, hq kb q2, by rw [h1]; exact q3, rotQ h1 hf (.inr hq) q4, q5, q6⟩

theorem BackOk.c : ∀ {x : Cell} {v : Value}, (roC x = false ∨ ∀ k, El.R k → R' k) → RelC El x v → RelC (caller E ids nid El R') (backC (renOf ids nid) x) v
  | .any, v, _, hv => hv
  | .int .., v, _, hv => hv
  | .bool .., v, _, hv => hv
  | .str _, v, _, hv => hv
  | .nilp, v, _, hv => hv
  | .nils, v, _, hv => hv
  | .nilif, v, _, hv => hv
  | .nilfn, v, _, hv => hv
  | .fn f cs, v, _, hv => by
    obtain ⟨rfl, hv⟩ := hv
    exact ⟨rfl, hv⟩
  | .rptr t d o k, v, hq, hv => by
    simp only [backC]
    split
    · exact single_of hv
    · rename_i hf
      exact rpQ (E := caller E ids nid El R') (El := El) rfl (hq.resolve_left (by simp [roC])) hf hv
  | .ref d, v, hq, hv => refSingle hv
  | .ro t xs len, v, hq, hv => by
    simp only [backC]
    split
    · exact single_of hv
    rename_i hf
    have hq := hq.resolve_left (by simp [roC])
    obtain ⟨a, cap, q2, q3, q4, q5, q6, q7⟩ := hv
    refine ⟨a, cap, q2, q3, q4, q5, q6, fun hne => ?_⟩
    obtain ⟨k, off, c, e, fz, g1, g2, g3, g4⟩ := q7 hne
    exact ⟨k, off, c, e, fz, g1, hq k g2, g3, g4.mono fun a us hu => rotQ (E := caller E ids nid El R') (El := El) rfl hf (.inr hq) hu⟩
  | .ifc t x, v, hq, hv => by
    obtain ⟨u, rfl, hv⟩ := hv
    exact ⟨u, rfl, BackOk.c hq hv⟩
  | .ifd T t d, v, hq, hv => by
    simp only [backC]
    split
    · exact single_of hv
    rename_i hf
    obtain ⟨cs, rfl, hv⟩ := hv
    refine ⟨cs, rfl, rotQ (E := caller E ids nid El R') (El := El) rfl hf ?_ hv⟩
    rcases hq with hq | hq
    · exact .inl (by simpa [roC] using hq)
    · exact .inr hq
  | .ptr j i es o k m, v, hq, hv => by
    obtain ⟨h1, h2⟩ := hv
    refine ⟨h1, ?_⟩
    unfold RelPtr at h2 ⊢
    by_cases hd : getB El.H j = .dead
    · rw [hd] at h2; exact h2.elim
    have hj := getB_len hd
    rw [h.inB hj]
    have hβ := h.inβ hj
    have hat : PtrAt El j i es o k m v → PtrAt (caller E ids nid El R') (renOf ids nid j) i es o k m v := fun ⟨⟨kb, q1, q2⟩, q3⟩ => ⟨⟨kb, hβ.trans q1, q2⟩, q3⟩
    cases hk : getB El.H j <;> rw [hk] at h2
    · exact hat h2
    · rcases backB_arr (ren := renOf ids nid) with ⟨_, e⟩ | ⟨_, e⟩ <;> rw [e]
      · exact h2.1
      · exact ⟨h2.1, fun e => hat (h2.2.1 e), h2.2.2⟩
    · exact h2.1
    · exact h2
    · exact h2.elim
  | .sl j off len, v, hq, hv => by
    obtain ⟨h1, h2⟩ := hv
    refine ⟨h1, ?_⟩
    unfold RelSl at h2 ⊢
    by_cases hd : getB El.H j = .dead
    · rw [hd] at h2; exact h2.elim
    have hj := getB_len hd
    rw [h.inB hj]
    have hβ := h.inβ hj
    cases hk : getB El.H j <;> rw [hk] at h2
    · exact h2.elim
    · rcases backB_arr (ren := renOf ids nid) with ⟨_, e⟩ | ⟨_, e⟩ <;> rw [e]
      · exact SlAt.gone h2
      · obtain ⟨a, cap, q1, q2, q3, q4, q5⟩ := h2
        refine ⟨a, cap, q1, q2, q3, q4, ?_⟩
        rw [hβ]; exact q5
    · exact SlAt.gone h2
    · exact h2
    · exact h2.elim
  | .sla j o m off len, v, hq, hv => by
    obtain ⟨h1, h2⟩ := hv
    refine ⟨h1, ?_⟩
    unfold RelSla at h2 ⊢
    by_cases hd : getB El.H j = .dead
    · rw [hd] at h2; exact h2.elim
    have hj := getB_len hd
    rw [h.inB hj]
    have hβ := h.inβ hj
    cases hk : getB El.H j <;> rw [hk] at h2
    · obtain ⟨a, cap, q1, q2, q3, q4, q5⟩ := h2
      refine ⟨a, cap, q1, q2, q3, q4, ?_⟩
      rw [hβ]; exact q5
    · exact h2.elim
    · exact h2.elim
    · exact h2
    · exact h2.elim

theorem BackOk.fs : ∀ {fs : List FCell} {vs : List Value}, (roF fs = false ∨ ∀ k, El.R k → R' k) → RelFs El fs vs → RelFs (caller E ids nid El R') (backF (renOf ids nid) fs) vs
  | [], vs, _, hv => hv
  | .c x :: fs, vs, hq, hv => by
    obtain ⟨v1, v2, rfl, ⟨v, rfl, q1⟩, q2⟩ := hv
    have : (roC x = false ∨ ∀ k, El.R k → R' k) ∧ (roF fs = false ∨ ∀ k, El.R k → R' k) := by
      rcases hq with hq | hq
      · simp only [roF, Bool.or_eq_false_iff] at hq
        exact ⟨.inl hq.1, .inl hq.2⟩
      · exact ⟨.inr hq, .inr hq⟩
    exact ⟨[v], v2, rfl, ⟨v, rfl, h.c this.1 q1⟩, BackOk.fs this.2 q2⟩
  | .ws k n xs :: fs, vs, hq, hv => by
    obtain ⟨v1, v2, rfl, q1, q2⟩ := hv
    exact ⟨v1, v2, rfl, q1, BackOk.fs (fs := fs) hq q2⟩

theorem BackOk.v1 {x : V1} {v : Value} (hq : roV x = false ∨ ∀ k, El.R k → R' k) (hv : RelV El x v) : RelV (caller E ids nid El R') (backV (renOf ids nid) x) v := by
  cases x with
  | c x =>
    refine h.c (hq.imp (fun hq => ?_) id) hv
    have hq : (roC x || roF []) = false := hq
    simpa [roF] using hq
  | g fs =>
    obtain ⟨cs, rfl, q⟩ := hv
    exact ⟨cs, rfl, h.fs hq q⟩

theorem BackOk.v1s : ∀ {xs : List V1} {vs : List Value}, (xs.any roV = false ∨ ∀ k, El.R k → R' k) → RelVs El xs vs → RelVs (caller E ids nid El R') (xs.map (backV (renOf ids nid))) vs
  | [], _, _, hv => hv
  | x :: xs, vs, hq, hv => by
    obtain ⟨u, us, rfl, q1, q2⟩ := hv
    have : (roV x = false ∨ ∀ k, El.R k → R' k) ∧ (xs.any roV = false ∨ ∀ k, El.R k → R' k) := by
      rcases hq with hq | hq
      · simp only [List.any_cons, Bool.or_eq_false_iff] at hq
        exact ⟨.inl hq.1, .inl hq.2⟩
      · exact ⟨.inr hq, .inr hq⟩
    exact ⟨u, us, rfl, h.v1 this.1 q1, BackOk.v1s this.2 q2⟩

theorem BackOk.s {x : SV} {v : Value} (hq : roS x = false ∨ ∀ k, El.R k → R' k) (hv : RelS El x v) : RelS (caller E ids nid El R') (backS (renOf ids nid) x) v := by
  cases x with
  | any => trivial
  | one x => exact h.v1 hq hv
  | tup xs =>
    obtain ⟨us, rfl, q⟩ := hv
    exact ⟨us, rfl, h.v1s hq q⟩

theorem BackOk.rep (hq : El.H.any roB = false ∨ ∀ k, El.R k → R' k) : RepH G (caller E ids nid El R') where
  ro := fun k hk => by
    have hk' := h.r2 k hk
    refine ⟨(h.hE'.ro k hk').1, fun b hb hbk => ?_⟩
    rcases h.sort b with ⟨j, hj, rfl, h1, h2⟩ | ⟨hb0, h1, h2⟩
    · rw [h1] at hb
      rw [h2] at hbk
      exact (h.hE'.ro k hk').2 j (live_backB hb) hbk
    · rw [h1] at hb
      rw [h2] at hbk
      rcases h.r3 k hk with h3 | h3 | ⟨c, h3, h4, h5⟩
      · exact (h.p.hE.ro k h3).2 b hb hbk
      · have := h.p.hE.lt hb hbk; omega
      · exact hb0 (h.p.hE.inj b c k hb h4 hbk h5 ▸ h3)
  inj := fun b b' k hb hb' hk hk' => by
    rcases h.sort b with ⟨j, hj, rfl, h1, h2⟩ | ⟨hb0, h1, h2⟩ <;> rcases h.sort b' with ⟨j', hj', rfl, h1', h2'⟩ | ⟨hb0', h1', h2'⟩ <;> rw [h1] at hb <;> rw [h1'] at hb' <;> rw [h2] at hk <;> rw [h2'] at hk'
    · rw [h.hE'.inj j j' k (live_backB hb) (live_backB hb') hk hk']
    · exact (h.outside hb0' hb' hk' (live_backB hb) hk).elim
    · exact (h.outside hb0 hb hk (live_backB hb') hk').elim
    · exact h.p.hE.inj b b' k hb hb' hk hk'
  blk := fun b => by
    rcases h.sort b with ⟨j, hj, rfl, h1, h2⟩ | ⟨hb0, h1, h2⟩
    · rw [h1]
      have hb := h.hE'.blk j
      have hqj : roB (getB El.H j) = false ∨ ∀ k, El.R k → R' k := by
        refine hq.imp (fun hq => ?_) id
        rw [List.any_eq_false] at hq
        have hm : getB El.H j ∈ El.H := by rw [getB_eq, List.getElem?_eq_getElem hj]; exact List.getElem_mem hj
        simpa using hq _ hm
      cases hk : getB El.H j with
      | vals fs =>
        rw [hk] at hb hqj
        obtain ⟨k, c, e, fz, q1, q2, q3, q4⟩ := hb
        exact ⟨k, c, e, fz, h2.trans q1, q2, q3, h.fs hqj q4⟩
      | arr t xs lo par =>
        rw [hk] at hb hqj
        obtain ⟨q1, q2, q3⟩ := hb
        simp only [backB]
        split
        · trivial
        rename_i hf
        refine ⟨Nat.zero_le _, q2, ?_⟩
        rcases q3 with ⟨q3, q4⟩ | ⟨k, c, e, fz, q3, q4, q5, q6⟩
        · exact .inl ⟨h2.trans q3, q4⟩
        · exact .inr ⟨k, c, e, fz, h2.trans q3, q4, q5, q6.mono fun a us hu => rotQ (E := caller E ids nid El R') (El := El) rfl hf hqj hu⟩
      | frz t xs => trivial
      | gone => trivial
      | dead => trivial
    · rw [h1]
      by_cases hr : getB E.H b = .gone ∨ getB E.H b = .dead
      · rcases hr with hr | hr <;> rw [hr] <;> trivial
      refine (h.p.hE.blk b).ext h.p.hE h.ext h2 (fun k o hk ho => ?_) (fun t xs k hf hk b' hl hb' => ?_)
      · show El.w.heap[k]? = _
        rw [h.keep (Array.getElem?_eq_some_iff.1 ho).1 (fun c hc hlc hck => ?_)]
        · exact ho
        · cases hg : getB E.H b with
          | vals fs => exact hb0 (h.p.hE.inj b c k (by rw [hg]; rfl) hlc hk hck ▸ hc)
          | arr t xs lo par => exact hb0 (h.p.hE.inj b c k (by rw [hg]; rfl) hlc hk hck ▸ hc)
          | frz t xs =>
            obtain ⟨xs', lo, par, q1, q2, _⟩ := h.p.hE.shares hg hk hlc hck
            rw [(h.idLive hc).2 _ _ _ _ q1] at q2; cases q2
          | gone => exact hr (.inl hg)
          | dead => exact hr (.inr hg)
      · rcases h.sort b' with ⟨j, hj, rfl, h3, h4⟩ | ⟨hb1, h3, h4⟩
        · rw [h3] at hl
          rw [h4] at hb'
          exact (h.outsideF hf hk (live_backB hl) hb').elim
        · rw [h3] at hl ⊢
          rw [h4] at hb'
          exact h.p.hE.shares hf hk hl hb'
  glob := fun g t d hg => ⟨RelRp.ext h.p.hE h.ext (h.p.hE.glob g t d hg).1, (h.p.hE.glob g t d hg).2⟩
end
end Go.SX
