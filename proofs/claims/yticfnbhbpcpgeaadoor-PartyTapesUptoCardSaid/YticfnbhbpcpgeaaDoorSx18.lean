/-
  SX, part 18: calls: what the callee sees.
-/
import Derived.Test.YticfnbhbpcpgeaaDoorSx17
namespace Go.SX
open Go
variable {P : Program} {G : GlobT} {E : Env} {look : Look} {ids : List Nat} {hl : Heap} {Rl : Nat → Prop} {shown : List Nat}

/-- a block that has memory -/
def real : Blk → Prop
  | .vals _ => True
  | .arr .. => True
  | .frz .. => True
  | _ => False

section
variable (h : PassOk G E look ids hl Rl shown)
include h

theorem PassOk.fs : ∀ {fs gs : List FCell} {vs : List Value}, passF look ids fs = some gs → (∀ b ∈ shownF look ids fs, b ∈ shown) → RelFs E fs vs → RelFs (callee E ids hl Rl) gs vs
  | [], gs, vs, hp, _, hr => by obtain rfl := Option.some.inj hp; exact hr
  | .c x :: fs, gs, vs, hp, hs, hr => by
    simp only [passF] at hp
    split at hp
    · rename_i y r h1 h2
      obtain rfl := Option.some.inj hp
      obtain ⟨v1, v2, rfl, ⟨v, rfl, q1⟩, q2⟩ := hr
      exact ⟨[v], v2, rfl, ⟨v, rfl, h.cell h1 (fun b hb => hs b (List.mem_append_left _ hb)) q1⟩, PassOk.fs h2 (fun b hb => hs b (List.mem_append_right _ hb)) q2⟩
    · cases hp
  | .ws k n xs :: fs, gs, vs, hp, hs, hr => by
    simp only [passF] at hp
    split at hp
    · rename_i r h2
      obtain rfl := Option.some.inj hp
      obtain ⟨v1, v2, rfl, q1, q2⟩ := hr
      exact ⟨v1, v2, rfl, q1, PassOk.fs h2 hs q2⟩
    · cases hp

theorem PassOk.v : ∀ {x : SV} {y : V1} {u : Value}, passV look ids x = some y → (∀ b ∈ shownS look ids x, b ∈ shown) → RelS E x u → RelV (callee E ids hl Rl) y u
  | .any, _, _, hp, _, _ => by cases hp
  | .tup _, _, _, hp, _, _ => by cases hp
  | .one (.c x), y, u, hp, hs, hr => by
    simp only [passV] at hp
    split at hp
    · rename_i z h1
      obtain rfl := Option.some.inj hp
      exact h.cell h1 (fun b hb => hs b (by show b ∈ shownF look ids [.c x]; exact List.mem_append_left _ hb)) hr
    · cases hp
  | .one (.g fs), y, u, hp, hs, hr => by
    simp only [passV] at hp
    split at hp
    · rename_i z h1
      obtain rfl := Option.some.inj hp
      obtain ⟨cs, rfl, q⟩ := hr
      exact ⟨cs, rfl, h.fs h1 hs q⟩
    · cases hp

theorem PassOk.vs : ∀ {xs : List SV} {ys : List V1} {us : List Value}, mapO (passV look ids) xs = some ys → (∀ b ∈ xs.flatMap (shownS look ids), b ∈ shown) → RelTs E xs us → RelVs (callee E ids hl Rl) ys us
  | [], ys, us, hp, _, hr => by obtain rfl := Option.some.inj hp; exact hr
  | x :: xs, ys, us, hp, hs, hr => by
    simp only [mapO] at hp
    split at hp
    · rename_i y r h1 h2
      obtain rfl := Option.some.inj hp
      obtain ⟨u, us', rfl, q1, q2⟩ := hr
      exact ⟨u, us', rfl, h.v h1 (fun b hb => hs b (by rw [List.flatMap_cons]; exact List.mem_append_left _ hb)) q1, PassOk.vs h2 (fun b hb => hs b (by rw [List.flatMap_cons]; exact List.mem_append_right _ hb)) q2⟩
    · cases hp

/-- an own block of the callee's is one that was handed over -/
theorem PassOk.there {j : Nat} (hj : getB hl j ≠ .dead) : ∃ b, ids[j]? = some b ∧ passB look ids (look b) = some (getB hl j) ∧ look b = getB E.H b := by
  have hlen : j < hl.length := getB_len hj
  have := (mapO_get h.hhl).1
  have hj' : j < ids.length := by omega
  obtain ⟨blk, g1, g2, g3⟩ := h.get (List.getElem?_eq_getElem hj')
  exact ⟨ids[j], List.getElem?_eq_getElem hj', by rw [g2]; exact g1, g3⟩

theorem PassOk.live {j : Nat} (hj : live (getB hl j) = true) : ∃ b, ids[j]? = some b ∧ SX.live (getB E.H b) = true ∧ (∀ t xs lo par, getB E.H b = .arr t xs lo par → par = []) := by
  obtain ⟨b, g1, g2, g3⟩ := h.there (live_ne_dead hj)
  refine ⟨b, g1, ?_, fun t xs lo par hb => ?_⟩
  · rw [← g3]
    cases hb : look b <;> rw [hb] at g2 <;> simp [passB] at g2 <;> rfl
  · rw [g3, hb] at g2
    cases par with
    | nil => rfl
    | cons _ _ => cases g2

theorem PassOk.repB (hreal : ∀ b ∈ shown, real (getB E.H b)) (hsh : ∀ b ∈ ids.flatMap (fun b => shownB look ids (look b)), b ∈ shown) (j : Nat) : RepB (callee E ids hl Rl) j (getB hl j) := by
  by_cases hd : getB hl j = .dead
  · rw [hd]; trivial
  obtain ⟨b, g1, g2, g3⟩ := h.there hd
  have hβ := PassOk.beta (E := E) (hl := hl) (Rl := Rl) g1
  have hb := h.hE.blk b
  rw [← g3] at hb
  have hm : b ∈ ids := List.mem_of_getElem? g1
  cases hk : look b with
  | vals fs =>
    rw [hk] at g2 hb
    simp only [passB] at g2
    split at g2
    · rename_i r hr
      rw [← Option.some.inj g2]
      obtain ⟨k, c, e, fz, h1, h2, h3, h4⟩ := hb
      exact ⟨k, c, e, fz, hβ.trans h1, h2, h3, h.fs hr (fun q hq => hsh q (List.mem_flatMap.2 ⟨b, hm, by rw [hk]; exact hq⟩)) h4⟩
    · cases g2
  | arr t xs lo par =>
    rw [hk] at g2 hb
    cases par with
    | nil =>
      obtain ⟨hf, g2⟩ := passB_arr g2
      rw [g2]
      obtain ⟨h1, h2, h3⟩ := hb
      refine ⟨Nat.zero_le _, h2, ?_⟩
      rcases h3 with ⟨h3, h4⟩ | ⟨k, c, e, fz, h3, h4, h5, h6⟩
      · exact .inl ⟨hβ.trans h3, h4⟩
      · exact .inr ⟨k, c, e, fz, hβ.trans h3, h4, h5, h6.mono fun a us hq => h.rot hf hq⟩
    | cons _ _ => cases g2
  | frz t xs => rw [hk] at g2; cases g2
  | gone => rw [hk] at g2; cases g2
  | dead => rw [hk] at g2; cases g2

theorem PassOk.apartShown (hreal : ∀ b ∈ shown, real (getB E.H b)) {b k : Nat} (hb : b ∈ shown) (hk : E.β b = some k) : k < E.w.heap.size ∧ ∀ j, SX.live (getB hl j) = true → (callee E ids hl Rl).β j ≠ some k := by
  have hr := hreal b hb
  constructor
  · cases hg : getB E.H b with
    | vals fs => exact h.hE.lt (by rw [hg]; rfl) hk
    | arr t xs lo par => exact h.hE.lt (by rw [hg]; rfl) hk
    | frz t xs =>
      have hbb := h.hE.blk b
      rw [hg] at hbb
      rcases hbb.2 with ⟨h1, _⟩ | ⟨k', c, e, fz, h1, h2, _⟩
      · rw [h1] at hk; cases hk
      · rw [h1] at hk; obtain rfl := Option.some.inj hk; exact (Array.getElem?_eq_some_iff.1 h2).1
    | gone => rw [hg] at hr; exact hr.elim
    | dead => rw [hg] at hr; exact hr.elim
  · intro j hj hjk
    obtain ⟨c, g1, g2, g3⟩ := h.live hj
    rw [PassOk.beta g1] at hjk
    have hne : c ≠ b := fun e => h.hout b hb (e ▸ List.mem_of_getElem? g1)
    cases hg : getB E.H b with
    | vals fs => exact hne (h.hE.inj c b k g2 (by rw [hg]; rfl) hjk hk)
    | arr t xs lo par => exact hne (h.hE.inj c b k g2 (by rw [hg]; rfl) hjk hk)
    | frz t xs =>
      obtain ⟨xs', lo, par, q1, q2, _⟩ := h.hE.shares hg hk g2 hjk
      rw [g3 _ _ _ _ q1] at q2; cases q2
    | gone => rw [hg] at hr; exact hr.elim
    | dead => rw [hg] at hr; exact hr.elim

theorem PassOk.rep (hreal : ∀ b ∈ shown, real (getB E.H b)) (hsh : ∀ b ∈ ids.flatMap (fun b => shownB look ids (look b)), b ∈ shown) : RepH G (callee E ids hl Rl) where
  ro := fun k hk => by
    rcases h.from_ k hk with h1 | ⟨b, hb, h1⟩
    · refine ⟨(h.hE.ro k h1).1, fun j hj hjk => ?_⟩
      obtain ⟨c, g1, g2, _⟩ := h.live hj
      rw [PassOk.beta g1] at hjk
      exact (h.hE.ro k h1).2 c g2 hjk
    · exact h.apartShown hreal hb h1
  inj := fun j j' k hj hj' hk hk' => by
    obtain ⟨b, g1, g2, _⟩ := h.live hj
    obtain ⟨b', g1', g2', _⟩ := h.live hj'
    rw [PassOk.beta g1] at hk
    rw [PassOk.beta g1'] at hk'
    have := h.hE.inj b b' k g2 g2' hk hk'
    subst this
    have hlt : j < ids.length := (List.getElem?_eq_some_iff.1 g1).1
    exact (List.getElem?_inj hlt h.hnd).1 (g1.trans g1'.symm)
  blk := fun j => h.repB hreal hsh j
  glob := fun g t d hg => by
    obtain ⟨⟨kb, off, c, e, fz, us, q1, q2, q3, q4, q5, q6⟩, hf⟩ := h.hE.glob g t d hg
    exact ⟨⟨kb, off, c, e, fz, us, q1, h.sub kb q2, q3, h.rot hf q4, q5, q6⟩, hf⟩
end

theorem shownC0_none {ids : List Nat} : ∀ {x : Cell}, cellRefs x = [] → shownC0 ids x = []
  | .sl .., h => by cases h
  | .sla .., h => by cases h
  | .ifc t x, h => shownC0_none (x := x) h
  | .any, _ => rfl
  | .int .., _ => rfl
  | .bool .., _ => rfl
  | .str _, _ => rfl
  | .nilp, _ => rfl
  | .nils, _ => rfl
  | .nilif, _ => rfl
  | .nilfn, _ => rfl
  | .rptr .., _ => rfl
  | .ro .., _ => rfl
  | .ref _, _ => rfl
  | .fn .., _ => rfl
  | .ifd .., _ => rfl
  | .ptr .., _ => rfl

theorem shownC0_real {look : Look} {ids : List Nat} : ∀ {x y : Cell}, passC0 look ids x = some y → ∀ b ∈ shownC0 ids x, real (look b) ∧ b ∉ ids
  | .any, _, _, b, hb => by cases hb
  | .int .., _, _, b, hb => by cases hb
  | .bool .., _, _, b, hb => by cases hb
  | .str _, _, _, b, hb => by cases hb
  | .nilp, _, _, b, hb => by cases hb
  | .nils, _, _, b, hb => by cases hb
  | .nilif, _, _, b, hb => by cases hb
  | .nilfn, _, _, b, hb => by cases hb
  | .ifd .., _, _, b, hb => by cases hb
  | .rptr .., _, _, b, hb => by cases hb
  | .ro .., _, _, b, hb => by cases hb
  | .fn .., _, _, b, hb => by cases hb
  | .ptr .., _, _, b, hb => by cases hb
  | .sl q off len, y, h, b, hb => by
    simp only [shownC0] at hb
    split at hb
    · cases hb
    · rename_i hs
      simp only [List.mem_singleton] at hb
      subst hb
      have hno : b ∉ ids := fun hm => hs (seen_iff.2 hm)
      refine ⟨?_, hno⟩
      simp only [passC0] at h
      split at h
      · rename_i j hj; exact (hno (List.mem_of_getElem? (place_some hj))).elim
      · split at h
        · rename_i hl; rw [hl]; trivial
        · rename_i hl; rw [hl]; trivial
        · cases h
  | .sla q o n off len, y, h, b, hb => by
    simp only [shownC0] at hb
    split at hb
    · cases hb
    · rename_i hs
      simp only [List.mem_singleton] at hb
      subst hb
      have hno : b ∉ ids := fun hm => hs (seen_iff.2 hm)
      refine ⟨?_, hno⟩
      simp only [passC0] at h
      split at h
      · rename_i j hj; exact (hno (List.mem_of_getElem? (place_some hj))).elim
      · split at h
        · rename_i hl; rw [hl]; trivial
        · cases h
  | .ifc t x, y, h, b, hb => by
    have hb : b ∈ shownC0 ids x := hb
    cases x with
    | sl q off len => simp [passC0, cellRefs] at h
    | sla q o n off len => simp [passC0, cellRefs] at h
    | ifc t' x' =>
      simp only [passC0] at h
      split at h
      · rename_i hr
        rw [shownC0_none hr] at hb; cases hb
      · cases h
    | _ => cases hb

theorem shownN_real {look : Look} {ids : List Nat} : ∀ {fs : List FCell} {ds : List (List Int × Nat)}, viewL look ids fs = some ds → ∀ b ∈ shownN ids fs, real (look b) ∧ b ∉ ids
  | [], _, _, b, hb => by cases hb
  | .ws .. :: fs, _, h, b, hb => by simp [viewL] at h
  | .c x :: fs, ds, h, b, hb => by
    simp only [viewL] at h
    split at h
    · rename_i d r h1 h2
      rcases List.mem_append.1 hb with hb | hb
      · unfold viewC at h1
        split at h1
        · rename_i hp; exact shownC0_real hp b hb
        · rename_i hp; exact shownC0_real hp b hb
        · cases h1
      · exact shownN_real h2 b hb
    · cases h

theorem shownC_real {look : Look} {ids : List Nat} {x y : Cell} (h : passC look ids x = some y) : ∀ b ∈ shownC look ids x, real (look b) ∧ b ∉ ids := by
  intro b hb
  unfold passC at h
  split at h
  · rename_i q o n off len
    split at h
    · rename_i fs hpl hq
      split at h
      · rename_i hw
        simp only [shownC, hpl, hq, hw, List.append_nil] at hb
        exact shownC0_real h b hb
      · rename_i hw
        simp only [shownC, hpl, hq, hw] at hb
        split at h
        · split at h
          · rename_i ds hds
            rcases List.mem_append.1 hb with hb | hb
            · simp only [shownC0] at hb
              split at hb
              · cases hb
              · rename_i hs
                simp only [List.mem_singleton] at hb
                subst hb
                exact ⟨by rw [hq]; trivial, fun hm => hs (seen_iff.2 hm)⟩
            · exact shownN_real hds b hb
          · cases h
        · cases h
    · rename_i hno
      simp only [shownC] at hb
      have hb' : b ∈ shownC0 ids (.sla q o n off len) := by
        rcases List.mem_append.1 hb with hb | hb
        · exact hb
        · exact nomatch hb
      exact shownC0_real h b hb'
  · rename_i hx
    refine shownC0_real h b ?_
    unfold shownC at hb
    split at hb
    · exact (hx _ _ _ _ _ rfl).elim
    · exact hb

theorem shownF_real {look : Look} {ids : List Nat} : ∀ {fs gs : List FCell}, passF look ids fs = some gs → ∀ b ∈ shownF look ids fs, real (look b) ∧ b ∉ ids
  | [], _, _, b, hb => by cases hb
  | .c x :: fs, gs, h, b, hb => by
    simp only [passF] at h
    split at h
    · rename_i y r h1 h2
      rcases List.mem_append.1 hb with hb | hb
      · exact shownC_real h1 b hb
      · exact shownF_real h2 b hb
    · cases h
  | .ws .. :: fs, gs, h, b, hb => by
    simp only [passF] at h
    split at h
    · rename_i r h2; exact shownF_real h2 b hb
    · cases h

theorem shownS_real {look : Look} {ids : List Nat} : ∀ {x : SV} {y : V1}, passV look ids x = some y → ∀ b ∈ shownS look ids x, real (look b) ∧ b ∉ ids
  | .any, _, h, _, _ => by cases h
  | .tup _, _, h, _, _ => by cases h
  | .one (.c x), y, h, b, hb => by
    simp only [passV] at h
    split at h
    · rename_i z h1
      have hb : b ∈ shownF look ids [.c x] := hb
      rcases List.mem_append.1 hb with hb | hb
      · exact shownC_real h1 b hb
      · cases hb
    · cases h
  | .one (.g fs), y, h, b, hb => by
    simp only [passV] at h
    split at h
    · rename_i z h1; exact shownF_real h1 b hb
    · cases h

theorem shown_real {look : Look} {ids : List Nat} {args : List SV} {vs : List V1} {hl : Heap} (h1 : mapO (passV look ids) args = some vs) (h2 : mapO (fun b => passB look ids (look b)) ids = some hl) :
    ∀ b ∈ args.flatMap (shownS look ids) ++ ids.flatMap (fun b => shownB look ids (look b)), real (look b) ∧ b ∉ ids := by
  intro b hb
  rcases List.mem_append.1 hb with hb | hb
  · obtain ⟨x, hx, hb⟩ := List.mem_flatMap.1 hb
    obtain ⟨i, hi, rfl⟩ := List.mem_iff_getElem.1 hx
    obtain ⟨y, g1, _⟩ := (mapO_get h1).2 i _ (List.getElem?_eq_getElem hi)
    exact shownS_real g1 b hb
  · obtain ⟨x, hx, hb⟩ := List.mem_flatMap.1 hb
    obtain ⟨i, hi, rfl⟩ := List.mem_iff_getElem.1 hx
    obtain ⟨y, g1, _⟩ := (mapO_get h2).2 i _ (List.getElem?_eq_getElem hi)
    cases hk : look ids[i] with
    | vals fs =>
      rw [hk] at g1 hb
      simp only [passB] at g1
      split at g1
      · rename_i r hr; exact shownF_real hr b hb
      · cases g1
    | _ => rw [hk] at hb; cases hb
end Go.SX
