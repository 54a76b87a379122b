/-
  SX, part 17: calls.
-/
import Derived.Test.YticfnbhbpcpgeaaDoorSx16e
namespace Go.SX
open Go
variable {P : Program}

/-- the answers that a table tells are the program's -/
def SpecOk (P : Program) (S : Tab) : Prop :=
  ∀ f vs hl r hl', (S.T f vs hl).val = some (r, hl') → ∀ (E : Env) (us : Array Value), E.H = hl → RepH S.gl E → RelVs E vs us.toList →
    CallP P f us E.w fun u w' => ∃ β' R', RepH S.gl ⟨β', hl', w', R'⟩ ∧ Ext E ⟨β', hl', w', R'⟩ ∧ RelS ⟨β', hl', w', R'⟩ r u

/-- what an operation's result says of the call that it makes -/
def CallOk (P : Program) (G : GlobT) (E : Env) (f : FuncId) (us : Array Value) (r : Res) : Prop := CallP P f us E.w fun u w' => ResR G E r u w'

theorem seen_iff {b : Nat} {l : List Nat} : seen b l = true ↔ b ∈ l := by simp [seen]
theorem nodup_of : ∀ {l : List Nat}, nodupB l = true → l.Nodup
  | [], _ => List.nodup_nil
  | x :: xs, h => by
    simp only [nodupB, Bool.and_eq_true, Bool.not_eq_true'] at h
    refine List.nodup_cons.2 ⟨fun hm => ?_, nodup_of h.2⟩
    rw [seen_iff.2 hm] at h; cases h.1

theorem place_some {ids : List Nat} {b j : Nat} (h : place ids b = some j) : ids[j]? = some b := by
  unfold place at h
  obtain ⟨h1, h2, _⟩ := List.findIdx?_eq_some_iff_getElem.1 h
  rw [List.getElem?_eq_getElem h1]
  simpa using h2
theorem place_none {ids : List Nat} {b : Nat} (h : place ids b = none) : b ∉ ids := by
  unfold place at h
  rw [List.findIdx?_eq_none_iff] at h
  intro hm
  have := h b hm
  simp at this

theorem getB_eq (H : Heap) (n : Nat) : getB H n = (H[n]?).getD .dead := by
  induction H generalizing n with
  | nil => simp [getB]
  | cons x H ih => cases n with
    | zero => rfl
    | succ n => simp only [getB, ih]; simp

theorem mapO_get {α β : Type} {f : α → Option β} : ∀ {l : List α} {r : List β}, mapO f l = some r → r.length = l.length ∧ ∀ (i : Nat) (x : α), l[i]? = some x → ∃ y, f x = some y ∧ r[i]? = some y
  | [], r, h => by obtain rfl := Option.some.inj h; exact ⟨rfl, fun i x h => by simp at h⟩
  | a :: l, r, h => by
    simp only [mapO] at h
    split at h
    · rename_i y r' h1 h2
      obtain rfl := Option.some.inj h
      obtain ⟨g1, g2⟩ := mapO_get h2
      refine ⟨by simp [g1], fun i x hx => ?_⟩
      cases i with
      | zero => simp at hx; subst hx; exact ⟨y, h1, rfl⟩
      | succ i => simp at hx; obtain ⟨z, q1, q2⟩ := g2 i x hx; exact ⟨z, q1, by simpa using q2⟩
    · cases h

section pass
variable {G : GlobT} {E : Env} {look : Look} {ids : List Nat} {hl : Heap} {Rl : Nat → Prop}

theorem passB_arr {look : Look} {ids : List Nat} {t : DTy} {xs : List t.den} {lo : Nat} {blk : Blk} (h : passB look ids (.arr t xs lo []) = some blk) : t.rf = false ∧ blk = .arr t xs 0 [] := by
  simp only [passB] at h
  split at h
  · cases h
  · rename_i hf
    exact ⟨hf, (Option.some.inj h).symm⟩

/-- the callee's state -/
def callee (E : Env) (ids : List Nat) (hl : Heap) (Rl : Nat → Prop) : Env := ⟨fun j => match ids[j]? with | some b => E.β b | none => none, hl, E.w, Rl⟩

structure PassOk (G : GlobT) (E : Env) (look : Look) (ids : List Nat) (hl : Heap) (Rl : Nat → Prop) (shown : List Nat) : Prop where
  hE : RepH G E
  hlook : ∀ b, look b = .dead ∨ look b = getB E.H b ∨ (∃ t xs lo par, look b = .arr t xs lo par ∧ getB E.H b = .frz t xs)
  hnd : ids.Nodup
  hhl : mapO (fun b => passB look ids (look b)) ids = some hl
  hlids : ∀ b ∈ ids, look b = .dead ∨ look b = getB E.H b
  sub : ∀ k, E.R k → Rl k
  hshown : ∀ b ∈ shown, ∀ k, E.β b = some k → Rl k
  from_ : ∀ k, Rl k → E.R k ∨ ∃ b ∈ shown, E.β b = some k
  hout : ∀ b ∈ shown, b ∉ ids

variable {shown : List Nat} (h : PassOk G E look ids hl Rl shown)
include h

theorem PassOk.get {j b : Nat} (hj : ids[j]? = some b) : ∃ blk, passB look ids (look b) = some blk ∧ getB hl j = blk ∧ look b = getB E.H b := by
  obtain ⟨g1, g2⟩ := mapO_get h.hhl
  obtain ⟨blk, q1, q2⟩ := g2 j b hj
  refine ⟨blk, q1, by rw [getB_eq, q2]; rfl, ?_⟩
  rcases h.hlids b (List.mem_of_getElem? hj) with h1 | h1
  · rw [h1] at q1; simp [passB] at q1
  · exact h1

theorem PassOk.rot : ∀ {t : DTy} {d : t.den} {vs : List Value}, t.rf = false → RoT E t d vs → RoT (callee E ids hl Rl) t d vs
  | .unit, _, _, _, q => q
  | .int _, _, _, _, q => q
  | .bool, _, _, _, q => q
  | .str, _, _, _, q => q
  | .ws _ _, _, _, _, q => q
  | .pair a b, d, vs, hf, q => by
    have hf : (a.rf || b.rf) = false := hf
    rw [Bool.or_eq_false_iff] at hf
    obtain ⟨v1, v2, q1, q2, q3⟩ := q
    exact ⟨v1, v2, q1, PassOk.rot hf.1 q2, PassOk.rot hf.2 q3⟩
  | .sl t, d, vs, hf, q => by
    obtain ⟨v, q1, a, cap, q2, q3, q4, q5, q6, q7⟩ := q
    refine ⟨v, q1, a, cap, q2, q3, q4, q5, q6, fun hne => ?_⟩
    obtain ⟨k, off, c, e, fz, g1, g2, g3, g4⟩ := q7 hne
    exact ⟨k, off, c, e, fz, g1, h.sub k g2, g3, g4.mono fun a us hq => PassOk.rot (t := t) hf hq⟩
  | .ref, _, _, hf, _ => by cases hf

theorem PassOk.rosl {t : DTy} {xs : List t.den} {len : Nat} {v : Value} (hf : t.rf = false) (q : RoSl E t.size (RoT E t) xs len v) : RoSl (callee E ids hl Rl) t.size (RoT (callee E ids hl Rl) t) xs len v := by
  obtain ⟨a, cap, q2, q3, q4, q5, q6, q7⟩ := q
  refine ⟨a, cap, q2, q3, q4, q5, q6, fun hne => ?_⟩
  obtain ⟨k, off, c, e, fz, g1, g2, g3, g4⟩ := q7 hne
  exact ⟨k, off, c, e, fz, g1, h.sub k g2, g3, g4.mono fun a us hq => h.rot hf hq⟩

omit h in
theorem PassOk.beta {j b : Nat} (hj : ids[j]? = some b) : (callee E ids hl Rl).β j = E.β b := by
  show (match ids[j]? with | some b => E.β b | none => none) = _
  rw [hj]

/-- a slice that is shown -/
theorem PassOk.showSl {b off len : Nat} {t : DTy} {xs : List t.den} {v : Value} (hf : t.rf = false) (hb : (∃ lo par, getB E.H b = .arr t xs lo par) ∨ getB E.H b = .frz t xs) (hs : b ∈ shown) (hv : RelC E (.sl b off len) v) :
    RelC (callee E ids hl Rl) (.ro t (xs.drop off) len) v := by
  obtain ⟨f1, f2, f3⟩ := h.hE.fits hb
  have hsl : SlAt E b t.size off len xs.length v := by
    obtain ⟨_, hv⟩ := hv
    unfold RelSl at hv
    rcases hb with ⟨lo, par, hb⟩ | hb <;> rw [hb] at hv <;> exact hv
  obtain ⟨a, cap, rfl, h1, h2, h3, h4⟩ := hsl
  rcases h4 with ⟨h4, h5⟩ | ⟨k, c, e, fz, h4, h5, h6, h7⟩
  · have h0 := f2 h4
    have hx : xs = [] := List.eq_nil_of_length_eq_zero h0
    subst hx
    exact ⟨a, cap, rfl, by simp at h3 ⊢; omega, by simp, h2, f1, fun h => by simp at h⟩
  · have hle := f3 k c e fz h4 h6
    rw [← h7] at hle
    have hle := Nat.le_of_mul_le_mul_right hle f1
    refine ⟨a, cap, rfl, by rw [List.length_drop]; omega, by rw [List.length_drop]; omega, h2, f1, fun hne => ?_⟩
    have hpos : 0 < (xs.drop off).length := List.length_pos_iff.2 hne
    rw [List.length_drop] at hpos
    obtain ⟨c', e', fz', g1, g2⟩ := blockRows h.hE hb h4
    rw [h6] at g1; cases g1
    refine ⟨k, off * t.size, c, e, fz, h5.resolve_left (by omega), h.hshown b hs k h4, h6, ?_⟩
    have := (g2.drop off).mono (Q' := RoT (callee E ids hl Rl) t) fun a us hq => h.rot hf hq
    rwa [Nat.zero_add] at this

theorem PassOk.lookSl {b off len : Nat} {v : Value} (hv : RelC E (.sl b off len) v) {t : DTy} {xs : List t.den} (hb : (∃ lo par, look b = .arr t xs lo par) ∨ look b = .frz t xs) : (∃ lo par, getB E.H b = .arr t xs lo par) ∨ getB E.H b = .frz t xs := by
  rcases h.hlook b with h1 | h1 | ⟨t', xs', lo', par', h1, h2⟩
  · rcases hb with ⟨lo, par, hb⟩ | hb <;> rw [h1] at hb <;> cases hb
  · rcases hb with ⟨lo, par, hb⟩ | hb
    · exact .inl ⟨lo, par, by rw [← h1]; exact hb⟩
    · exact .inr (by rw [← h1]; exact hb)
  · rcases hb with ⟨lo, par, hb⟩ | hb <;> rw [h1] at hb <;> cases hb
    exact .inr h2

omit h in
theorem rf_of {t : DTy} (hr : (match t.rf with | true => [0] | false => []) = ([] : List Nat)) : t.rf = false := by
  cases h : t.rf with
  | false => rfl
  | true => rw [h] at hr; cases hr

theorem PassOk.noRefs : ∀ {x : Cell} {v : Value}, cellRefs x = [] → RelC E x v → RelC (callee E ids hl Rl) x v
  | .any, v, _, hv => hv
  | .int .., v, _, hv => hv
  | .bool .., v, _, hv => hv
  | .str _, v, _, hv => hv
  | .nilp, v, _, hv => hv
  | .nils, v, _, hv => hv
  | .nilif, v, _, hv => hv
  | .nilfn, v, _, hv => hv
  | .fn .., v, _, hv => hv
  | .rptr t d o k, v, hr, hv => by
    obtain ⟨kb, off, c, e, fz, us, q1, q2, q3, q4, q5, q6⟩ := hv
    exact ⟨kb, off, c, e, fz, us, q1, h.sub kb q2, q3, h.rot (rf_of hr) q4, q5, q6⟩
  | .ro t xs len, v, hr, hv => h.rosl (rf_of hr) hv
  | .ifc t x, v, hr, hv => by
    obtain ⟨u, rfl, hv⟩ := hv
    exact ⟨u, rfl, PassOk.noRefs (x := x) hr hv⟩
  | .ifd T t d, v, hr, hv => by
    obtain ⟨cs, rfl, hv⟩ := hv
    exact ⟨cs, rfl, h.rot (rf_of hr) hv⟩
  | .ref .., v, hr, hv => by simp [cellRefs] at hr
  | .ptr .., v, hr, hv => by simp [cellRefs] at hr
  | .sl .., v, hr, hv => by simp [cellRefs] at hr
  | .sla .., v, hr, hv => by simp [cellRefs] at hr

theorem PassOk.cell0 : ∀ {x y : Cell} {v : Value}, passC0 look ids x = some y → (∀ b ∈ shownC0 ids x, b ∈ shown) → RelC E x v → RelC (callee E ids hl Rl) y v
  | .any, y, v, hp, _, hv => by obtain rfl := Option.some.inj hp; exact hv
  | .int .., y, v, hp, _, hv => by obtain rfl := Option.some.inj hp; exact hv
  | .bool .., y, v, hp, _, hv => by obtain rfl := Option.some.inj hp; exact hv
  | .str _, y, v, hp, _, hv => by obtain rfl := Option.some.inj hp; exact hv
  | .nilp, y, v, hp, _, hv => by obtain rfl := Option.some.inj hp; exact hv
  | .nils, y, v, hp, _, hv => by obtain rfl := Option.some.inj hp; exact hv
  | .nilif, y, v, hp, _, hv => by obtain rfl := Option.some.inj hp; exact hv
  | .nilfn, y, v, hp, _, hv => by obtain rfl := Option.some.inj hp; exact hv
  | .rptr t d o k, y, v, hp, _, hv => by
    simp only [passC0] at hp
    split at hp
    · cases hp
    · rename_i hf
      obtain rfl := Option.some.inj hp
      obtain ⟨kb, off, c, e, fz, us, q1, q2, q3, q4, q5, q6⟩ := hv
      exact ⟨kb, off, c, e, fz, us, q1, h.sub kb q2, q3, h.rot hf q4, q5, q6⟩
  | .ro t xs len, y, v, hp, _, hv => by
    simp only [passC0] at hp
    split at hp
    · cases hp
    · rename_i hf
      obtain rfl := Option.some.inj hp
      exact h.rosl hf hv
  | .ifd T t d, y, v, hp, _, hv => by
    simp only [passC0] at hp
    split at hp
    · cases hp
    · rename_i hf
      obtain rfl := Option.some.inj hp
      obtain ⟨cs, rfl, hv⟩ := hv
      exact ⟨cs, rfl, h.rot hf hv⟩
  | .ref _, y, v, hp, _, hv => by cases hp
  | .fn f cs, y, v, hp, _, hv => by
    cases cs with
    | nil => obtain rfl := Option.some.inj hp; exact hv
    | cons _ _ => cases hp
  | .ptr b i es o k n, y, v, hp, _, hv => by
    simp only [passC0] at hp
    split at hp
    · rename_i j hj
      obtain rfl := Option.some.inj hp
      have hj := place_some hj
      obtain ⟨blk, g1, g2, g3⟩ := h.get hj
      obtain ⟨hs, hv⟩ := hv
      refine ⟨hs, ?_⟩
      unfold RelPtr at hv ⊢
      have hβ := PassOk.beta (E := E) (hl := hl) (Rl := Rl) hj
      have hat : ∀ {es o : Nat}, PtrAt E b i es o k n v → PtrAt (callee E ids hl Rl) j i es o k n v := fun ⟨⟨kb, q1, q2⟩, q3⟩ => ⟨⟨kb, hβ.trans q1, q2⟩, q3⟩
      show (match getB hl j with | .vals _ => _ | .arr t xs _ _ => _ | .frz t xs => _ | .gone => _ | .dead => _)
      rw [← g3] at hv
      cases hb : look b with
      | vals fs =>
        rw [hb] at hv g1
        simp only [passB] at g1
        split at g1
        · obtain rfl := Option.some.inj g1
          rw [g2]; exact hat hv
        · cases g1
      | arr t xs lo par =>
        rw [hb] at hv g1
        cases par with
        | nil => rw [(passB_arr g1).2] at g2; rw [g2]; exact ⟨hv.1, fun e => hat (hv.2.1 e), hv.2.2⟩
        | cons _ _ => cases g1
      | frz t xs => rw [hb] at g1; cases g1
      | gone => rw [hb] at g1; cases g1
      | dead => rw [hb] at g1; cases g1
    · cases hp
  | .sl b off len, y, v, hp, hs, hv => by
    simp only [passC0] at hp
    split at hp
    · rename_i j hj
      obtain rfl := Option.some.inj hp
      have hj := place_some hj
      obtain ⟨blk, g1, g2, g3⟩ := h.get hj
      obtain ⟨hs, hv⟩ := hv
      refine ⟨hs, ?_⟩
      unfold RelSl at hv ⊢
      have hβ := PassOk.beta (E := E) (hl := hl) (Rl := Rl) hj
      show (match getB hl j with | .arr t xs _ _ => _ | .frz t xs => _ | .gone => _ | _ => _)
      rw [← g3] at hv
      cases hb : look b with
      | vals fs => rw [hb] at hv; exact hv.elim
      | arr t xs lo par =>
        rw [hb] at hv g1
        cases par with
        | nil =>
          rw [(passB_arr g1).2] at g2
          rw [g2]
          obtain ⟨a, cap, q1, q2, q3, q4, q5⟩ := hv
          refine ⟨a, cap, q1, q2, q3, q4, ?_⟩
          rw [hβ]; exact q5
        | cons _ _ => cases g1
      | frz t xs => rw [hb] at g1; cases g1
      | gone => rw [hb] at g1; cases g1
      | dead => rw [hb] at hv; exact hv.elim
    · rename_i hno
      have hsh : b ∈ shown := hs b (by
        simp only [shownC0]
        rw [if_neg (by rw [seen_iff]; exact place_none hno)]
        simp)
      split at hp
      · rename_i t xs lo par hb
        split at hp
        · cases hp
        · rename_i hf
          obtain rfl := Option.some.inj hp
          exact h.showSl hf (h.lookSl hv (.inl ⟨lo, par, hb⟩)) hsh hv
      · rename_i t xs hb
        split at hp
        · cases hp
        · rename_i hf
          obtain rfl := Option.some.inj hp
          exact h.showSl hf (h.lookSl hv (.inr hb)) hsh hv
      · cases hp
  | .sla b o n off len, y, v, hp, hs, hv => by
    simp only [passC0] at hp
    split at hp
    · rename_i j hj
      obtain rfl := Option.some.inj hp
      have hj := place_some hj
      obtain ⟨blk, g1, g2, g3⟩ := h.get hj
      obtain ⟨hs, hv⟩ := hv
      refine ⟨hs, ?_⟩
      unfold RelSla at hv ⊢
      have hβ := PassOk.beta (E := E) (hl := hl) (Rl := Rl) hj
      show (match getB hl j with | .vals _ => _ | .gone => _ | _ => _)
      rw [← g3] at hv
      cases hb : look b with
      | vals fs =>
        rw [hb] at hv g1
        simp only [passB] at g1
        split at g1
        · obtain rfl := Option.some.inj g1
          rw [g2]
          obtain ⟨a, cap, q1, q2, q3, q4, q5⟩ := hv
          exact ⟨a, cap, q1, q2, q3, q4, by rw [hβ]; exact q5⟩
        · cases g1
      | arr t xs lo par => rw [hb] at hv; exact hv.elim
      | frz t xs => rw [hb] at g1; cases g1
      | gone => rw [hb] at g1; cases g1
      | dead => rw [hb] at hv; exact hv.elim
    · rename_i hno
      have hsh : b ∈ shown := hs b (by
        simp only [shownC0]
        rw [if_neg (by rw [seen_iff]; exact place_none hno)]
        simp)
      split at hp
      · rename_i fs hb
        split at hp
        · rename_i kd m xs hw
          split at hp
          · rename_i hm
            obtain rfl := Option.some.inj hp
            have hbE : getB E.H b = .vals fs := by
              rcases h.hlook b with h1 | h1 | ⟨t', xs', lo', par', h1, h2⟩
              · rw [h1] at hb; cases hb
              · rw [← h1]; exact hb
              · rw [h1] at hb; cases hb
            obtain ⟨_, hv⟩ := hv
            unfold RelSla at hv
            rw [hbE] at hv
            obtain ⟨a, cap, rfl, q1, q2, q3, q4⟩ := hv
            obtain ⟨k', c, e, fz, g1, g2, g3, g4⟩ := h.hE.vals hbE
            obtain ⟨r1, r2, r3, r4⟩ := wsAt_rel hw g4
            rw [Array.length_toList] at r4
            subst hm
            refine ⟨a, cap, rfl, by show len ≤ List.length (List.drop off xs); rw [List.length_drop]; omega, by show List.length (List.drop off xs) ≤ cap; rw [List.length_drop]; omega, q2, by show 0 < 1; omega, fun hne => ?_⟩
            have hpos : 0 < List.length (List.drop off xs) := List.length_pos_iff.2 hne
            rw [List.length_drop] at hpos
            rcases q4 with q4 | ⟨k, q4, rfl⟩
            · omega
            rw [q4] at g1; obtain rfl := Option.some.inj g1
            refine ⟨k, o + off, c, e, fz, rfl, h.hshown b hsh k q4, g2, fun i hi => ?_⟩
            have hi' : i < List.length (List.drop off xs) := hi
            rw [List.length_drop] at hi'
            have hgi : ∀ (hq : i < List.length (α := Int) (xs.drop off)), ((xs.drop off)[i]'hq) = xs[off + i] := fun hq => by rw [List.getElem_drop]
            have hgi := hgi hi
            refine ⟨[.int kd xs[off + i]], ⟨congrArg (fun z => [Value.int kd z]) hgi.symm, ?_⟩, rfl, fun j hj => ?_⟩
            · show InK kd ((xs.drop off)[i]'hi)
              rw [hgi]; exact r2 _ (List.getElem_mem _)
            · have hj : j = 0 := by have : j < 1 := hj; omega
              subst hj
              have hr : (c.toList.drop o).take xs.length = xs.map (Value.int kd) := by rw [← r3, r1]
              have hq : ((c.toList.drop o).take xs.length)[off + i]? = some (.int kd xs[off + i]) := by
                rw [hr, List.getElem?_map, List.getElem?_eq_getElem (by omega)]; rfl
              rw [List.getElem?_take, if_pos (by omega), List.getElem?_drop, Array.getElem?_toList] at hq
              show c[o + off + (i * 1 + 0)]? = _
              rw [show o + off + (i * 1 + 0) = o + (off + i) from by omega, hq]; rfl
          · cases hp
        · cases hp
      · cases hp
  | .ifc t x, y, v, hp, hs, hv => by
    obtain ⟨u, rfl, hv⟩ := hv
    cases x with
    | ptr b i es o k n =>
      simp only [passC0] at hp
      split at hp
      · rename_i j hj
        obtain rfl := Option.some.inj hp
        exact ⟨u, rfl, PassOk.cell0 (x := .ptr b i es o k n) (by simp only [passC0]; rw [hj]) (fun b hb => by simp [shownC0] at hb) hv⟩
      · cases hp
    | _ =>
      simp only [passC0] at hp
      split at hp
      · rename_i hr
        obtain rfl := Option.some.inj hp
        exact ⟨u, rfl, h.noRefs hr hv⟩
      · cases hp

/-- a literal's slices, as data -/
theorem PassOk.view : ∀ {fs : List FCell} {ds : List (List Int × Nat)} {vs : List Value}, viewL look ids fs = some ds → (∀ b ∈ shownN ids fs, b ∈ shown) → RelFs E fs vs →
    ds.length = fs.length ∧ ∀ i (hi : i < ds.length), ∃ v, vs[i]? = some v ∧ RoT (callee E ids hl Rl) (.sl (.int .u8)) ds[i] [v]
  | [], ds, vs, hv, _, _ => by
    obtain rfl := Option.some.inj hv
    exact ⟨rfl, fun i hi => by cases hi⟩
  | .ws .. :: fs, ds, vs, hv, _, _ => by simp [viewL] at hv
  | .c x :: fs, ds, vs, hv, hs, hr => by
    simp only [viewL] at hv
    split at hv
    · rename_i d r h1 h2
      obtain rfl := Option.some.inj hv
      obtain ⟨v1, v2, rfl, ⟨v, rfl, q1⟩, q2⟩ := hr
      obtain ⟨g1, g2⟩ := PassOk.view h2 (fun b hb => hs b (List.mem_append_right _ hb)) q2
      have hx : RoSl (callee E ids hl Rl) 1 (RoT (callee E ids hl Rl) (.int .u8)) d.1 d.2 v := by
        unfold viewC at h1
        split at h1
        · rename_i xs len hp
          obtain rfl := Option.some.inj h1
          exact h.cell0 hp (fun b hb => hs b (List.mem_append_left _ hb)) q1
        · rename_i hp
          obtain rfl := Option.some.inj h1
          obtain rfl : v = .slice none 0 0 := h.cell0 hp (fun b hb => hs b (List.mem_append_left _ hb)) q1
          exact ⟨none, 0, rfl, Nat.le_refl _, Nat.le_refl _, by omega, by omega, fun hne => (hne rfl).elim⟩
        · cases h1
      refine ⟨by simp [g1], fun i hi => ?_⟩
      cases i with
      | zero => exact ⟨v, rfl, v, rfl, hx⟩
      | succ i =>
        obtain ⟨w, e1, e2⟩ := g2 i (by simpa using hi)
        exact ⟨w, by simpa using e1, e2⟩
    · cases hv

theorem PassOk.cell {x y : Cell} {v : Value} (hp : passC look ids x = some y) (hs : ∀ b ∈ shownC look ids x, b ∈ shown) (hv : RelC E x v) : RelC (callee E ids hl Rl) y v := by
  unfold passC at hp
  split at hp
  · rename_i b o n off len
    have hs0 : ∀ q ∈ shownC0 ids (.sla b o n off len), q ∈ shown := fun q hq => hs q (List.mem_append_left _ hq)
    split at hp
    · rename_i fs hpl hb
      split at hp
      · exact h.cell0 hp hs0 hv
      · rename_i hw
        split at hp
        · rename_i hc
          obtain ⟨rfl, rfl, rfl, rfl⟩ := hc
          split at hp
          · rename_i ds hds
            obtain rfl := Option.some.inj hp
            have hsn : ∀ q ∈ shownN ids fs, q ∈ shown := fun q hq => hs q (List.mem_append_right _ (by rw [hpl, hb]; simp only [hw]; exact hq))
            have hbs : b ∈ shown := hs0 b (by
              simp only [shownC0]
              rw [if_neg (by rw [seen_iff]; exact place_none hpl)]
              simp)
            have hbE : getB E.H b = .vals fs := by
              rcases h.hlook b with h1 | h1 | ⟨t', xs', lo', par', h1, h2⟩
              · rw [h1] at hb; cases hb
              · rw [← h1]; exact hb
              · rw [h1] at hb; cases hb
            obtain ⟨_, hv⟩ := hv
            unfold RelSla at hv
            rw [hbE] at hv
            obtain ⟨a, cap, rfl, q1, q2, q3, q4⟩ := hv
            obtain ⟨k', c, e, fz, g1, g2, g3, g4⟩ := h.hE.vals hbE
            obtain ⟨r1, r2⟩ := h.view hds hsn g4
            refine ⟨a, cap, rfl, by show _ ≤ List.length (α := List Int × Nat) ds; omega, by show List.length (α := List Int × Nat) ds ≤ cap; omega, q2, by show 0 < 1; omega, fun hne => ?_⟩
            have hpos : 0 < List.length (α := List Int × Nat) ds := List.length_pos_iff.2 hne
            rcases q4 with q4 | ⟨k, q4, rfl⟩
            · omega
            rw [q4] at g1; obtain rfl := Option.some.inj g1
            refine ⟨k, 0, c, e, fz, rfl, h.hshown b hbs k q4, g2, fun i hi => ?_⟩
            obtain ⟨w, e1, e2⟩ := r2 i hi
            refine ⟨[w], e2, rfl, fun j hj => ?_⟩
            have hj : j = 0 := by have : j < 1 := hj; omega
            subst hj
            rw [Array.getElem?_toList] at e1
            show c[0 + (i * 1 + 0)]? = _
            rw [show 0 + (i * 1 + 0) = i from by omega, e1]; rfl
          · cases hp
        · cases hp
    · exact h.cell0 hp hs0 hv
  · rename_i hx
    refine h.cell0 hp (fun q hq => hs q ?_) hv
    unfold shownC
    split
    · rename_i b o n off len
      exact (hx b o n off len rfl).elim
    · exact hq
end pass
end Go.SX
