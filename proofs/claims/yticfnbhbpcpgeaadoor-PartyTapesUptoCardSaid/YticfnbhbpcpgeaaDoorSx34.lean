/-
  SX, part 34: nil slices as slices of an empty block of one's own.
-/
import Derived.Test.YticfnbhbpcpgeaaDoorSx33
namespace Go.SX
open Go
variable {P : Program} {G : GlobT} {E : Env} {S : Tab}

/-- m empty blocks more -/
def plusE (E : Env) (t : DTy) (m : Nat) : Env := ⟨fun b => if E.H.length ≤ b then none else E.β b, E.H ++ List.replicate m (.arr t [] 0 []), E.w, E.R⟩

theorem plus_old {t : DTy} {m b : Nat} (h : b < E.H.length) : getB (plusE E t m).H b = getB E.H b ∧ (plusE E t m).β b = E.β b := by
  constructor
  · show getB (E.H ++ _) b = _
    rw [getB_eq, getB_eq, List.getElem?_append_left h]
  · show (if _ then _ else _) = _
    rw [if_neg (by omega)]
theorem plus_new {t : DTy} {m b : Nat} (h : E.H.length ≤ b) : (plusE E t m).β b = none ∧ (b < E.H.length + m → getB (plusE E t m).H b = .arr t [] 0 []) ∧ (E.H.length + m ≤ b → getB (plusE E t m).H b = .dead) := by
  refine ⟨?_, fun h' => ?_, fun h' => ?_⟩
  · show (if _ then _ else _) = _
    rw [if_pos h]
  · show getB (E.H ++ _) b = _
    rw [getB_eq, List.getElem?_append_right h, List.getElem?_replicate, if_pos (by omega)]; rfl
  · show getB (E.H ++ _) b = _
    rw [getB_eq, List.getElem?_append_right h, List.getElem?_replicate, if_neg (by omega)]; rfl
theorem plus_live {t : DTy} {m b k : Nat} (hl : live (getB (plusE E t m).H b) = true) (hk : (plusE E t m).β b = some k) : live (getB E.H b) = true ∧ E.β b = some k := by
  rcases Nat.lt_or_ge b E.H.length with h | h
  · rw [(plus_old h).1] at hl
    rw [(plus_old h).2] at hk
    exact ⟨hl, hk⟩
  · rw [(plus_new h).1] at hk; cases hk
theorem dead_of {H : Heap} {b : Nat} (h : H.length ≤ b) : getB H b = .dead := by rw [getB_eq, List.getElem?_eq_none h]; rfl

theorem plus_ext {t : DTy} {m : Nat} : Ext E (plusE E t m) where
  os := rfl
  tape := rfl
  output := rfl
  size := Nat.le_refl _
  ro := fun _ h => h
  rnew := fun _ h => .inl h
  keep := fun _ _ _ => rfl
  cells := fun k c e fz h => ⟨c, fz, h, rfl⟩
  blk := fun b => by
    rcases Nat.lt_or_ge b E.H.length with h | h
    · rw [(plus_old h).1]
      have e := (plus_old (t := t) (m := m) h).2
      cases getB E.H b <;> simp [BExt, e]
    · rw [dead_of h]; trivial
  fresh := fun b k h1 h2 => .inl ⟨b, plus_live h1 h2⟩

theorem plus_rep {t : DTy} {m : Nat} (h : RepH G E) (ht : 0 < t.size) : RepH G (plusE E t m) where
  ro := fun k hk => ⟨(h.ro k hk).1, fun b hb hbk => (h.ro k hk).2 b (plus_live hb hbk).1 (plus_live hb hbk).2⟩
  inj := fun b b' k hb hb' hk hk' => h.inj b b' k (plus_live hb hk).1 (plus_live hb' hk').1 (plus_live hb hk).2 (plus_live hb' hk').2
  blk := fun b => by
    rcases Nat.lt_or_ge b E.H.length with hb | hb
    · rw [(plus_old hb).1]
      refine (h.blk b).ext h plus_ext (plus_old hb).2 (fun _ _ _ h => h) (fun t' xs k hf hk b' hl hb' => ?_)
      obtain ⟨q1, q2⟩ := plus_live hl hb'
      obtain ⟨xs', lo, par, g1, g2, g3⟩ := h.shares hf hk q1 q2
      refine ⟨xs', lo, par, ?_, g2, g3⟩
      rw [(plus_old (getB_len (live_ne_dead q1))).1]; exact g1
    · obtain ⟨g1, g2, g3⟩ := plus_new (t := t) (m := m) hb
      rcases Nat.lt_or_ge b (E.H.length + m) with hm | hm
      · rw [g2 hm]; exact ⟨Nat.le_refl _, ht, .inl ⟨g1, rfl⟩⟩
      · rw [g3 hm]; trivial
  glob := h.globExt plus_ext

def ownC (n : Nat) : Cell → Cell × Nat
  | .nils => (.sl n 0 0, n + 1)
  | x => (x, n)
def ownF : Nat → List FCell → List FCell × Nat
  | n, [] => ([], n)
  | n, .c x :: fs => (.c (ownC n x).1 :: (ownF (ownC n x).2 fs).1, (ownF (ownC n x).2 fs).2)
  | n, .ws k m xs :: fs => (.ws k m xs :: (ownF n fs).1, (ownF n fs).2)
def ownV (n : Nat) : V1 → V1 × Nat
  | .c x => (.c (ownC n x).1, (ownC n x).2)
  | .g fs => (.g (ownF n fs).1, (ownF n fs).2)
def ownVs : Nat → List V1 → List V1 × Nat
  | n, [] => ([], n)
  | n, v :: vs => ((ownV n v).1 :: (ownVs (ownV n v).2 vs).1, (ownVs (ownV n v).2 vs).2)
def ownS (n : Nat) : SV → SV × Nat
  | .any => (.any, n)
  | .one v => (.one (ownV n v).1, (ownV n v).2)
  | .tup vs => (.tup (ownVs n vs).1, (ownVs n vs).2)

theorem ownC_mono {n : Nat} {x : Cell} : n ≤ (ownC n x).2 := by cases x <;> simp [ownC]
theorem ownF_mono : ∀ {fs : List FCell} {n : Nat}, n ≤ (ownF n fs).2
  | [], n => Nat.le_refl _
  | .c x :: fs, n => Nat.le_trans ownC_mono (ownF_mono (fs := fs))
  | .ws .. :: fs, n => ownF_mono (fs := fs)
theorem ownV_mono {n : Nat} {v : V1} : n ≤ (ownV n v).2 := by
  cases v with
  | c x => exact ownC_mono
  | g fs => exact ownF_mono
theorem ownVs_mono : ∀ {vs : List V1} {n : Nat}, n ≤ (ownVs n vs).2
  | [], n => Nat.le_refl _
  | v :: vs, n => Nat.le_trans ownV_mono (ownVs_mono (vs := vs))

/-- the new blocks' numbers -/
def Empties (E : Env) (t : DTy) (lo hi : Nat) : Prop := ∀ b, lo ≤ b → b < hi → getB E.H b = .arr t [] 0 [] ∧ E.β b = none

theorem ownC_rel {t : DTy} {n hi : Nat} {x : Cell} {v : Value} (he : Empties E t n hi) (hh : (ownC n x).2 ≤ hi) (h : RelC E x v) : RelC E (ownC n x).1 v := by
  cases x with
  | nils =>
    obtain rfl : v = .slice none 0 0 := h
    obtain ⟨g1, g2⟩ := he n (Nat.le_refl _) hh
    refine ⟨trivial, ?_⟩
    show RelSl E n 0 0 _
    unfold RelSl
    rw [g1]
    exact ⟨none, 0, rfl, Nat.le_refl _, by omega, Nat.le_refl _, .inl ⟨g2, rfl⟩⟩
  | _ => exact h
theorem Empties.from {t : DTy} {n n' hi : Nat} (h : Empties E t n hi) (hn : n ≤ n') : Empties E t n' hi := fun b h1 h2 => h b (by omega) h2
theorem ownF_rel {t : DTy} {hi : Nat} : ∀ {fs : List FCell} {n : Nat} {vs : List Value}, Empties E t n hi → (ownF n fs).2 ≤ hi → RelFs E fs vs → RelFs E (ownF n fs).1 vs
  | [], _, _, _, _, h => h
  | .c x :: fs, n, vs, he, hh, h => by
    obtain ⟨v1, v2, rfl, ⟨v, rfl, h1⟩, h2⟩ := h
    have hm : (ownC n x).2 ≤ (ownF (ownC n x).2 fs).2 := ownF_mono
    exact ⟨[v], v2, rfl, ⟨v, rfl, ownC_rel he (Nat.le_trans hm hh) h1⟩, ownF_rel (fs := fs) (he.from ownC_mono) hh h2⟩
  | .ws .. :: fs, n, vs, he, hh, h => by
    obtain ⟨v1, v2, rfl, h1, h2⟩ := h
    exact ⟨v1, v2, rfl, h1, ownF_rel (fs := fs) he hh h2⟩
theorem ownV_rel {t : DTy} {n hi : Nat} {x : V1} {v : Value} (he : Empties E t n hi) (hh : (ownV n x).2 ≤ hi) (h : RelV E x v) : RelV E (ownV n x).1 v := by
  cases x with
  | c x => exact ownC_rel he hh h
  | g fs => obtain ⟨cs, rfl, h⟩ := h; exact ⟨cs, rfl, ownF_rel he hh h⟩
theorem ownVs_rel {t : DTy} {hi : Nat} : ∀ {xs : List V1} {n : Nat} {vs : List Value}, Empties E t n hi → (ownVs n xs).2 ≤ hi → RelVs E xs vs → RelVs E (ownVs n xs).1 vs
  | [], _, _, _, _, h => h
  | x :: xs, n, vs, he, hh, h => by
    obtain ⟨u, us, rfl, h1, h2⟩ := h
    have hm : (ownV n x).2 ≤ (ownVs (ownV n x).2 xs).2 := ownVs_mono
    exact ⟨u, us, rfl, ownV_rel he (Nat.le_trans hm hh) h1, ownVs_rel (xs := xs) (he.from ownV_mono) hh h2⟩
theorem ownS_rel {t : DTy} {n hi : Nat} {x : SV} {v : Value} (he : Empties E t n hi) (hh : (ownS n x).2 ≤ hi) (h : RelS E x v) : RelS E (ownS n x).1 v := by
  cases x with
  | any => trivial
  | one x => exact ownV_rel he hh h
  | tup xs => obtain ⟨us, rfl, h⟩ := h; exact ⟨us, rfl, ownVs_rel he hh h⟩

theorem plus_empties {t : DTy} {m : Nat} : Empties (plusE E t m) t E.H.length (E.H.length + m) := fun b h1 h2 => ⟨(plus_new h1).2.1 h2, (plus_new h1).1⟩

/-- a slot that holds nil -/
theorem Runs.nilSlot {fn : Func} {m : Nat} {is : List Item} {s : St} {v : SV} {hl : Heap} (d : Nat) (t : DTy) (ht : 0 < t.size)
    (h : Runs P S fn m is ⟨setT s.t d (ownS s.h.length (getT s.t d)).1, s.h ++ List.replicate ((ownS s.h.length (getT s.t d)).2 - s.h.length) (.arr t [] 0 [])⟩ v hl) : Runs P S fn m is s v hl := by
  intro E0 E a x hm hs
  refine h E0 (plusE E t ((ownS s.h.length (getT s.t d)).2 - s.h.length)) a (x.trans plus_ext) hm ⟨plus_rep hs.h ht, ?_, ?_, hs.d⟩
  · show E.H ++ _ = s.h ++ _
    rw [hs.eq]
  · have ht0 := RelTs.ext hs.h (plus_ext (t := t) (m := (ownS s.h.length (getT s.t d)).2 - s.h.length)) _ _ hs.t
    have hg := relTs_get (u := d) ht0
    have he := plus_empties (E := E) (t := t) (m := (ownS s.h.length (getT s.t d)).2 - s.h.length)
    have hr := ownS_rel (n := s.h.length) (hi := E.H.length + ((ownS s.h.length (getT s.t d)).2 - s.h.length)) (by rw [← hs.eq]; rw [← hs.eq] at he; exact he) (by rw [hs.eq]; omega) hg
    have hset := relTs_set (d := d) ht0 hr
    have : (a.tmps.toList.set d (a.tmps.toList.getD d undef)) = a.tmps.toList := by
      apply List.ext_getElem?
      intro i
      rw [List.getElem?_set]
      split
      · rename_i e
        subst e
        split
        · rename_i hlt
          rw [List.getD_eq_getElem?_getD, List.getElem?_eq_getElem hlt]; rfl
        · rename_i hlt
          rw [List.getElem?_eq_none (by omega)]
      · rfl
    rwa [this] at hset

/-- a variable's cells that hold nil -/
theorem Runs.nilVals {fn : Func} {m : Nat} {is : List Item} {s : St} {v : SV} {hl : Heap} (b : Nat) (t : DTy) (ht : 0 < t.size) {fs : List FCell} (hb : getB s.h b = .vals fs)
    (h : Runs P S fn m is ⟨s.t, setB s.h b (.vals (ownF s.h.length fs).1) ++ List.replicate ((ownF s.h.length fs).2 - s.h.length) (.arr t [] 0 [])⟩ v hl) : Runs P S fn m is s v hl := by
  intro E0 E a x hm hs
  have hbE : getB E.H b = .vals fs := by rw [hs.eq]; exact hb
  have hlt : b < E.H.length := getB_len (by rw [hbE]; intro h; cases h)
  let E1 := plusE E t ((ownF s.h.length fs).2 - s.h.length)
  have x1 : Ext E E1 := plus_ext
  have r1 : RepH S.gl E1 := plus_rep hs.h ht
  have hb1 : getB E1.H b = .vals fs := by rw [(plus_old hlt).1]; exact hbE
  have hH : setB s.h b (.vals (ownF s.h.length fs).1) ++ List.replicate ((ownF s.h.length fs).2 - s.h.length) (.arr t [] 0 []) = setB E1.H b (.vals (ownF s.h.length fs).1) := by
    show _ = setB (E.H ++ _) b _
    rw [hs.eq] at hlt ⊢
    have key : ∀ (H : Heap) (n : Nat) (k : Blk) (R : Heap), n < H.length → setB H n k ++ R = setB (H ++ R) n k := by
      intro H
      induction H with
      | nil => intro n k R h; exact absurd h (Nat.not_lt_zero _)
      | cons y H ih =>
        intro n k R h
        cases n with
        | zero => rfl
        | succ n => simp only [setB, List.cons_append]; rw [ih n k R (by simpa using h)]
    exact key _ _ _ _ hlt
  let E2 : Env := ⟨E1.β, setB E1.H b (.vals (ownF s.h.length fs).1), E1.w, E1.R⟩
  have hlt1 : b < E1.H.length := getB_len (by rw [hb1]; intro h; cases h)
  have hg2 : ∀ b', b' ≠ b → getB E2.H b' = getB E1.H b' := fun b' h => getB_setB_ne h
  have hgb : getB E2.H b = .vals (ownF s.h.length fs).1 := getB_setB_same hlt1
  have hlive : ∀ b', live (getB E2.H b') = live (getB E1.H b') := fun b' => by
    by_cases e : b' = b
    · subst e; rw [hgb, hb1]; rfl
    · rw [hg2 b' e]
  have x2 : Ext E1 E2 := {
    os := rfl, tape := rfl, output := rfl, size := Nat.le_refl _, ro := fun _ h => h, rnew := fun _ h => .inl h, keep := fun _ _ _ => rfl
    cells := fun k c e fz h => ⟨c, fz, h, rfl⟩
    blk := fun b' => by
      by_cases e : b' = b
      · subst e; rw [hgb, hb1]; exact rfl
      · rw [hg2 b' e]
        cases getB E1.H b' <;> simp [BExt, E2]
    fresh := fun b' k h1 h2 => .inl ⟨b', by rwa [hlive] at h1, h2⟩ }
  have he : Empties E2 t s.h.length (s.h.length + ((ownF s.h.length fs).2 - s.h.length)) := fun b' h1 h2 => by
    have hne : b' ≠ b := by rw [hs.eq] at hlt; omega
    have := plus_empties (E := E) (t := t) (m := (ownF s.h.length fs).2 - s.h.length) b' (by rw [hs.eq]; exact h1) (by rw [hs.eq]; exact h2)
    exact ⟨by rw [hg2 b' hne]; exact this.1, this.2⟩
  have r2 : RepH S.gl E2 := {
    ro := fun k hk => ⟨(r1.ro k hk).1, fun b' hb' => (r1.ro k hk).2 b' (by rwa [hlive] at hb')⟩
    inj := fun b1 b2 k h1 h2 => r1.inj b1 b2 k (by rwa [hlive] at h1) (by rwa [hlive] at h2)
    blk := fun b' => by
      by_cases e : b' = b
      · subst e
        rw [hgb]
        have := r1.blk b'
        rw [hb1] at this
        obtain ⟨k, c, ee, fz, g1, g2, g3, g4⟩ := this
        exact ⟨k, c, ee, fz, g1, g2, g3, ownF_rel he (by omega) (RelFs.ext r1 x2 _ _ g4)⟩
      · rw [hg2 b' e]
        refine (r1.blk b').ext r1 x2 rfl (fun _ _ _ h => h) (fun t' xs k hf hk b'' hl hb'' => ?_)
        rw [hlive] at hl
        obtain ⟨xs', lo, par, q1, q2, q3⟩ := r1.shares hf hk hl hb''
        have : b'' ≠ b := by rintro rfl; rw [hb1] at q1; cases q1
        exact ⟨xs', lo, par, by rw [hg2 b'' this]; exact q1, q2, q3⟩
    glob := r1.globExt x2 }
  refine h E0 E2 a ((x.trans x1).trans x2) hm ⟨r2, ?_, RelTs.ext r1 x2 _ _ (RelTs.ext hs.h x1 _ _ hs.t), hs.d⟩
  rw [hH]

/-- nil among the results -/
theorem Runs.nilRes {fn : Func} {m : Nat} {is : List Item} {s : St} {v : SV} {hl : Heap} (t : DTy) (ht : 0 < t.size) (h : Runs P S fn m is s v hl) :
    Runs P S fn m is s (ownS hl.length v).1 (hl ++ List.replicate ((ownS hl.length v).2 - hl.length) (.arr t [] 0 [])) := by
  intro E0 E a x hm hs
  refine (h E0 E a x hm hs).mono fun a' w' q => ?_
  refine ⟨q.1, fun w₁ g => ?_⟩
  obtain ⟨u, q1, β', R', q2, q3, q4⟩ := q.2 w₁ g
  let E1 : Env := ⟨β', hl, w₁, R'⟩
  refine ⟨u, q1, (plusE E1 t ((ownS hl.length v).2 - hl.length)).β, R', plus_rep (E := E1) q2 ht, q3.trans (plus_ext (E := E1)), ?_⟩
  exact ownS_rel (plus_empties (E := E1) (t := t) (m := (ownS hl.length v).2 - hl.length)) (by show _ ≤ hl.length + _; omega) (RelS.ext q2 plus_ext _ _ q4)
end Go.SX
