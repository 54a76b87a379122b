/-
  SX, part 5: fat cells and the cells that they stand for.
-/
import Derived.Test.YticfnbhbpcpgeaaDoorSx4
namespace Go.SX
open Go
variable {E : Env}

theorem RoT.len : ∀ {t : DTy} {d : t.den} {vs : List Value}, RoT E t d vs → vs.length = t.size
  | .unit, _, _, h => by subst h; rfl
  | .int _, _, _, h => by rw [h.1]; rfl
  | .bool, _, _, h => by rw [h]; rfl
  | .str, _, _, h => by rw [h]; rfl
  | .ws k n, d, vs, h => by
    obtain ⟨h1, _, h3⟩ := h
    rw [h3]; exact (List.length_map (as := (show List Int from d)) _).trans h1
  | .pair a b, d, vs, h => by
    obtain ⟨v1, v2, rfl, h2, h3⟩ := h
    rw [List.length_append, RoT.len h2, RoT.len h3]; rfl
  | .sl t, d, vs, h => by obtain ⟨v, rfl, _⟩ := h; rfl
  | .ref, d, vs, h => by obtain ⟨v, h1, _⟩ := h; rw [h1]; rfl

theorem RelF.len {f : FCell} {vs : List Value} (h : RelF E f vs) : vs.length = f.size := by
  cases f with
  | c x => obtain ⟨v, rfl, _⟩ := h; rfl
  | ws k n xs => obtain ⟨h1, _, rfl⟩ := h; rw [List.length_map, h1]; rfl

theorem RelFs.len : ∀ {fs : List FCell} {vs : List Value}, RelFs E fs vs → vs.length = fsize fs
  | [], vs, h => by subst h; rfl
  | f :: fs, vs, h => by
    obtain ⟨v1, v2, rfl, h2, h3⟩ := h
    rw [List.length_append, RelF.len h2, RelFs.len h3]; rfl

theorem RelFs.append : ∀ {fs gs : List FCell} {v1 v2 : List Value}, RelFs E fs v1 → RelFs E gs v2 → RelFs E (fs ++ gs) (v1 ++ v2)
  | [], gs, v1, v2, h1, h2 => by subst h1; exact h2
  | f :: fs, gs, v1, v2, h1, h2 => by
    obtain ⟨u1, u2, rfl, h3, h4⟩ := h1
    exact ⟨u1, u2 ++ v2, by rw [List.append_assoc], h3, RelFs.append h4 h2⟩

theorem RelFs.split : ∀ {fs gs : List FCell} {vs : List Value}, RelFs E (fs ++ gs) vs → ∃ v1 v2, vs = v1 ++ v2 ∧ RelFs E fs v1 ∧ RelFs E gs v2
  | [], gs, vs, h => ⟨[], vs, rfl, rfl, h⟩
  | f :: fs, gs, vs, h => by
    obtain ⟨u1, u2, rfl, h3, h4⟩ := h
    obtain ⟨v1, v2, rfl, h5, h6⟩ := RelFs.split h4
    exact ⟨u1 ++ v1, v2, by rw [List.append_assoc], ⟨u1, v1, rfl, h3, h5⟩, h6⟩

theorem relFs_one {x : Cell} {v : Value} (h : RelC E x v) : RelFs E [.c x] [v] := ⟨[v], [], rfl, ⟨v, rfl, h⟩, rfl⟩

theorem relFs_one_inv {x : Cell} {vs : List Value} (h : RelFs E [.c x] vs) : ∃ v, vs = [v] ∧ RelC E x v := by
  obtain ⟨v1, v2, rfl, ⟨v, rfl, h2⟩, rfl⟩ := h
  exact ⟨v, rfl, h2⟩

theorem toF_rel : ∀ (t : DTy) (d : t.den) (vs : List Value), RoT E t d vs → RelFs E (toF t d) vs
  | .unit, _, _, h => h
  | .int k, d, vs, h => by obtain ⟨rfl, h2⟩ := h; exact relFs_one (x := .int false k d) ⟨rfl, h2⟩
  | .bool, d, vs, h => by
    have h : vs = [.bool d] := h
    subst h; exact relFs_one (x := .bool false d) rfl
  | .str, d, vs, h => by
    have h : vs = [.string d] := h
    subst h; exact relFs_one (x := .str d) rfl
  | .ws k n, d, vs, h => ⟨vs, [], by simp, h, rfl⟩
  | .pair a b, d, vs, h => by
    obtain ⟨v1, v2, rfl, h2, h3⟩ := h
    exact RelFs.append (toF_rel a _ _ h2) (toF_rel b _ _ h3)
  | .sl t, d, vs, h => by
    obtain ⟨v, rfl, h2⟩ := h
    exact relFs_one (x := .ro t d.1 d.2) h2
  | .ref, d, vs, h => by
    obtain ⟨v, h1, h2⟩ := h
    rw [h1]
    exact relFs_one (x := .ref d) h2

theorem toF_rel_inv : ∀ (t : DTy) (d : t.den) (vs : List Value), RelFs E (toF t d) vs → RoT E t d vs
  | .unit, _, _, h => h
  | .int k, d, vs, h => by
    obtain ⟨v, rfl, h2⟩ := relFs_one_inv h
    obtain ⟨rfl, h3⟩ := h2
    exact ⟨rfl, h3⟩
  | .bool, d, vs, h => by
    obtain ⟨v, rfl, h2⟩ := relFs_one_inv h
    have h2 : v = .bool d := h2
    subst h2; rfl
  | .str, d, vs, h => by
    obtain ⟨v, rfl, h2⟩ := relFs_one_inv h
    have h2 : v = .string d := h2
    subst h2; rfl
  | .ws k n, d, vs, h => by
    obtain ⟨v1, v2, rfl, h2, rfl⟩ := h
    rw [List.append_nil]; exact h2
  | .pair a b, d, vs, h => by
    obtain ⟨v1, v2, rfl, h2, h3⟩ := RelFs.split h
    exact ⟨v1, v2, rfl, toF_rel_inv a _ _ h2, toF_rel_inv b _ _ h3⟩
  | .sl t, d, vs, h => by
    obtain ⟨v, rfl, h2⟩ := relFs_one_inv h
    exact ⟨v, rfl, h2⟩
  | .ref, d, vs, h => by
    obtain ⟨v, h1, h2⟩ := relFs_one_inv h
    exact ⟨v, h1, h2⟩

theorem castL_eq {t u : DTy} {xs : List t.den} {ys : List u.den} (h : castL xs = some ys) : ∃ e : t = u, e ▸ xs = ys := by
  unfold castL at h
  split at h
  · rename_i e; exact ⟨e, Option.some.inj h⟩
  · cases h

theorem relFs_cons_c {x : Cell} {fs : List FCell} {vs : List Value} (h : RelFs E (.c x :: fs) vs) : ∃ v us, vs = v :: us ∧ RelC E x v ∧ RelFs E fs us := by
  obtain ⟨v1, v2, rfl, ⟨v, rfl, h2⟩, h3⟩ := h
  exact ⟨v, v2, rfl, h2, h3⟩

theorem relFs_cons_ws {k : IntKind} {n : Nat} {xs : List Int} {fs : List FCell} {vs : List Value} (h : RelFs E (.ws k n xs :: fs) vs) :
    ∃ us, vs = xs.map (Value.int k) ++ us ∧ xs.length = n ∧ (∀ x ∈ xs, InK k x) ∧ RelFs E fs us := by
  obtain ⟨v1, v2, rfl, ⟨h1, h2, rfl⟩, h3⟩ := h
  exact ⟨v2, rfl, h1, h2, h3⟩

theorem ofF_rel : ∀ (t : DTy) {fs : List FCell} {d : t.den} {rest : List FCell} {vs : List Value}, ofF t fs = some (d, rest) → RelFs E fs vs →
    ∃ v1 v2, vs = v1 ++ v2 ∧ RoT E t d v1 ∧ RelFs E rest v2
  | .unit, fs, d, rest, vs, h, hr => by
    simp only [ofF, Option.some.injEq, Prod.mk.injEq] at h
    obtain ⟨_, rfl⟩ := h
    exact ⟨[], vs, rfl, rfl, hr⟩
  | .int k, fs, d, rest, vs, h, hr => by
    simp only [ofF] at h
    split at h
    · split at h
      · rename_i hk; subst hk
        obtain ⟨rfl, rfl⟩ := Prod.mk.inj (Option.some.inj h)
        obtain ⟨v, us, rfl, ⟨rfl, h2⟩, h3⟩ := relFs_cons_c hr
        exact ⟨[_], us, rfl, ⟨rfl, h2⟩, h3⟩
      · cases h
    · cases h
  | .bool, fs, d, rest, vs, h, hr => by
    simp only [ofF] at h
    split at h
    · obtain ⟨rfl, rfl⟩ := Prod.mk.inj (Option.some.inj h)
      obtain ⟨v, us, rfl, h2, h3⟩ := relFs_cons_c hr
      exact ⟨[v], us, rfl, by rw [show v = _ from h2]; rfl, h3⟩
    · cases h
  | .str, fs, d, rest, vs, h, hr => by
    simp only [ofF] at h
    split at h
    · obtain ⟨rfl, rfl⟩ := Prod.mk.inj (Option.some.inj h)
      obtain ⟨v, us, rfl, h2, h3⟩ := relFs_cons_c hr
      exact ⟨[v], us, rfl, by rw [show v = _ from h2]; rfl, h3⟩
    · cases h
  | .ws k n, fs, d, rest, vs, h, hr => by
    simp only [ofF] at h
    split at h
    · split at h
      · rename_i hk; obtain ⟨rfl, rfl⟩ := hk
        obtain ⟨rfl, rfl⟩ := Prod.mk.inj (Option.some.inj h)
        obtain ⟨us, rfl, h2, h3, h4⟩ := relFs_cons_ws hr
        exact ⟨_, us, rfl, ⟨h2, h3, rfl⟩, h4⟩
      · cases h
    · cases h
  | .pair a b, fs, d, rest, vs, h, hr => by
    simp only [ofF] at h
    split at h
    · rename_i x r h1
      split at h
      · rename_i y r' h2
        obtain ⟨rfl, rfl⟩ := Prod.mk.inj (Option.some.inj h)
        obtain ⟨v1, v2, rfl, g1, g2⟩ := ofF_rel a h1 hr
        obtain ⟨v3, v4, rfl, g3, g4⟩ := ofF_rel b h2 g2
        exact ⟨v1 ++ v3, v4, by rw [List.append_assoc], ⟨v1, v3, rfl, g1, g3⟩, g4⟩
      · cases h
    · cases h
  | .sl t, fs, d, rest, vs, h, hr => by
    simp only [ofF] at h
    split at h
    · split at h
      · rename_i hz
        obtain ⟨rfl, rfl⟩ := Prod.mk.inj (Option.some.inj h)
        obtain ⟨v, us, rfl, h2, h3⟩ := relFs_cons_c hr
        have h2 : v = .slice none 0 0 := h2
        subst h2
        exact ⟨[_], us, rfl, ⟨_, rfl, none, 0, rfl, Nat.le_refl _, Nat.le_refl _, by decide, hz, fun h => absurd rfl h⟩, h3⟩
      · cases h
    · split at h
      · rename_i xs len fs' ys hc
        obtain ⟨rfl, rfl⟩ := Prod.mk.inj (Option.some.inj h)
        obtain ⟨e, he⟩ := castL_eq hc
        subst e
        simp only at he
        subst he
        obtain ⟨v, us, rfl, h2, h3⟩ := relFs_cons_c hr
        exact ⟨[v], us, rfl, ⟨v, rfl, h2⟩, h3⟩
      · cases h
    · cases h
  | .ref, fs, d, rest, vs, h, hr => by
    simp only [ofF] at h
    split at h
    all_goals first | (cases h; done) | skip
    all_goals
      obtain ⟨h1, h2⟩ := Prod.mk.inj (Option.some.inj h)
      obtain ⟨v, us, hv, h2', h3⟩ := relFs_cons_c hr
      subst h1 h2
      exact ⟨[v], us, hv, ⟨v, rfl, h2'⟩, h3⟩

theorem ofFall_rel {t : DTy} {fs : List FCell} {d : t.den} {vs : List Value} (h : ofFall t fs = some d) (hr : RelFs E fs vs) : RoT E t d vs := by
  unfold ofFall at h
  split at h
  · rename_i d' h1
    obtain rfl := Option.some.inj h
    obtain ⟨v1, v2, rfl, h2, h3⟩ := ofF_rel t h1 hr
    have h3 : v2 = [] := h3
    subst h3
    rw [List.append_nil]; exact h2
  · cases h

/-- the place of a pointer within a row of n numbers (n = 0: no row) -/
def KN (k n : Nat) : Prop := n = 0 ∧ k = 0 ∨ k < n

theorem getC_rel : ∀ {fs : List FCell} {o k n : Nat} {x : Cell} {vs : List Value}, getC fs o k n = some x → KN k n → RelFs E fs vs →
    ∃ v, vs[o + k]? = some v ∧ RelC E x v
  | [], _, _, _, _, _, h, _, _ => by simp [getC] at h
  | .c y :: fs, o, k, n, x, vs, h, hk, hr => by
    obtain ⟨v, us, rfl, h2, h3⟩ := relFs_cons_c hr
    cases o with
    | zero =>
      cases n with
      | zero =>
        simp only [getC, Option.some.injEq] at h
        subst h
        rcases hk with ⟨_, rfl⟩ | hk
        · exact ⟨v, rfl, h2⟩
        · omega
      | succ n => simp [getC] at h
    | succ o =>
      obtain ⟨v', g1, g2⟩ := getC_rel (fs := fs) (o := o) h hk h3
      exact ⟨v', by rw [show o + 1 + k = (o + k) + 1 from by omega, List.getElem?_cons_succ]; exact g1, g2⟩
  | .ws kd m xs :: fs, o, k, n, x, vs, h, hk, hr => by
    obtain ⟨us, rfl, h2, h3, h4⟩ := relFs_cons_ws hr
    cases o with
    | zero =>
      simp only [getC] at h
      split at h
      · rename_i hm
        obtain rfl := Option.some.inj h
        have hlt : k < xs.length := by rcases hk with ⟨hn, rfl⟩ | hk <;> omega
        have hd : xs.getD k 0 = xs[k] := by simp [List.getD, hlt]
        refine ⟨.int kd (xs.getD k 0), ?_, rfl, h3 _ (by rw [hd]; exact List.getElem_mem hlt)⟩
        rw [Nat.zero_add, List.getElem?_append_left (by simpa using hlt), List.getElem?_map, hd, List.getElem?_eq_getElem hlt]
        rfl
      · cases h
    | succ o =>
      simp only [getC] at h
      split at h
      · rename_i hle
        obtain ⟨v', g1, g2⟩ := getC_rel h hk h4
        refine ⟨v', ?_, g2⟩
        rw [List.getElem?_append_right (by simp; omega), List.length_map, h2, show o + 1 + k - m = o + 1 - m + k from by omega]
        exact g1
      · cases h

theorem takeF_rel : ∀ {fs : List FCell} {n : Nat} {r : List FCell} {vs : List Value}, takeF fs n = some r → RelFs E fs vs → RelFs E r (vs.take n) ∧ n ≤ vs.length
  | fs, 0, r, vs, h, hr => by
    have h : some [] = some r := by cases fs <;> exact h
    obtain rfl := Option.some.inj h
    exact ⟨rfl, Nat.zero_le _⟩
  | [], n + 1, r, vs, h, hr => by simp [takeF] at h
  | f :: fs, n + 1, r, vs, h, hr => by
    obtain ⟨v1, v2, rfl, h2, h3⟩ := hr
    have hl := RelF.len h2
    simp only [takeF] at h
    split at h
    · cases h
    · rename_i s hs
      split at h
      · rename_i hle
        split at h
        · rename_i r' h4
          obtain rfl := Option.some.inj h
          obtain ⟨g1, g2⟩ := takeF_rel h4 h3
          refine ⟨⟨v1, v2.take (n - s), ?_, h2, g1⟩, ?_⟩
          · rw [List.take_append, List.take_of_length_le (by omega), show n + 1 - v1.length = n - s from by omega]
          · rw [List.length_append]; omega
        · cases h
      · cases h

theorem dropF_rel : ∀ {fs : List FCell} {n : Nat} {r : List FCell} {vs : List Value}, dropF fs n = some r → RelFs E fs vs → RelFs E r (vs.drop n) ∧ n ≤ vs.length
  | fs, 0, r, vs, h, hr => by
    have h : some fs = some r := by cases fs <;> exact h
    obtain rfl := Option.some.inj h
    exact ⟨hr, Nat.zero_le _⟩
  | [], n + 1, r, vs, h, hr => by simp [dropF] at h
  | f :: fs, n + 1, r, vs, h, hr => by
    obtain ⟨v1, v2, rfl, h2, h3⟩ := hr
    have hl := RelF.len h2
    simp only [dropF] at h
    split at h
    · obtain ⟨g1, g2⟩ := dropF_rel h h3
      refine ⟨?_, by rw [List.length_append]; omega⟩
      rw [List.drop_append, List.drop_eq_nil_of_le (by omega), List.nil_append, hl]
      exact g1
    · cases h

theorem getG_rel {fs : List FCell} {o n : Nat} {r : List FCell} {vs : List Value} (h : getG fs o n = some r) (hr : RelFs E fs vs) :
    RelFs E r ((vs.drop o).take n) ∧ o + n ≤ vs.length := by
  unfold getG at h
  split at h
  · rename_i r' h1
    obtain ⟨g1, g2⟩ := dropF_rel h1 hr
    obtain ⟨g3, g4⟩ := takeF_rel h g1
    rw [List.length_drop] at g4
    exact ⟨g3, by omega⟩
  · cases h

theorem setC_rel : ∀ {fs : List FCell} {o k n : Nat} {y : Cell} {r : List FCell} {vs : List Value} {v : Value}, setC fs o k n y = some r → KN k n → RelFs E fs vs → RelC E y v →
    RelFs E r (vs.set (o + k) v) ∧ o + k < vs.length
  | [], _, _, _, _, _, _, _, h, _, _, _ => by simp [setC] at h
  | .c x :: fs, o, k, n, y, r, vs, v, h, hk, hr, hv => by
    obtain ⟨v0, us, rfl, h2, h3⟩ := relFs_cons_c hr
    cases o with
    | zero =>
      cases n with
      | zero =>
        rcases hk with ⟨_, rfl⟩ | hk
        · simp only [setC, Option.some.injEq] at h
          subst h
          exact ⟨⟨[v], us, rfl, ⟨v, rfl, hv⟩, h3⟩, by simp⟩
        · omega
      | succ n => simp [setC] at h
    | succ o =>
      simp only [setC] at h
      split at h
      · rename_i r' h4
        obtain rfl := Option.some.inj h
        obtain ⟨g1, g2⟩ := setC_rel h4 hk h3 hv
        rw [show o + 1 + k = (o + k) + 1 from by omega]
        exact ⟨⟨[v0], us.set (o + k) v, rfl, ⟨v0, rfl, h2⟩, g1⟩, by simp; omega⟩
      · cases h
  | .ws kd m xs :: fs, o, k, n, y, r, vs, v, h, hk, hr, hv => by
    obtain ⟨us, rfl, h2, h3, h4⟩ := relFs_cons_ws hr
    cases o with
    | zero =>
      simp only [setC] at h
      split at h
      · split at h
        · rename_i l kd' n' hm
          obtain ⟨rfl, rfl, hn⟩ := hm
          obtain rfl := Option.some.inj h
          obtain ⟨rfl, hv⟩ := hv
          have hlt : k < xs.length := by rcases hk with ⟨hn, rfl⟩ | hk <;> omega
          rw [Nat.zero_add]
          refine ⟨⟨(xs.set k n').map (Value.int kd), us, ?_, ⟨by simpa using h2, ?_, rfl⟩, h4⟩, by simp; omega⟩
          · rw [List.set_append_left _ _ (by simpa using hlt), List.map_set]
          · intro x hx
            rcases List.mem_or_eq_of_mem_set hx with h | h
            · exact h3 x h
            · subst h; exact hv
        · cases h
      · cases h
    | succ o =>
      simp only [setC] at h
      split at h
      · rename_i hle
        split at h
        · rename_i r' h5
          obtain rfl := Option.some.inj h
          obtain ⟨g1, g2⟩ := setC_rel h5 hk h4 hv
          refine ⟨⟨xs.map (Value.int kd), us.set (o + 1 - m + k) v, ?_, ⟨h2, h3, rfl⟩, g1⟩, by simp; omega⟩
          rw [List.set_append_right _ _ (by simp; omega), List.length_map, h2, show o + 1 + k - m = o + 1 - m + k from by omega]
        · cases h
      · cases h

theorem setG_rel : ∀ {fs : List FCell} {o : Nat} {new r : List FCell} {vs us : List Value}, setG fs o new = some r → RelFs E fs vs → RelFs E new us →
    RelFs E r (vs.take o ++ us ++ vs.drop (o + us.length)) ∧ o + us.length ≤ vs.length
  | fs, 0, new, r, vs, us, h, hr, hn => by
    have h : (match dropF fs (fsize new) with | some r => some (new ++ r) | none => none) = some r := by cases fs <;> exact h
    split at h
    · rename_i r' h1
      obtain rfl := Option.some.inj h
      obtain ⟨g1, g2⟩ := dropF_rel h1 hr
      rw [← RelFs.len hn] at g1 g2
      refine ⟨?_, by omega⟩
      rw [List.take_zero, List.nil_append, Nat.zero_add]
      exact RelFs.append hn g1
    · cases h
  | [], _ + 1, _, _, _, _, h, _, _ => by simp [setG] at h
  | f :: fs, o + 1, new, r, vs, us, h, hr, hn => by
    obtain ⟨v1, v2, rfl, h2, h3⟩ := hr
    have hl := RelF.len h2
    simp only [setG] at h
    split at h
    · split at h
      · rename_i hle r' h4
        obtain rfl := Option.some.inj h
        obtain ⟨g1, g2⟩ := setG_rel h4 h3 hn
        refine ⟨⟨v1, _, ?_, h2, g1⟩, by rw [List.length_append]; omega⟩
        rw [List.take_append, List.take_of_length_le (by omega), List.drop_append, List.drop_eq_nil_of_le (by omega), hl, List.nil_append,
          show o + 1 + us.length - f.size = o + 1 - f.size + us.length from by omega]
        simp only [List.append_assoc]
      · cases h
    · cases h

theorem wsAt_rel : ∀ {fs : List FCell} {o : Nat} {kd : IntKind} {m : Nat} {xs : List Int} {vs : List Value}, wsAt fs o = some (kd, m, xs) → RelFs E fs vs →
    xs.length = m ∧ (∀ x ∈ xs, InK kd x) ∧ (vs.drop o).take m = xs.map (Value.int kd) ∧ o + m ≤ vs.length
  | [], _, _, _, _, _, h, _ => by simp [wsAt] at h
  | .c x :: fs, o, kd, m, xs, vs, h, hr => by
    obtain ⟨v0, us, rfl, h2, h3⟩ := relFs_cons_c hr
    cases o with
    | zero => simp [wsAt] at h
    | succ o =>
      simp only [wsAt] at h
      rw [if_pos (show (FCell.c x).size ≤ o + 1 from Nat.le_add_left 1 o)] at h
      change wsAt fs (o + 1 - 1) = _ at h
      obtain ⟨g1, g2, g3, g4⟩ := wsAt_rel h h3
      exact ⟨g1, g2, by simpa using g3, by simp; omega⟩
  | .ws kd' m' ys :: fs, o, kd, m, xs, vs, h, hr => by
    obtain ⟨us, rfl, h2, h3, h4⟩ := relFs_cons_ws hr
    cases o with
    | zero =>
      simp only [wsAt, Option.some.injEq, Prod.mk.injEq] at h
      obtain ⟨rfl, rfl, rfl⟩ := h
      exact ⟨h2, h3, by rw [List.drop_zero, List.take_append, List.take_of_length_le (by simp; omega)]; simp [h2], by simp; omega⟩
    | succ o =>
      simp only [wsAt] at h
      by_cases hle : m' ≤ o + 1
      · rw [if_pos (show (FCell.ws kd' m' ys).size ≤ o + 1 from hle)] at h
        change wsAt fs (o + 1 - m') = _ at h
        obtain ⟨g1, g2, g3, g4⟩ := wsAt_rel h h4
        refine ⟨g1, g2, ?_, by simp; omega⟩
        rw [List.drop_append, List.drop_eq_nil_of_le (by simp; omega), List.nil_append, List.length_map, h2]
        exact g3
      · rw [if_neg (show ¬ (FCell.ws kd' m' ys).size ≤ o + 1 from hle)] at h; cases h

theorem setWs_rel : ∀ {fs : List FCell} {o : Nat} {kd : IntKind} {m : Nat} {xs ys : List Int} {r : List FCell} {vs : List Value}, wsAt fs o = some (kd, m, xs) → setWs fs o ys = some r →
    ys.length = m → (∀ x ∈ ys, InK kd x) → RelFs E fs vs → RelFs E r (vs.take o ++ ys.map (Value.int kd) ++ vs.drop (o + m))
  | [], _, _, _, _, _, _, _, h, _, _, _, _ => by simp [wsAt] at h
  | .c x :: fs, o, kd, m, xs, ys, r, vs, h, h', hl, hi, hr => by
    obtain ⟨v0, us, rfl, h2, h3⟩ := relFs_cons_c hr
    cases o with
    | zero => simp [wsAt] at h
    | succ o =>
      simp only [wsAt, setWs] at h h'
      rw [if_pos (show (FCell.c x).size ≤ o + 1 from Nat.le_add_left 1 o)] at h h'
      change wsAt fs (o + 1 - 1) = _ at h
      change (match setWs fs (o + 1 - 1) ys with | some r => some (FCell.c x :: r) | none => none) = some r at h'
      split at h'
      · rename_i r' h5
        obtain rfl := Option.some.inj h'
        have g1 := setWs_rel h h5 hl hi h3
        exact ⟨[v0], us.take o ++ ys.map (Value.int kd) ++ us.drop (o + m), by simp [show o + 1 + m = o + m + 1 from by omega], ⟨v0, rfl, h2⟩, by simpa using g1⟩
      · cases h'
  | .ws kd' m' zs :: fs, o, kd, m, xs, ys, r, vs, h, h', hl, hi, hr => by
    obtain ⟨us, rfl, h2, h3, h4⟩ := relFs_cons_ws hr
    cases o with
    | zero =>
      simp only [wsAt, setWs, Option.some.injEq, Prod.mk.injEq] at h h'
      obtain ⟨rfl, rfl, rfl⟩ := h
      subst h'
      refine ⟨ys.map (Value.int kd'), us, ?_, ⟨hl, hi, rfl⟩, h4⟩
      rw [List.take_zero, List.nil_append, Nat.zero_add, List.drop_append, List.drop_eq_nil_of_le (by simp; omega)]
      simp [h2]
    | succ o =>
      simp only [wsAt, setWs] at h h'
      by_cases hle : m' ≤ o + 1
      · rw [if_pos (show (FCell.ws kd' m' zs).size ≤ o + 1 from hle)] at h h'
        change wsAt fs (o + 1 - m') = _ at h
        change (match setWs fs (o + 1 - m') ys with | some r => some (FCell.ws kd' m' zs :: r) | none => none) = some r at h'
        split at h'
        · rename_i r' h5
          obtain rfl := Option.some.inj h'
          have g1 := setWs_rel h h5 hl hi h4
          refine ⟨zs.map (Value.int kd'), _, ?_, ⟨h2, h3, rfl⟩, g1⟩
          rw [List.take_append, List.take_of_length_le (by simp; omega), List.drop_append, List.drop_eq_nil_of_le (by simp; omega), List.length_map, h2, List.nil_append,
            show o + 1 + m - m' = o + 1 - m' + m from by omega]
          simp only [List.append_assoc]
        · cases h'
      · rw [if_neg (show ¬ (FCell.ws kd' m' zs).size ≤ o + 1 from hle)] at h; cases h
end Go.SX
