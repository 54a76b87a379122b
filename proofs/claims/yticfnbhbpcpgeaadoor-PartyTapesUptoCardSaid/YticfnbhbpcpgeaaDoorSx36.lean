/-
  SX, part 36: pieces toward any end; states laid by hand over what is read.
-/
import Derived.Test.YticfnbhbpcpgeaaDoorSx35
namespace Go.SX
open Go
variable {P : Program} {G : GlobT} {E E' : Env} {S : Tab}

/-- what E reads is read in E' too, and lies there as it lay -/
def Sub (E E' : Env) : Prop := ∀ k, E.R k → E'.R k ∧ E'.w.heap[k]? = E.w.heap[k]?

theorem RoSl.onSub {sz : Nat} {α : Type} {Q Q' : α → List Value → Prop} {xs : List α} {len : Nat} {v : Value} (s : Sub E E') (hq : ∀ a us, Q a us → Q' a us) (h : RoSl E sz Q xs len v) : RoSl E' sz Q' xs len v := by
  obtain ⟨a, cap, h1, h2, h3, h4, h5, h6⟩ := h
  refine ⟨a, cap, h1, h2, h3, h4, h5, fun hne => ?_⟩
  obtain ⟨k, off, c, e, fz, g1, g2, g3, g4⟩ := h6 hne
  exact ⟨k, off, c, e, fz, g1, (s k g2).1, ((s k g2).2).trans g3, g4.mono hq⟩
theorem RoT.sub (s : Sub E E') : ∀ (t : DTy) (d : t.den) (vs : List Value), t.rf = false → RoT E t d vs → RoT E' t d vs
  | .unit, _, _, _, h => h
  | .int _, _, _, _, h => h
  | .bool, _, _, _, h => h
  | .str, _, _, _, h => h
  | .ws _ _, _, _, _, h => h
  | .pair a b, d, vs, hf, h => by
    have hf : (a.rf || b.rf) = false := hf
    rw [Bool.or_eq_false_iff] at hf
    obtain ⟨v1, v2, h1, h2, h3⟩ := h
    exact ⟨v1, v2, h1, RoT.sub s a _ _ hf.1 h2, RoT.sub s b _ _ hf.2 h3⟩
  | .sl t, d, vs, hf, h => by
    obtain ⟨v, h1, h2⟩ := h
    exact ⟨v, h1, RoSl.onSub s (fun a us => RoT.sub s t a us hf) h2⟩
  | .ref, _, _, hf, _ => by cases hf
theorem RelRp.sub {t : DTy} {d : t.den} {o k : Nat} {v : Value} (s : Sub E E') (hf : t.rf = false) (h : RelRp E t d o k v) : RelRp E' t d o k v := by
  obtain ⟨kb, off, c, e, fz, us, h1, h2, h3, h4, h5, h6⟩ := h
  exact ⟨kb, off, c, e, fz, us, h1, (s kb h2).1, ((s kb h2).2).trans h3, RoT.sub s t d us hf h4, h5, h6⟩
theorem Sub.ext (hE : RepH G E) (x : Ext E E') : Sub E E' := fun k hk => ⟨x.ro k hk, roHeap hE x hk⟩

theorem lay_rep (hE : RepH G E) {w : World} {H : Heap} {ks : List (Option Nat)} {R : Nat → Prop} (hs : Sub E (mkE w H ks R)) (hro : ∀ k, R k → k < w.heap.size ∧ ∀ b, live (getB H b) = true → (ks[b]?).getD none ≠ some k)
    (hinj : ∀ b b' k, live (getB H b) = true → live (getB H b') = true → (ks[b]?).getD none = some k → (ks[b']?).getD none = some k → b = b')
    (hblk : ∀ b, b < H.length → RepB (mkE w H ks R) b (getB H b)) : RepH G (mkE w H ks R) where
  ro := hro
  inj := hinj
  blk := fun b => by
    rcases Nat.lt_or_ge b H.length with h | h
    · exact hblk b h
    · show RepB _ b (getB H b)
      rw [dead_of h]; trivial
  glob := fun g t d hg => ⟨RelRp.sub hs (hE.glob g t d hg).2 (hE.glob g t d hg).1, (hE.glob g t d hg).2⟩
theorem lay_ext {E0 : Env} (x : Ext E0 E) (h0 : E0.H = []) {H : Heap} {ks : List (Option Nat)} {R : Nat → Prop} (hro : ∀ k, E0.R k → R k) (hnew : ∀ k, R k → E0.R k ∨ E0.w.heap.size ≤ k)
    (hfr : ∀ b k, live (getB H b) = true → (ks[b]?).getD none = some k → E0.w.heap.size ≤ k) : Ext E0 (mkE E.w H ks R) where
  os := x.os
  tape := x.tape
  output := x.output
  size := x.size
  ro := hro
  rnew := fun k hk => (hnew k hk).imp id .inl
  keep := x.keep
  cells := x.cells
  blk := fun b => by rw [h0]; trivial
  fresh := fun b k hb hk => .inr (hfr b k hb hk)
theorem rnew0 {E0 : Env} (x : Ext E0 E) (h0 : E0.H = []) {k : Nat} (h : E.R k) : E0.R k ∨ E0.w.heap.size ≤ k := by
  rcases x.rnew k h with q | q | ⟨b, q, _⟩
  · exact .inl q
  · exact .inr q
  · rw [h0] at q; cases q

/-- the first blocks of a state alone -/
theorem trim_ext {E0 : Env} (x : Ext E0 E) {m : Nat} (hm : E0.H.length ≤ m) {H : Heap} {ks : List (Option Nat)} (hl : H.length = m) (hH : ∀ b, b < m → getB H b = getB E.H b ∧ (ks[b]?).getD none = E.β b) : Ext E0 (mkE E.w H ks E.R) where
  os := x.os
  tape := x.tape
  output := x.output
  size := x.size
  ro := x.ro
  rnew := x.rnew
  keep := x.keep
  cells := x.cells
  blk := fun b => by
    rcases Nat.lt_or_ge b m with h | h
    · have := x.blk b
      obtain ⟨g1, g2⟩ := hH b h
      show BExt E0 _ b _ (getB H b)
      rw [g1]
      have g2 : (mkE E.w H ks E.R).β b = E.β b := g2
      cases h3 : getB E0.H b <;> cases h4 : getB E.H b <;> rw [h3, h4] at this <;> first | exact this.elim | trivial | exact g2.trans this | exact ⟨this.1, this.2.1, g2.trans this.2.2⟩
    · rw [dead_of (by omega)]; trivial
  fresh := fun b k hb hk => by
    have hb : live (getB H b) = true := hb
    have hlt : b < m := by rw [← hl]; exact getB_len (live_ne_dead hb)
    obtain ⟨g1, g2⟩ := hH b hlt
    rw [g1] at hb
    exact x.fresh b k hb (g2 ▸ hk)

/-! ### Pieces toward any end -/
def RunsAt (P : Program) (S : Tab) (E0 : Env) (F : Act → World → Prop) (is : List Item) (s : St) : Prop :=
  ∀ (E : Env) (a : Act), Ext E0 E → Rp S.gl E s a → ItemsWp P F is a E.w
theorem RunsAt.piece (hsp : SpecOk P S) (hmx : P.follows .mixedOrders = true) {un : Code → Bool} {F : Act → World → Prop} {E0 : Env} {n : Nat} {is k : List Item} {s s' : St} {cs bs : List Bool} {keep unl ids : List Nat}
    (h : pieceT keep unl ids cs (runK S P un n is s) = some (bs, k, s')) (hb : bs = cs) (hids : idsOk E0.H.length ids = true) (hr : RunsAt P S E0 F k s') : RunsAt P S E0 F is s := by
  unfold pieceT at h
  split at h
  · rename_i bs' k' s1 hp
    simp only [Option.some.injEq, Prod.mk.injEq] at h
    obtain ⟨rfl, rfl, rfl⟩ := h
    subst hb
    intro E a x hs
    refine runK_sound hsp hmx n (Tree.path_val hp) hs (fun E' a' x' hs' => ?_)
    obtain ⟨h1, h2⟩ := idsOk_spec hids
    have hc := cut_rp (keep := keep) h1 hs'
    exact hr (cutE E' ids) a' (cut_ext (x.trans x') h2 (Nat.le_refl _)) ⟨hc.h, hc.eq, unlT_rel hc.t, hc.d⟩
  · cases h
theorem RunsAt.loop {E0 : Env} {F : Act → World → Prop} {K : List Item} {st : Nat → St} {n : Nat} (step : ∀ i, i < n → RunsAt P S E0 F K (st (i + 1)) → RunsAt P S E0 F K (st i)) (last : RunsAt P S E0 F K (st n)) : ∀ d i, i + d = n → RunsAt P S E0 F K (st i)
  | 0, i, h => by obtain rfl : i = n := by omega
                  exact last
  | d + 1, i, h => step i (by omega) (RunsAt.loop step last d (i + 1) (by omega))

/-! ### Slices that are kept -/
theorem Slc.In.heap {t : DTy} {s : Slc t} {w w' : World} (h : s.In w) (hd : t.deep = false) (hf : t.rf = false) (hk : ∀ k, s.blk = some k → w'.heap[k]? = w.heap[k]?) : s.In w' := by
  obtain ⟨h1, h2, h3, h4⟩ := h
  refine ⟨h1, h2, h3, h4.imp id fun ⟨k, c, e, fz, q1, q2, q3, q4, q5, q6⟩ => ⟨k, c, e, fz, q1, q2, ?_, q4, q5, q6.mono fun a us hu => flat_rot hd hf hu⟩⟩
  rw [hk k (s.blk_some q1 q2)]; exact q3
def Slc.put {t : DTy} (s : Slc t) (xs : List t.den) : Slc t := ⟨s.a, s.len, s.cap, xs⟩
theorem Slc.put_blk {t : DTy} (s : Slc t) (xs : List t.den) : (s.put xs).blk = s.blk := rfl
theorem Slc.put_raw {t : DTy} (s : Slc t) (xs : List t.den) : (s.put xs).raw = s.raw := rfl
theorem Slc.again {t : DTy} {s : Slc t} {b l : Nat} {xs : List t.den} {par : List Nat} (hd : t.deep = false) (hf : t.rf = false) (hs : s.In E.w) (x : Ext E E') (hE : RepH G E') (hb : getB E'.H b = .arr t xs l par) (hβ : E'.β b = s.blk) (hl : s.len ≤ xs.length) : (s.put xs).In E'.w := by
  obtain ⟨h1, h2, h3, h4⟩ := hs
  have hr := hE.blk b
  rw [hb] at hr
  obtain ⟨_, ht, hr⟩ := hr
  refine ⟨h1, h2, hl, ?_⟩
  rcases h4 with ⟨c0, x0⟩ | ⟨k, c, e, fz, q1, q2, q3, q4, q5, q6⟩
  · have hn : s.blk = none := by unfold Slc.blk; rw [if_pos c0]
    rcases hr with ⟨_, hx⟩ | ⟨k, c, e, fz, r1, _⟩
    · exact .inl ⟨c0, hx⟩
    · rw [hβ, hn] at r1; cases r1
  · have hk := s.blk_some q1 q2
    obtain ⟨c', fz', g1, g2⟩ := x.cells k c e fz q3
    rcases hr with ⟨hx, _⟩ | ⟨k', c'', e'', fz'', r1, r2, r3, r4⟩
    · rw [hβ, hk] at hx; cases hx
    · rw [hβ, hk] at r1
      obtain rfl := Option.some.inj r1
      rw [g1] at r2
      cases r2
      exact .inr ⟨k, c', e, fz', q1, q2, g1, by rw [g2]; exact q4, r3, r4.mono fun a us hu => flat_rot hd hf hu⟩

/-! ### Data that bear slices of the state's own blocks -/
def RefD.below (m : Nat) : RefD → Prop
  | .own b _ _ => b < m
  | _ => True
theorem RelRef.same {m : Nat} {d : RefD} {v : Value} (hd : d.below m) (hw : E'.w = E.w) (hB : ∀ b, b < m → getB E'.H b = getB E.H b ∧ E'.β b = E.β b) (h : RelRef E d v) : RelRef E' d v := by
  cases d with
  | nil => exact h
  | raw a len cap => exact h
  | own b off len =>
    obtain ⟨h1, h2⟩ := h
    refine ⟨h1, ?_⟩
    obtain ⟨g1, g2⟩ := hB b hd
    unfold RelSl SlAt at h2 ⊢
    rw [g1, g2, hw]
    exact h2
end Go.SX
