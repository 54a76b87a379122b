/-
  SX, part 35: slices of one's own that are not among the state's blocks: they are kept apart, taken up, and laid down.
-/
import Derived.Test.YticfnbhbpcpgeaaDoorSx34
namespace Go.SX
open Go
variable {P : Program} {G : GlobT} {E E' : Env} {S : Tab}

/-- data without slices says nothing of memory -/
theorem flat_rot : ∀ {t : DTy} {d : t.den} {vs : List Value}, t.deep = false → t.rf = false → RoT E t d vs → RoT E' t d vs
  | .unit, _, _, _, _, q => q
  | .int _, _, _, _, _, q => q
  | .bool, _, _, _, _, q => q
  | .str, _, _, _, _, q => q
  | .ws _ _, _, _, _, _, q => q
  | .sl _, _, _, h, _, _ => by cases h
  | .ref, _, _, _, h, _ => by cases h
  | .pair a b, d, vs, h, hf, q => by
    have h : (a.deep || b.deep) = false := h
    have hf : (a.rf || b.rf) = false := hf
    rw [Bool.or_eq_false_iff] at h hf
    obtain ⟨v1, v2, q1, q2, q3⟩ := q
    exact ⟨v1, v2, q1, flat_rot h.1 hf.1 q2, flat_rot h.2 hf.2 q3⟩

/-- a slice as it is in the machine, and all that lies in its block -/
structure Slc (t : DTy) where
  a : Option Addr
  len : Nat
  cap : Nat
  xs : List t.den

def Slc.blk {t : DTy} (s : Slc t) : Option Nat := if s.cap = 0 then none else s.a.map (·.block)
def Slc.raw {t : DTy} (s : Slc t) : RefD := .raw s.a s.len s.cap
def dumE (w : World) : Env := ⟨fun _ => none, [], w, fun _ => False⟩

/-- what lies there -/
def Slc.In {t : DTy} (w : World) (s : Slc t) : Prop :=
  s.len ≤ s.cap ∧ s.cap < 9223372036854775808 ∧ s.len ≤ s.xs.length ∧
    ((s.cap = 0 ∧ s.xs = []) ∨ ∃ k c e fz, s.a = some ⟨k, 0, none⟩ ∧ 0 < s.cap ∧ w.heap[k]? = some (.cells c e fz) ∧ s.cap * t.size = c.size ∧ NoFz fz c.size ∧ Rows t.size (RoT (dumE w) t) s.xs 0 c)
/-- it is none of the state's, and new since the heap had lo blocks -/
def Free (lo : Nat) (E : Env) (k : Nat) : Prop := lo ≤ k ∧ k < E.w.heap.size ∧ ¬ E.R k ∧ ∀ b, live (getB E.H b) = true → E.β b ≠ some k
def Slc.Free {t : DTy} (lo : Nat) (E : Env) (s : Slc t) : Prop := ∀ k, s.blk = some k → SX.Free lo E k

theorem Free.ext {lo k : Nat} (x : Ext E E') (h : Free lo E k) : Free lo E' k := by
  obtain ⟨h1, h2, h3, h4⟩ := h
  refine ⟨h1, Nat.lt_of_lt_of_le h2 x.size, fun hr => ?_, fun b hb hk => ?_⟩
  · rcases x.rnew k hr with q | q | ⟨b, q1, q2⟩
    · exact h3 q
    · omega
    · exact h4 b q1 q2
  · rcases x.fresh b k hb hk with ⟨b0, q1, q2⟩ | q
    · exact h4 b0 q1 q2
    · omega
theorem Free.same {lo k : Nat} (x : Ext E E') (h : Free lo E k) : E'.w.heap[k]? = E.w.heap[k]? := x.keep k h.2.1 h.2.2.2

theorem Slc.blk_some {t : DTy} {s : Slc t} {k o : Nat} (h : s.a = some ⟨k, o, none⟩) (hc : 0 < s.cap) : s.blk = some k := by
  unfold Slc.blk
  rw [if_neg (by omega), h]; rfl

theorem Slc.In.ext {lo : Nat} {t : DTy} {s : Slc t} (hd : t.deep = false) (hf : t.rf = false) (x : Ext E E') (h : s.In E.w) (hs : s.Free lo E) : s.In E'.w := by
  obtain ⟨h1, h2, h3, h4⟩ := h
  refine ⟨h1, h2, h3, h4.imp id fun ⟨k, c, e, fz, q1, q2, q3, q4, q5, q6⟩ => ⟨k, c, e, fz, q1, q2, ?_, q4, q5, q6.mono fun a us hu => flat_rot hd hf hu⟩⟩
  rw [Free.same x (hs k (s.blk_some q1 q2))]; exact q3

/-- slices in blocks of their own -/
def ApartS {t : DTy} (L : List (Slc t)) : Prop := L.Pairwise fun s s' => ∀ k, s.blk = some k → s'.blk ≠ some k
structure Kept {t : DTy} (lo : Nat) (E : Env) (L : List (Slc t)) : Prop where
  ap : ApartS L
  at_ : ∀ s ∈ L, s.In E.w ∧ s.Free lo E

theorem Kept.ext {lo : Nat} {t : DTy} {L : List (Slc t)} (hd : t.deep = false) (hf : t.rf = false) (x : Ext E E') (h : Kept lo E L) : Kept lo E' L where
  ap := h.ap
  at_ := fun s hs => ⟨(h.at_ s hs).1.ext hd hf x (h.at_ s hs).2, fun k hk => ((h.at_ s hs).2 k hk).ext x⟩

/-- a slice of the state's own block, as it is in the machine -/
theorem Slc.of_own {lo : Nat} {t : DTy} {b len : Nat} {xs : List t.den} {l : Nat} {par : List Nat} {v : Value} (hd : t.deep = false) (hf : t.rf = false) (hE : RepH G E) (hb : getB E.H b = .arr t xs l par) (hv : RelSl E b 0 len v) :
    ∃ s : Slc t, s.len = len ∧ s.xs = xs ∧ v = .slice s.a s.len s.cap ∧ s.In E.w ∧ ∀ k, s.blk = some k → E.β b = some k := by
  have hr := hE.blk b
  rw [hb] at hr
  unfold RelSl at hv
  rw [hb] at hv
  obtain ⟨a, cap, rfl, h1, h2, h3, h4⟩ := hv
  obtain ⟨_, ht, hr⟩ := hr
  rcases h4 with ⟨h4, h5⟩ | ⟨k, c, e, fz, h4, h5, h6, h7⟩
  · rcases hr with ⟨_, hr⟩ | ⟨k, c, e, fz, hr, _⟩
    · refine ⟨⟨a, len, cap, xs⟩, rfl, rfl, rfl, ⟨h1, h2, by show len ≤ xs.length; omega, .inl ⟨h5, hr⟩⟩, fun k hk => ?_⟩
      unfold Slc.blk at hk
      rw [if_pos h5] at hk; cases hk
    · rw [h4] at hr; cases hr
  · rcases hr with ⟨hr, _⟩ | ⟨k', c', e', fz', g1, g2, g3, g4⟩
    · rw [h4] at hr; cases hr
    · rw [h4] at g1
      obtain rfl := Option.some.inj g1
      rw [h6] at g2
      cases g2
      rw [Nat.zero_add] at h7
      by_cases hc : cap = 0
      · subst hc
        have hx : xs = [] := by
          cases xs with
          | nil => rfl
          | cons x xs =>
            exfalso
            obtain ⟨us, _, q2, q3⟩ := g4 0 (by simp)
            have h0 := q3 0 ht
            rw [Nat.zero_mul] at h7
            have hc0 : c[0 + (0 * t.size + 0)]? = none := Array.getElem?_eq_none (by omega)
            rw [hc0] at h0
            have : us[0]? = none := h0.symm
            rw [List.getElem?_eq_none_iff] at this
            omega
        exact ⟨⟨a, len, 0, xs⟩, rfl, rfl, rfl, ⟨h1, h2, by show len ≤ xs.length; omega, .inl ⟨rfl, hx⟩⟩, fun k hk => by unfold Slc.blk at hk; rw [if_pos rfl] at hk; cases hk⟩
      · have ha : a = some ⟨k, 0, none⟩ := by
          rcases h5 with h5 | h5
          · exact (hc h5).elim
          · rw [h5, Nat.zero_mul]
        subst ha
        refine ⟨⟨some ⟨k, 0, none⟩, len, cap, xs⟩, rfl, rfl, rfl, ⟨h1, h2, by show len ≤ xs.length; omega, .inr ⟨k, c, e, fz, rfl, by show 0 < cap; omega, h6, h7, g3, g4.mono fun a us hu => flat_rot hd hf hu⟩⟩, fun k' hk' => ?_⟩
        have : (some k : Option Nat) = some k' := by
          rw [← hk']
          unfold Slc.blk
          rw [if_neg hc]; rfl
        rw [h4, this]

/-- .. and taken up again -/
theorem Slc.rep {t : DTy} {s : Slc t} (hs : s.In E.w) (ht : 0 < t.size) (hd : t.deep = false) (hf : t.rf = false) {b : Nat} (hβ : E.β b = s.blk) : RepB E b (.arr t s.xs 0 []) := by
  obtain ⟨h1, h2, h3, h4⟩ := hs
  refine ⟨Nat.zero_le _, ht, ?_⟩
  rcases h4 with ⟨h4, h5⟩ | ⟨k, c, e, fz, q1, q2, q3, q4, q5, q6⟩
  · exact .inl ⟨by rw [hβ]; unfold Slc.blk; rw [if_pos h4], h5⟩
  · exact .inr ⟨k, c, e, fz, by rw [hβ]; exact s.blk_some q1 q2, q3, q5, q6.mono fun a us hu => flat_rot hd hf hu⟩
theorem Slc.relSl {t : DTy} {s : Slc t} (hs : s.In E.w) {b l : Nat} {par : List Nat} (hb : getB E.H b = .arr t s.xs l par) (hβ : E.β b = s.blk) : RelSl E b 0 s.len (.slice s.a s.len s.cap) := by
  obtain ⟨h1, h2, h3, h4⟩ := hs
  unfold RelSl
  rw [hb]
  refine ⟨s.a, s.cap, rfl, h1, h2, by omega, ?_⟩
  rcases h4 with ⟨h4, h5⟩ | ⟨k, c, e, fz, q1, q2, q3, q4, q5, q6⟩
  · exact .inl ⟨by rw [hβ]; unfold Slc.blk; rw [if_pos h4], h4⟩
  · exact .inr ⟨k, c, e, fz, by rw [hβ]; exact s.blk_some q1 q2, .inr (by rw [q1, Nat.zero_mul]), q3, by rw [Nat.zero_add]; exact q4⟩
/-- .. and as one that is only read -/
theorem Slc.rosl {t : DTy} {s : Slc t} (hs : s.In E.w) (ht : 0 < t.size) (hd : t.deep = false) (hf : t.rf = false) (hR : ∀ k, s.blk = some k → E.R k) : RoSl E t.size (RoT E t) s.xs s.len (.slice s.a s.len s.cap) := by
  obtain ⟨h1, h2, h3, h4⟩ := hs
  rcases h4 with ⟨h4, h5⟩ | ⟨k, c, e, fz, q1, q2, q3, q4, q5, q6⟩
  · exact ⟨s.a, s.cap, rfl, h3, by rw [h5]; exact Nat.zero_le _, h2, ht, fun h => (h h5).elim⟩
  · refine ⟨s.a, s.cap, rfl, h3, ?_, h2, ht, fun _ => ⟨k, 0, c, e, fz, q1, hR k (s.blk_some q1 q2), q3, q6.mono fun a us hu => flat_rot hd hf hu⟩⟩
    rcases Nat.lt_or_ge s.cap s.xs.length with hlt | hge
    · exfalso
      obtain ⟨us, _, g2, g3⟩ := q6 s.cap hlt
      have h0 := g3 0 ht
      have hc0 : c[0 + (s.cap * t.size + 0)]? = none := Array.getElem?_eq_none (by omega)
      rw [hc0] at h0
      have := h0.symm
      rw [List.getElem?_eq_none_iff] at this
      omega
    · exact hge

/-! ### States that are laid by hand -/
def mkE (w : World) (H : Heap) (ks : List (Option Nat)) (R : Nat → Prop) : Env := ⟨fun b => (ks[b]?).getD none, H, w, R⟩

theorem relTs_of : ∀ {t : List SV} {us : List Value}, us.length = t.length → (∀ i, i < t.length → RelS E (getT t i) (us.getD i undef)) → RelTs E t us
  | [], [], _, _ => rfl
  | [], _ :: _, h, _ => by cases h
  | v :: t, [], h, _ => by cases h
  | v :: t, u :: us, h, hi => ⟨u, us, rfl, hi 0 (Nat.zero_lt_succ _), relTs_of (by simpa using h) fun i hlt => hi (i + 1) (by simpa using hlt)⟩
theorem getT_eq : ∀ (t : List SV) (i : Nat), getT t i = (t[i]?).getD .any
  | [], i => by simp [getT]
  | v :: t, 0 => rfl
  | v :: t, i + 1 => by simpa [getT] using getT_eq t i
theorem relTs_slots {n : Nat} {l : List (Nat × SV)} {us : List Value} (hlen : us.length = n) (h : ∀ p ∈ l, RelS E p.2 (us.getD p.1 undef)) : RelTs E (slotsOf n l) us := by
  refine relTs_of (by simp [slotsOf, hlen]) fun i hi => ?_
  have hi : i < n := by simpa [slotsOf] using hi
  rw [getT_eq]
  unfold slotsOf
  rw [List.getElem?_map, List.getElem?_range hi]
  simp only [Option.map_some, Option.getD_some]
  cases hf : l.find? (·.1 == i) with
  | none => trivial
  | some p =>
    have h1 := List.mem_of_find?_eq_some hf
    have h2 : p.1 = i := by simpa using List.find?_some hf
    rw [← h2]; exact h p h1

theorem mkE_rep (hE : RepH G E) {H : Heap} {ks : List (Option Nat)} {R : Nat → Prop} (hsub : ∀ k, E.R k → R k) (hro : ∀ k, R k → k < E.w.heap.size ∧ ∀ b, live (getB H b) = true → (ks[b]?).getD none ≠ some k)
    (hinj : ∀ b b' k, live (getB H b) = true → live (getB H b') = true → (ks[b]?).getD none = some k → (ks[b']?).getD none = some k → b = b')
    (hblk : ∀ b, b < H.length → RepB (mkE E.w H ks R) b (getB H b)) : RepH G (mkE E.w H ks R) where
  ro := hro
  inj := hinj
  blk := fun b => by
    rcases Nat.lt_or_ge b H.length with h | h
    · exact hblk b h
    · show RepB _ b (getB H b)
      rw [dead_of h]; trivial
  glob := fun g t d hg => ⟨rpQ (E := mkE E.w H ks R) (El := E) rfl hsub (hE.glob g t d hg).2 (hE.glob g t d hg).1, (hE.glob g t d hg).2⟩
theorem mkE_ext {E0 : Env} (x : Ext E0 E) (h0 : E0.H = []) {H : Heap} {ks : List (Option Nat)} {R : Nat → Prop} (hsub : ∀ k, E.R k → R k) (hnew : ∀ k, R k → E.R k ∨ E0.w.heap.size ≤ k)
    (hfr : ∀ b k, live (getB H b) = true → (ks[b]?).getD none = some k → E0.w.heap.size ≤ k) : Ext E0 (mkE E.w H ks R) where
  os := x.os
  tape := x.tape
  output := x.output
  size := x.size
  ro := fun k hk => hsub k (x.ro k hk)
  rnew := fun k hk => by
    rcases hnew k hk with h | h
    · rcases x.rnew k h with q | q | ⟨b, q, _⟩
      · exact .inl q
      · exact .inr (.inl q)
      · rw [h0] at q; cases q
    · exact .inr (.inl h)
  keep := x.keep
  cells := x.cells
  blk := fun b => by rw [h0]; trivial
  fresh := fun b k hb hk => .inr (hfr b k hb hk)
/-- what was read may still be -/
theorem flat_ro {t : DTy} {H : Heap} {ks : List (Option Nat)} {R : Nat → Prop} (hsub : ∀ k, E.R k → R k) (hf : t.rf = false) {xs : List t.den} {len : Nat} {v : Value} (h : RoSl E t.size (RoT E t) xs len v) : RoSl (mkE E.w H ks R) t.size (RoT (mkE E.w H ks R) t) xs len v := by
  obtain ⟨a, cap, q2, q3, q4, q5, q6, q7⟩ := h
  refine ⟨a, cap, q2, q3, q4, q5, q6, fun hne => ?_⟩
  obtain ⟨k, off, c, e, fz, g1, g2, g3, g4⟩ := q7 hne
  exact ⟨k, off, c, e, fz, g1, hsub k g2, g3, g4.mono fun a us hu => rotQ (E := mkE E.w H ks R) (El := E) rfl hf (.inr hsub) hu⟩

/-- in these slots slices of structs bear slices that are not followed -/
def Tab.refs (S : Tab) (l : List Nat) : Tab := { S with rf := fun d => seen d l }
theorem SpecOk.refs {l : List Nat} (h : SpecOk P S) : SpecOk P (S.refs l) := fun f vs hl r hl' hr E us => h f vs hl r hl' hr E us

/-- a piece's end, as it is: some slots, some blocks -/
def rawT (len : Nat) (ds bl : List Nat) (cs : List Bool) (t : Tree Out) : Option (List Bool × List Item × List SV × List Blk) :=
  match t.path cs with
  | some (bs, .stop k s) => match Nat.beq s.t.length len with
    | true => some (bs, k, ds.map (getT s.t), bl.map (getB s.h))
    | false => none
  | _ => none
theorem raw_run (hsp : SpecOk P S) (hmx : P.follows .mixedOrders = true) {un : Code → Bool} {F : Act → World → Prop} {n len : Nat} {is k : List Item} {s : St} {ds bl : List Nat} {cs bs : List Bool} {vs : List SV} {hs' : List Blk} {a : Act}
    (h : rawT len ds bl cs (runK S P un n is s) = some (bs, k, vs, hs')) (hb : bs = cs) (hs : Rp S.gl E s a)
    (hn : ∀ E' a' s', Ext E E' → Rp S.gl E' s' a' → a'.tmps.toList.length = len → ds.map (getT s'.t) = vs → bl.map (getB s'.h) = hs' → ItemsWp P F k a' E'.w) : ItemsWp P F is a E.w := by
  unfold rawT at h
  split at h
  · rename_i bs' k' s1 hp
    split at h
    · rename_i hl
      simp only [Option.some.injEq, Prod.mk.injEq] at h
      obtain ⟨rfl, rfl, rfl, rfl⟩ := h
      subst hb
      exact runK_sound hsp hmx n (Tree.path_val hp) hs fun E' a' x hs' => hn E' a' s1 x hs' ((relTs_len hs'.t).trans (Nat.eq_of_beq_eq_true hl)) rfl rfl
    · cases h
  · cases h
theorem Rp.get {s : St} {a : Act} (h : Rp G E s a) (d : Nat) : RelS E (getT s.t d) (a.tmps.toList.getD d undef) := relTs_get h.t
end Go.SX
