/-
  SX, part 22: regions, in every order that the language allows.
-/
import Derived.Test.YticfnbhbpcpgeaaDoorSx21
namespace Go.SX
open Go
variable {P : Program} {G : GlobT} {E : Env} {ops : Array Oper} {Q : Act → World → Prop}

/-! ### Slots -/
theorem relTs_len : ∀ {t : List SV} {l : List Value}, RelTs E t l → l.length = t.length
  | [], l, h => by have h : l = [] := h; subst h; rfl
  | v :: t, l, h => by obtain ⟨u, us, rfl, _, h2⟩ := h; simp [relTs_len h2]

theorem relTs_get : ∀ {t : List SV} {l : List Value} {u : Nat}, RelTs E t l → RelS E (getT t u) (l.getD u undef)
  | [], l, u, h => by simp only [getT]; trivial
  | v :: t, l, u, h => by
    obtain ⟨x, us, rfl, h1, h2⟩ := h
    cases u with
    | zero => exact h1
    | succ u => simpa [getT] using relTs_get (u := u) h2

theorem relTs_set : ∀ {t : List SV} {l : List Value} {d : Nat} {v : SV} {x : Value}, RelTs E t l → RelS E v x → RelTs E (setT t d v) (l.set d x)
  | [], l, d, v, x, h, _ => by have h : l = [] := h; subst h; rfl
  | y :: t, l, d, v, x, h, hv => by
    obtain ⟨u, us, rfl, h1, h2⟩ := h
    cases d with
    | zero => exact ⟨x, us, rfl, hv, h2⟩
    | succ d => exact ⟨u, us.set d x, rfl, h1, relTs_set h2 hv⟩

theorem getT_setT_ne : ∀ {t : List SV} {d u : Nat} {v : SV}, u ≠ d → getT (setT t d v) u = getT t u
  | [], _, _, _, _ => rfl
  | x :: t, 0, 0, _, h => (h rfl).elim
  | x :: t, 0, u + 1, _, _ => rfl
  | x :: t, d + 1, 0, _, _ => rfl
  | x :: t, d + 1, u + 1, v, h => by simp only [setT, getT]; exact getT_setT_ne (fun e => h (congrArg _ e))

theorem setT_comm : ∀ {t : List SV} {d e : Nat} {v u : SV}, d ≠ e → setT (setT t d v) e u = setT (setT t e u) d v
  | [], _, _, _, _, _ => rfl
  | x :: t, 0, 0, _, _, h => (h rfl).elim
  | x :: t, 0, e + 1, _, _, _ => rfl
  | x :: t, d + 1, 0, _, _, _ => rfl
  | x :: t, d + 1, e + 1, v, u, h => by simp only [setT]; rw [setT_comm (fun q => h (congrArg _ q))]

theorem setB_comm : ∀ {H : Heap} {d e : Nat} {v u : Blk}, d ≠ e → setB (setB H d v) e u = setB (setB H e u) d v
  | [], _, _, _, _, _ => rfl
  | x :: t, 0, 0, _, _, h => (h rfl).elim
  | x :: t, 0, e + 1, _, _, _ => rfl
  | x :: t, d + 1, 0, _, _, _ => rfl
  | x :: t, d + 1, e + 1, v, u, h => by simp only [setB]; rw [setB_comm (fun q => h (congrArg _ q))]

theorem setBs_setB : ∀ {ws : List (Nat × Blk)} {H : Heap} {b : Nat} {k : Blk}, (∀ p ∈ ws, p.1 ≠ b) → setBs (setB H b k) ws = setB (setBs H ws) b k
  | [], _, _, _, _ => rfl
  | (c, kc) :: ws, H, b, k, h => by
    simp only [setBs]
    rw [setB_comm (fun e => h (c, kc) List.mem_cons_self e.symm), setBs_setB (fun p hp => h p (List.mem_cons_of_mem _ hp))]

theorem setBs_comm : ∀ {ws vs : List (Nat × Blk)} {H : Heap}, (∀ p ∈ ws, ∀ q ∈ vs, q.1 ≠ p.1) → setBs (setBs H ws) vs = setBs (setBs H vs) ws
  | [], _, _, _ => rfl
  | (b, k) :: ws, vs, H, h => by
    simp only [setBs]
    rw [setBs_comm (fun p hp => h p (List.mem_cons_of_mem _ hp)), setBs_setB (fun q hq => h (b, k) List.mem_cons_self q hq)]

/-! ### Records -/
/-- a record can be made of an operation, in a state -/
def Rec.en (r : Rec) (look : Look) (s : St) : Prop :=
  (∀ p ∈ r.uses, getT s.t p.1 = p.2) ∧ (∀ b ∈ r.rds, getB s.h b = look b) ∧ ∀ m, m < r.n → getB s.h (r.nid + m) = .dead ∧ r.nid + m < s.h.length

theorem apply_t (r : Rec) (s : St) : (r.apply s).t = match r.dst with | some d => setT s.t d r.v | none => s.t := by
  unfold Rec.apply St.put; cases r.dst <;> rfl
theorem apply_h (r : Rec) (s : St) : (r.apply s).h = setBs s.h r.wr := by
  unfold Rec.apply St.put; cases r.dst <;> rfl

structure Apart (x y : Rec) : Prop where
  d1 : ∀ d, x.dst = some d → (∀ p ∈ y.uses, p.1 ≠ d) ∧ y.dst ≠ some d
  d2 : ∀ d, y.dst = some d → ∀ p ∈ x.uses, p.1 ≠ d
  w1 : ∀ p ∈ x.wr, p.1 ∉ y.rds ∧ ∀ q ∈ y.wr, q.1 ≠ p.1
  w2 : ∀ p ∈ y.wr, p.1 ∉ x.rds
  s1 : ∀ p ∈ x.wr, ∀ m, m < y.n → p.1 ≠ y.nid + m
  s2 : ∀ p ∈ y.wr, ∀ m, m < x.n → p.1 ≠ x.nid + m

theorem offSlots_spec {wr : List (Nat × Blk)} {nid n : Nat} (h : offSlots wr nid n = true) : ∀ p ∈ wr, ∀ m, m < n → p.1 ≠ nid + m := by
  intro p hp m hm
  have := List.all_eq_true.1 h p hp
  rw [Bool.or_eq_true] at this
  rcases this with h1 | h1
  · have h1 : p.1 < nid := by simpa using h1
    omega
  · have h1 := Nat.le_of_ble_eq_true h1
    omega

theorem not_seen {b : Nat} {l : List Nat} (h : (!seen b l) = true) : b ∉ l := fun hm => by
  rw [seen_iff.2 hm] at h; cases h

theorem Rec.apart_spec {x y : Rec} (h : x.apart y = true) : Apart x y := by
  simp only [Rec.apart, Bool.and_eq_true] at h
  obtain ⟨⟨⟨⟨⟨h1, h2⟩, h3⟩, h4⟩, h5⟩, h6⟩ := h
  refine ⟨fun d hd => ?_, fun d hd => ?_, fun p hp => ?_, fun p hp => ?_, offSlots_spec h5, offSlots_spec h6⟩
  · simp only [hd, Bool.and_eq_true, List.all_eq_true, bne_iff_ne] at h1; exact h1
  · simp only [hd, List.all_eq_true, bne_iff_ne] at h2; exact h2
  · have := List.all_eq_true.1 h3 p hp
    simp only [Bool.and_eq_true, List.all_eq_true, bne_iff_ne] at this
    exact ⟨not_seen this.1, this.2⟩
  · exact not_seen (List.all_eq_true.1 h4 p hp)

theorem Apart.swap {x y : Rec} {lx ly : Look} {s : St} (h : Apart x y) (hx : x.en lx s) (hy : y.en ly (x.apply s)) : y.en ly s ∧ x.en lx (y.apply s) ∧ x.apply (y.apply s) = y.apply (x.apply s) := by
  obtain ⟨x1, x2, x3⟩ := hx
  obtain ⟨y1, y2, y3⟩ := hy
  rw [apply_t] at y1
  rw [apply_h] at y2 y3
  refine ⟨⟨fun p hp => ?_, fun b hb => ?_, fun m hm => ?_⟩, ⟨fun p hp => ?_, fun b hb => ?_, fun m hm => ?_⟩, ?_⟩
  · have := y1 p hp
    cases hd : x.dst with
    | none => rw [hd] at this; exact this
    | some d =>
      rw [hd] at this
      rw [← this]
      exact (getT_setT_ne ((h.d1 d hd).1 p hp)).symm
  · rw [← y2 b hb, getB_setBs_not _ _ _ (fun p hp e => (h.w1 p hp).1 (e ▸ hb))]
  · have := y3 m hm
    rw [getB_setBs_not _ _ _ (fun p hp => h.s1 p hp m hm), length_setBs] at this
    exact this
  · rw [apply_t]
    cases hd : y.dst with
    | none => exact x1 p hp
    | some d => exact (getT_setT_ne (h.d2 d hd p hp)).trans (x1 p hp)
  · rw [apply_h, getB_setBs_not _ _ _ (fun p hp e => h.w2 p hp (e ▸ hb))]; exact x2 b hb
  · rw [apply_h, getB_setBs_not _ _ _ (fun p hp => h.s2 p hp m hm), length_setBs]; exact x3 m hm
  · have e1 : (x.apply (y.apply s)).t = (y.apply (x.apply s)).t := by
      simp only [apply_t]
      cases hd : x.dst with
      | none => rfl
      | some d =>
        cases he : y.dst with
        | none => rfl
        | some e =>
          have hne : d ≠ e := fun q => (h.d1 d hd).2 (by rw [he, q])
          exact setT_comm (fun q => hne q.symm)
    have e2 : (x.apply (y.apply s)).h = (y.apply (x.apply s)).h := by
      simp only [apply_h]
      exact (setBs_comm fun p hp q hq => (h.w1 p hp).2 q hq).symm
    revert e1 e2
    generalize x.apply (y.apply s) = a
    generalize y.apply (x.apply s) = b
    intro e1 e2
    cases a; cases b; cases e1; cases e2; rfl

/-- a record with its number and what was looked at -/
structure NRec where
  i : Nat
  r : Rec
  look : Look

def Chain : St → List NRec → St → Prop
  | s, [], f => s = f
  | s, x :: xs, f => x.r.en x.look s ∧ Chain (x.r.apply s) xs f

theorem Chain.first : ∀ {pre : List NRec} {x : NRec} {post : List NRec} {s f : St}, Chain s (pre ++ x :: post) f → (∀ q ∈ pre, Apart q.r x.r) → x.r.en x.look s ∧ Chain (x.r.apply s) (pre ++ post) f
  | [], _, _, _, _, h, _ => h
  | q :: pre, x, post, s, f, h, ha => by
    obtain ⟨h1, h2⟩ := h
    obtain ⟨h3, h4⟩ := Chain.first h2 (fun p hp => ha p (List.mem_cons_of_mem _ hp))
    obtain ⟨g1, g2, g3⟩ := (ha q List.mem_cons_self).swap h1 h3
    refine ⟨g1, g2, ?_⟩
    rw [g3]
    exact h4

/-! ### An operation within a region -/
/-- operation i, then K -/
def opX (P : Program) (ops : Array Oper) (i : Nat) (K : Act → World → Prop) (a : Act) (w : World) : Prop :=
  ∀ (main : Bool) (Stop : Goroutine → World → Prop) (b : Frame) (rest : List Nat) (k : List Item) (cs : List Frame), b.kind = .normal →
    (∀ a' w', K a' w' → Way P main Stop (Conc.G (b.at a' (.inRegion ops rest :: k)) cs) w') → Way P main Stop (Conc.G (b.at a (.inRegion ops (i :: rest) :: k)) cs) w
def opsX (P : Program) (ops : Array Oper) (Q : Act → World → Prop) : List Nat → Act → World → Prop
  | [], a, w => Q a w
  | i :: is, a, w => opX P ops i (opsX P ops Q is) a w
theorem opX_mono {i : Nat} {a : Act} {w : World} {K K' : Act → World → Prop} (h : ∀ a w, K a w → K' a w) (hh : opX P ops i K a w) : opX P ops i K' a w :=
  fun main Stop b rest k cs hb hk => hh main Stop b rest k cs hb fun a' w' q => hk a' w' (h a' w' q)
def anyX (P : Program) (md : Region.Mode) (ops : Array Oper) (Q : Act → World → Prop) : Nat → Array Bool → Act → World → Prop
  | 0, listed, a, w => Region.ready md ops listed = [] ∧ Q a w
  | fuel + 1, listed, a, w => (Region.ready md ops listed = [] → Q a w) ∧ ∀ i ∈ Region.ready md ops listed, opX P ops i (anyX P md ops Q fuel (listed.setIfInBounds i true)) a w
theorem anyX_sound {md : Region.Mode} : ∀ (fuel t : Nat) (listed : Array Bool) (a : Act) (w : World), anyX P md ops Q fuel listed a w → opsX P ops Q (Region.linearise.go md ops fuel t listed []) a w := by
  intro fuel
  induction fuel with
  | zero => intro t listed a w h; simpa [Region.linearise.go, opsX] using h.2
  | succ fuel ih =>
    intro t listed a w h
    obtain ⟨h0, h1⟩ := h
    simp only [Region.linearise.go]
    change opsX P ops Q (match (Region.ready md ops listed)[t % (Region.ready md ops listed).length]? with
      | some i => Region.linearise.go md ops fuel (t / (Region.ready md ops listed).length) (listed.setIfInBounds i true) [i]
      | none => [].reverse) a w
    cases hi : (Region.ready md ops listed)[t % (Region.ready md ops listed).length]? with
    | none =>
      have hnil : Region.ready md ops listed = [] := by
        cases hr : Region.ready md ops listed with
        | nil => rfl
        | cons x xs =>
          rw [hr] at hi
          have hlt : t % (x :: xs).length < (x :: xs).length := Nat.mod_lt _ (by simp)
          rw [List.getElem?_eq_getElem hlt] at hi
          cases hi
      exact h0 hnil
    | some i =>
      simp only []
      rw [linearise_go_acc, List.reverse_singleton, List.singleton_append]
      exact opX_mono (fun a w => ih _ _ a w) (h1 i (List.mem_of_getElem? hi))
/-- what a record says of an operation -/
def RecOk (P : Program) (G : GlobT) (ops : Array Oper) (o : Oper) (r : Rec) (look : Look) : Prop :=
  r.dst = o.dst ∧ ∀ (E : Env) (a : Act), RepH G E → (∀ p ∈ r.uses, RelS E p.2 (a.tmps.toList.getD p.1 undef)) → (∀ b ∈ r.rds, getB E.H b = look b) →
    (∀ m, m < r.n → fresh1 E (r.nid + m)) →
    (if Region.wanted o (yielded ops a.tmps) then StepOk P G E (execOp a.eval o) (r.v, r.wr) else ResR G E (r.v, r.wr) undef E.w)

/-- an abstract state stands for a machine's -/
structure Rp (G : GlobT) (E : Env) (s : St) (a : Act) : Prop where
  h : RepH G E
  eq : E.H = s.h
  t : RelTs E s.t a.tmps.toList
  d : a.defers = []

theorem Rp.next {s : St} {a : Act} {r : Rec} {v : Value} {w' : World} (h : Rp G E s a) (hr : ResR G E (r.v, r.wr) v w') : ∃ E', E'.w = w' ∧ Ext E E' ∧ Rp G E' (r.apply s) (a.put r.dst v) := by
  obtain ⟨β', R', h1, h2, h3⟩ := hr
  refine ⟨_, rfl, h2, h1, by rw [apply_h, ← h.eq], ?_, ?_⟩
  · have ht := RelTs.ext h.h h2 _ _ h.t
    rw [apply_t]
    cases hd : r.dst with
    | none => exact ht
    | some d =>
      have := relTs_set (d := d) ht h3
      simpa [Act.put] using this
  · cases hd : r.dst <;> exact h.d

theorem fz_grow {w w₁ : World} (g : Grow w w₁) {k : Nat} (hk : k < w.heap.size) : w₁.heap[k]? = w.heap[k]? := g.heap k hk
/-- the others' doing does no harm -/
theorem env_grow (hE : RepH G E) {w₁ : World} (g : Grow E.w w₁) : RepH G ⟨E.β, E.H, w₁, E.R⟩ ∧ Ext E ⟨E.β, E.H, w₁, E.R⟩ := by
  have hk : ∀ (k : Nat) (o : Obj), E.w.heap[k]? = some o → w₁.heap[k]? = some o := fun k o h => by
    have hlt : k < E.w.heap.size := by
      rcases Nat.lt_or_ge k E.w.heap.size with h' | h'
      · exact h'
      · rw [Array.getElem?_eq_none h'] at h; cases h
    rw [g.heap k hlt]; exact h
  have x : Ext E ⟨E.β, E.H, w₁, E.R⟩ := {
    os := g.os, tape := g.tape, output := g.output, size := g.size, ro := fun _ h => h, rnew := fun _ h => .inl h, keep := fun k h _ => g.heap k h
    cells := fun k c e fz h => ⟨c, fz, hk k _ h, rfl⟩
    blk := fun b => by cases getB E.H b <;> simp [BExt]
    fresh := fun b k h1 h2 => .inl ⟨b, h1, h2⟩ }
  refine ⟨⟨fun k h => ⟨Nat.lt_of_lt_of_le (hE.ro k h).1 g.size, (hE.ro k h).2⟩, hE.inj, fun b => ?_, hE.globExt x⟩, x⟩
  exact (hE.blk b).ext hE x rfl (fun k o _ ho => hk k o ho) (fun t xs k hf hk b' hl hb' => hE.shares hf hk hl hb')
theorem Rp.grow {s : St} {a : Act} (h : Rp G E s a) {w₁ : World} (g : Grow E.w w₁) : Ext E ⟨E.β, E.H, w₁, E.R⟩ ∧ Rp G ⟨E.β, E.H, w₁, E.R⟩ s a := by
  obtain ⟨h1, h2⟩ := env_grow h.h g
  exact ⟨h2, h1, h.eq, RelTs.ext h.h h2 _ _ h.t, h.d⟩

/-- where an operation may come first -/
theorem RecOk.first {o : Oper} {x : NRec} {s : St} {a : Act} {K : Act → World → Prop} (hx : RecOk P G ops o x.r x.look) (ho : ops[x.i]? = some o) (hen : x.r.en x.look s) (hs : Rp G E s a)
    (hK : ∀ E' a', Ext E E' → Rp G E' (x.r.apply s) a' → K a' E'.w) : opX P ops x.i K a E.w := by
  intro main Stop b rest k cs hb hk
  have hbe : b.kind ≠ .early := by rw [hb]; simp
  refine Way.go rfl (fun w₁ g => ?_)
  obtain ⟨x1, hs1⟩ := hs.grow g
  obtain ⟨h1, h2, h3⟩ := hen
  have hst := hx.2 ⟨E.β, E.H, w₁, E.R⟩ a hs1.h (fun p hp => by rw [← h1 p hp]; exact relTs_get hs1.t) (fun q hq => by rw [hs1.eq]; exact h2 q hq) (fun m hm => by unfold fresh1; rw [hs1.eq]; exact ⟨(h3 m hm).2, (h3 m hm).1⟩)
  have fin : ∀ v w', ResR G ⟨E.β, E.H, w₁, E.R⟩ (x.r.v, x.r.wr) v w' → Way P main Stop (Conc.G (b.at (a.put o.dst v) (.inRegion ops rest :: k)) cs) w' := fun v w' hr => by
    obtain ⟨E', rfl, g1, g2⟩ := hs1.next hr
    rw [← hx.1]
    exact hk _ _ (hK E' _ (x1.trans g1) g2)
  by_cases hw : Region.wanted o (yielded ops a.tmps) = true
  · rw [if_pos hw] at hst
    rcases hst with ⟨v, w', q1, q2⟩ | ⟨w', q1, q2⟩ | ⟨f, us, q1, q2⟩
    · exact ⟨_, _, _, Conc.stepG_value ho hw hbe q1, fin v w' q2⟩
    · exact ⟨_, _, _, Conc.stepG_none ho hw hbe q1, fin undef w' q2⟩
    · refine ⟨_, _, _, Conc.stepG_enter ho hw hbe q1, q2.call (fun u w' hu => ?_)⟩
      rw [Frame.finish_at, ho]
      exact fin u w' hu
  · rw [if_neg hw] at hst
    have hw : Region.wanted o (yielded ops a.tmps) = false := by simpa using hw
    exact ⟨_, _, _, Conc.stepG_unwanted ho hw, fin undef w₁ hst⟩

/-- one behind the other, as they stand -/
theorem chain_text : ∀ {l : List NRec} {s f : St} {E : Env} {a : Act}, (∀ x ∈ l, ∃ o, ops[x.i]? = some o ∧ RecOk P G ops o x.r x.look) → Chain s l f → Rp G E s a →
    (∀ E' a', Ext E E' → Rp G E' f a' → Q a' E'.w) → opsX P ops Q (l.map (·.i)) a E.w
  | [], s, f, E, a, _, hc, hs, hQ => by
    have hc : s = f := hc
    subst hc
    exact hQ E a (Ext.refl E) hs
  | x :: l, s, f, E, a, hl, hc, hs, hQ => by
    obtain ⟨o, ho, hx⟩ := hl x List.mem_cons_self
    refine hx.first ho hc.1 hs (fun E' a' g1 g2 => ?_)
    exact chain_text (fun y hy => hl y (List.mem_cons_of_mem _ hy)) hc.2 g2 (fun E'' a'' g3 g4 => hQ E'' a'' (g1.trans g3) g4)

/-- the ones listed are closed under what must come before -/
def Closed (ops : Array Oper) (listed : Array Bool) : Prop :=
  ∀ i o, ops[i]? = some o → listed.getD i false = true → ∀ e ∈ o.after.toList, Region.binds .any e = true → listed.getD e.on false = true

theorem ready_spec {listed : Array Bool} {i : Nat} (h : i ∈ Region.ready .any ops listed) : i < ops.size ∧ listed.getD i true = false ∧ ∃ o, ops[i]? = some o ∧ ∀ e ∈ o.after.toList, Region.binds .any e = true → listed.getD e.on false = true := by
  unfold Region.ready at h
  rw [List.mem_filter, List.mem_range, Bool.and_eq_true] at h
  obtain ⟨h1, h2, h3⟩ := h
  refine ⟨h1, by simpa using h2, ops[i], Array.getElem?_eq_getElem h1, fun e he hb => ?_⟩
  rw [Array.getElem?_eq_getElem h1] at h3
  simp only [Option.map_some, Option.getD_some] at h3
  have := Array.all_eq_true_iff_forall_mem.1 h3 e (by simpa using he)
  rw [hb] at this
  simpa using this

theorem ready_of {listed : Array Bool} {i : Nat} {o : Oper} (h1 : ops[i]? = some o) (h2 : listed.getD i true = false) (h3 : ∀ e ∈ o.after.toList, Region.binds .any e = true → listed.getD e.on false = true) : i ∈ Region.ready .any ops listed := by
  unfold Region.ready
  rw [List.mem_filter, List.mem_range, Bool.and_eq_true]
  refine ⟨(Array.getElem?_eq_some_iff.1 h1).1, by rw [h2]; rfl, ?_⟩
  rw [h1]
  simp only [Option.map_some, Option.getD_some]
  refine Array.all_eq_true_iff_forall_mem.2 fun e he => ?_
  cases hb : Region.binds .any e with
  | false => rfl
  | true => rw [h3 e (by simpa using he) hb]; rfl

/-- masks tell what must come before -/
def MaskOk (listed : Nat → Bool) (acc : List Nat) (ops : List Oper) : Prop :=
  ∀ (i : Nat) (o : Oper) (m : Nat), ops[i]? = some o → acc[i]? = some m → (∀ e ∈ o.after.toList, Region.binds .any e = true → listed e.on = true) → ∀ j, m.testBit j = true → listed j = true

theorem mask_spec {listed : Nat → Bool} {acc : List Nat} {all : List Oper} (hcl : ∀ i o, all[i]? = some o → listed i = true → ∀ e ∈ o.after.toList, Region.binds .any e = true → listed e.on = true)
    (hlen : acc.length ≤ all.length) (h : MaskOk listed acc all) : ∀ (es : List Edge), (∀ e ∈ es, Region.binds .any e = true → listed e.on = true) → ∀ j, (mask acc es).testBit j = true → listed j = true
  | [], _, j, hj => by simp [mask] at hj
  | e :: es, hes, j, hj => by
    simp only [mask] at hj
    split at hj
    · rename_i hb
      rw [Nat.testBit_or, Nat.testBit_or, Bool.or_eq_true, Bool.or_eq_true] at hj
      have hl := hes e List.mem_cons_self hb
      rcases hj with hj | hj | hj
      · have : j = e.on := by
          rw [Nat.shiftLeft_eq, Nat.one_mul, Nat.testBit_two_pow] at hj
          have hj : e.on = j := by simpa using hj
          exact hj.symm
        rw [this]; exact hl
      · rw [List.getD_eq_getElem?_getD] at hj
        cases ha : acc[e.on]? with
        | none => rw [ha] at hj; simp at hj
        | some m =>
          rw [ha] at hj
          have hlt : e.on < acc.length := (List.getElem?_eq_some_iff.1 ha).1
          obtain ⟨o, ho⟩ : ∃ o, all[e.on]? = some o := ⟨all[e.on], List.getElem?_eq_getElem (by omega)⟩
          exact h e.on o m ho ha (hcl e.on o ho hl) j (by simpa using hj)
      · exact mask_spec hcl hlen h es (fun e he => hes e (List.mem_cons_of_mem _ he)) j hj
    · exact mask_spec hcl hlen h es (fun e he => hes e (List.mem_cons_of_mem _ he)) j hj

theorem masks_spec {listed : Nat → Bool} {all : List Oper} (hcl : ∀ i o, all[i]? = some o → listed i = true → ∀ e ∈ o.after.toList, Region.binds .any e = true → listed e.on = true) :
    ∀ {os : List Oper} {acc : List Nat} {pre : List Oper}, all = pre ++ os → acc.length = pre.length → MaskOk listed acc all → MaskOk listed (masks os acc) all ∧ (masks os acc).length = all.length
  | [], acc, pre, he, hl, h => by subst he; exact ⟨h, by simp [masks, hl]⟩
  | o :: os, acc, pre, he, hl, h => by
    simp only [masks]
    refine masks_spec hcl (pre := pre ++ [o]) (by simp [he]) (by simp [hl]) ?_
    intro i o' m ho hm hes j hj
    rcases Nat.lt_or_ge i acc.length with hi | hi
    · rw [List.getElem?_append_left hi] at hm
      exact h i o' m ho hm hes j hj
    · rw [List.getElem?_append_right hi] at hm
      have : i - acc.length = 0 := by
        have := (List.getElem?_eq_some_iff.1 hm).1
        simp at this; omega
      rw [this] at hm
      simp at hm
      subst hm
      have hie : i = pre.length := by omega
      subst hie
      rw [he, List.getElem?_append_right (Nat.le_refl _)] at ho
      simp at ho
      subst ho
      exact mask_spec hcl (by rw [he, List.length_append]; omega) h _ hes j hj

/-- all orders -/
theorem anyX_chain {bit : Nat → Nat → Prop} (hbit : ∀ (listed : Array Bool), Closed ops listed → ∀ i o, ops[i]? = some o → (∀ e ∈ o.after.toList, Region.binds .any e = true → listed.getD e.on false = true) → ∀ j, bit i j → listed.getD j false = true)
    (htext : ∀ i o, ops[i]? = some o → ∀ e ∈ o.after.toList, Region.binds .any e = true → e.on < i) {f : St} :
    ∀ (fuel : Nat) {listed : Array Bool} {l : List NRec} {s : St} {E : Env} {a : Act}, l.length = fuel → listed.size = ops.size →
      (∀ i, i < ops.size → (listed.getD i false = false ↔ ∃ x ∈ l, x.i = i)) → Closed ops listed → l.Pairwise (fun x y => x.i < y.i ∧ (bit y.i x.i ∨ Apart x.r y.r)) →
      (∀ x ∈ l, ∃ o, ops[x.i]? = some o ∧ RecOk P G ops o x.r x.look) → Chain s l f → Rp G E s a → (∀ E' a', Ext E E' → Rp G E' f a' → Q a' E'.w) →
      anyX P .any ops Q fuel listed a E.w
  | 0, listed, l, s, E, a, hl, hsz, hmem, hcl, hpw, hok, hc, hs, hQ => by
    have hl : l = [] := List.eq_nil_of_length_eq_zero hl
    subst hl
    refine ⟨List.eq_nil_iff_forall_not_mem.2 fun i hi => ?_, ?_⟩
    · obtain ⟨h1, h2, _⟩ := ready_spec hi
      have : listed.getD i false = false := by
        simp [Array.getD, hsz, h1] at h2 ⊢; exact h2
      obtain ⟨x, hx, _⟩ := (hmem i h1).1 this
      cases hx
    · have hc : s = f := hc
      subst hc
      exact hQ E a (Ext.refl E) hs
  | fuel + 1, listed, l, s, E, a, hl, hsz, hmem, hcl, hpw, hok, hc, hs, hQ => by
    constructor
    · intro hr
      exfalso
      cases l with
      | nil => cases hl
      | cons x l =>
        obtain ⟨o, ho, _⟩ := hok x List.mem_cons_self
        have hi : x.i < ops.size := (Array.getElem?_eq_some_iff.1 ho).1
        have hx : listed.getD x.i false = false := (hmem x.i hi).2 ⟨x, List.mem_cons_self, rfl⟩
        have : x.i ∈ Region.ready .any ops listed := by
          refine ready_of ho ?_ (fun e he hb => ?_)
          · simp [Array.getD, hsz, hi] at hx ⊢; exact hx
          · have hlt := htext x.i o ho e he hb
            cases hle : listed.getD e.on false with
            | true => rfl
            | false =>
              obtain ⟨y, hy, hyi⟩ := (hmem e.on (by omega)).1 hle
              rcases List.mem_cons.1 hy with rfl | hy
              · omega
              · have := (List.rel_of_pairwise_cons hpw hy).1
                omega
        rw [hr] at this; cases this
    · intro i hi
      obtain ⟨h1, h2, o, ho, hes⟩ := ready_spec hi
      have hun : listed.getD i false = false := by
        simp [Array.getD, hsz, h1] at h2 ⊢; exact h2
      obtain ⟨x, hx, rfl⟩ := (hmem i h1).1 hun
      obtain ⟨pre, post, rfl⟩ := List.append_of_mem hx
      obtain ⟨o', ho', hok'⟩ := hok x hx
      rw [ho] at ho'; obtain rfl := Option.some.inj ho'
      have hap : ∀ q ∈ pre, Apart q.r x.r := fun q hq => by
        have := (List.pairwise_append.1 hpw).2.2 q hq x List.mem_cons_self
        refine this.2.resolve_left fun hb => ?_
        have hlq := hbit listed hcl x.i o ho hes q.i hb
        obtain ⟨oq, hoq, _⟩ := hok q (List.mem_append_left _ hq)
        have := (hmem q.i (Array.getElem?_eq_some_iff.1 hoq).1).2 ⟨q, List.mem_append_left _ hq, rfl⟩
        rw [this] at hlq; cases hlq
      obtain ⟨g1, g2⟩ := Chain.first hc hap
      refine hok'.first ho g1 hs (fun E' a' q1 q2 => ?_)
      have hset : ∀ j, (listed.setIfInBounds x.i true).getD j false = if j = x.i then true else listed.getD j false := fun j => by
        simp only [Array.getD_eq_getD_getElem?, Array.getElem?_setIfInBounds]
        split
        · rename_i e; subst e; rw [hsz, if_pos h1, if_pos rfl]; rfl
        · rename_i e; rw [if_neg (fun q => e q.symm)]
      have hpw' : (pre ++ post).Pairwise (fun x y => x.i < y.i ∧ (bit y.i x.i ∨ Apart x.r y.r)) := hpw.sublist (List.append_sublist_append_left _ |>.2 (List.sublist_cons_self _ _))
      refine anyX_chain hbit htext fuel (by simp at hl ⊢; omega) (by simp [hsz]) (fun j hj => ?_) ?_ hpw' (fun y hy => hok y ?_) g2 q2 (fun E'' a'' r1 r2 => hQ E'' a'' (q1.trans r1) r2)
      · rw [hset]
        by_cases hjx : j = x.i
        · subst hjx
          rw [if_pos rfl]
          constructor
          · intro h; cases h
          · rintro ⟨y, hy, hyi⟩
            exfalso
            rcases List.mem_append.1 hy with hy | hy
            · have := ((List.pairwise_append.1 hpw).2.2 y hy x List.mem_cons_self).1; omega
            · have := (List.rel_of_pairwise_cons (List.pairwise_append.1 hpw).2.1 hy).1; omega
        · rw [if_neg hjx, hmem j hj]
          constructor
          · rintro ⟨y, hy, rfl⟩
            refine ⟨y, ?_, rfl⟩
            rcases List.mem_append.1 hy with hy | hy
            · exact List.mem_append_left _ hy
            · rcases List.mem_cons.1 hy with rfl | hy
              · exact (hjx rfl).elim
              · exact List.mem_append_right _ hy
          · rintro ⟨y, hy, rfl⟩
            refine ⟨y, ?_, rfl⟩
            rcases List.mem_append.1 hy with hy | hy
            · exact List.mem_append_left _ hy
            · exact List.mem_append_right _ (List.mem_cons_of_mem _ hy)
      · intro j oj hoj hlj e he hb
        rw [hset] at hlj ⊢
        split
        · rfl
        · split at hlj
          · rename_i hjx; subst hjx
            rw [ho] at hoj; obtain rfl := Option.some.inj hoj
            exact hes e he hb
          · exact hcl j oj hoj hlj e he hb
      · rcases List.mem_append.1 hy with hy | hy
        · exact List.mem_append_left _ hy
        · exact List.mem_append_right _ (List.mem_cons_of_mem _ hy)
end Go.SX
