/-
  SX, part 6: what one change of memory does to what an abstract state says.
-/
import Derived.Test.YticfnbhbpcpgeaaDoorSx5
import Derived.Deep.AppendSrc
import Derived.Deep.Upon
import Derived.Laws.Append
namespace Go.SX
open Go
variable {G : GlobT} {E E' : Env}

theorem getB_len {H : Heap} {b : Nat} (h : getB H b ≠ .dead) : b < H.length := by
  induction H generalizing b with
  | nil => simp [getB] at h
  | cons x H ih =>
    cases b with
    | zero => simp
    | succ b => simp only [getB] at h; simp; exact ih h

theorem getB_setB (H : Heap) (n : Nat) (k : Blk) (b : Nat) : getB (setB H n k) b = if b = n ∧ n < H.length then k else getB H b := by
  induction H generalizing n b with
  | nil => simp [setB, getB]
  | cons x H ih =>
    cases n with
    | zero => cases b <;> simp [setB, getB]
    | succ n =>
      cases b with
      | zero => simp [setB, getB]
      | succ b => simp only [setB, getB, ih]; simp

theorem getB_setB_same {H : Heap} {n : Nat} {k : Blk} (h : n < H.length) : getB (setB H n k) n = k := by rw [getB_setB, if_pos ⟨rfl, h⟩]
theorem getB_setB_ne {H : Heap} {n b : Nat} {k : Blk} (h : b ≠ n) : getB (setB H n k) b = getB H b := by rw [getB_setB, if_neg (fun h' => h h'.1)]
theorem length_setB (H : Heap) (n : Nat) (k : Blk) : (setB H n k).length = H.length := by
  induction H generalizing n with
  | nil => rfl
  | cons x H ih => cases n <;> simp [setB, ih]

theorem setBs_append (H : Heap) : ∀ (ws vs : List (Nat × Blk)), setBs H (ws ++ vs) = setBs (setBs H ws) vs
  | ws, vs => by
    induction ws generalizing H with
    | nil => rfl
    | cons p ws ih => obtain ⟨b, k⟩ := p; exact ih _
theorem length_setBs : ∀ (ws : List (Nat × Blk)) (H : Heap), (setBs H ws).length = H.length
  | [], _ => rfl
  | (b, k) :: ws, H => by rw [setBs, length_setBs ws, length_setB]
theorem getB_setBs_not : ∀ (ws : List (Nat × Blk)) (H : Heap) (b : Nat), (∀ p ∈ ws, p.1 ≠ b) → getB (setBs H ws) b = getB H b
  | [], _, _, _ => rfl
  | (b', k) :: ws, H, b, h => by
    rw [setBs, getB_setBs_not ws _ b (fun p hp => h p (List.mem_cons_of_mem _ hp)), getB_setB_ne (fun e => h (b', k) List.mem_cons_self e.symm)]

theorem live_ne_dead {k : Blk} (h : live k = true) : k ≠ .dead := by intro e; rw [e] at h; cases h

theorem refSingle {d : RefD} {v : Value} (h : RelRef E d v) : single v := by
  cases d with
  | nil => rw [show v = _ from h]; trivial
  | own b off len => exact h.1
  | raw a len cap => rw [show v = _ from h]; trivial

theorem single_of {x : Cell} {v : Value} (h : RelC E x v) : single v := by
  cases x with
  | any => exact h
  | int l k n => rw [h.1]; trivial
  | bool l b => rw [show v = _ from h]; trivial
  | str s => rw [show v = _ from h]; trivial
  | nilp => rw [show v = _ from h]; trivial
  | nils => rw [show v = _ from h]; trivial
  | nilif => rw [show v = _ from h]; trivial
  | nilfn => rw [show v = _ from h]; trivial
  | ptr b i es o k n => exact h.1
  | rptr t d o k => obtain ⟨_, _, _, _, _, _, rfl, _⟩ := h; trivial
  | sl b off len => exact h.1
  | sla b o n off len => exact h.1
  | ro t xs len => obtain ⟨_, _, rfl, _⟩ := h; trivial
  | ifc t x => obtain ⟨_, rfl, _⟩ := h; trivial
  | ifd T t d => obtain ⟨_, rfl, _⟩ := h; trivial
  | fn f cs => rw [h.2]; trivial
  | ref d => exact refSingle h

theorem single_oneCell {v : Value} (h : single v) : v.oneCell' = true := by cases v <;> first | rfl | exact h.elim

theorem RoT.single : ∀ {t : DTy} {d : t.den} {vs : List Value}, RoT E t d vs → ∀ v ∈ vs, single v
  | .unit, _, _, h, v, hv => by have h : _ = _ := h; rw [h] at hv; cases hv
  | .int k, _, _, h, v, hv => by rw [h.1] at hv; simp at hv; rw [hv]; trivial
  | .bool, _, _, h, v, hv => by have h : _ = _ := h; rw [h] at hv; simp at hv; rw [hv]; trivial
  | .str, _, _, h, v, hv => by have h : _ = _ := h; rw [h] at hv; simp at hv; rw [hv]; trivial
  | .ws k n, _, _, h, v, hv => by rw [h.2.2] at hv; obtain ⟨_, _, rfl⟩ := List.mem_map.1 hv; trivial
  | .pair a b, d, vs, h, v, hv => by
    obtain ⟨v1, v2, rfl, h2, h3⟩ := h
    rcases List.mem_append.1 hv with h | h
    · exact RoT.single h2 v h
    · exact RoT.single h3 v h
  | .sl t, d, vs, h, v, hv => by obtain ⟨u, rfl, _, _, rfl, _⟩ := h; simp at hv; rw [hv]; trivial
  | .ref, d, vs, h, v, hv => by obtain ⟨u, h1, h2⟩ := h; rw [h1] at hv; simp at hv; rw [hv]; exact refSingle h2

theorem RelFs.single : ∀ {fs : List FCell} {vs : List Value}, RelFs E fs vs → ∀ v ∈ vs, single v
  | [], vs, h, v, hv => by have h : _ = _ := h; rw [h] at hv; cases hv
  | f :: fs, vs, h, v, hv => by
    obtain ⟨v1, v2, rfl, h2, h3⟩ := h
    rcases List.mem_append.1 hv with h | h
    · cases f with
      | c x => obtain ⟨u, rfl, h4⟩ := h2; simp at h; rw [h]; exact single_of h4
      | ws k n xs => obtain ⟨_, _, rfl⟩ := h2; obtain ⟨_, _, rfl⟩ := List.mem_map.1 h; trivial
    · exact RelFs.single h3 v h

/-- a world that differs in memory alone -/
structure Same (w w' : World) : Prop where
  os : w'.os = w.os
  tape : w'.tape = w.tape
  output : w'.output = w.output

theorem Rows.mono {sz : Nat} {α : Type} {Q Q' : α → List Value → Prop} {xs : List α} {at_ : Nat} {c : Array Value} (h : Rows sz Q xs at_ c) (hq : ∀ a us, Q a us → Q' a us) : Rows sz Q' xs at_ c :=
  fun i hi => let ⟨us, h1, h2, h3⟩ := h i hi; ⟨us, hq _ _ h1, h2, h3⟩

theorem RepB.ext (hE : RepH G E) (x : Ext E E') {b : Nat} {blk : Blk} (h : RepB E b blk) (hβ : E'.β b = E.β b) (hk : ∀ k o, E.β b = some k → E.w.heap[k]? = some o → E'.w.heap[k]? = some o)
    (hfr : ∀ t xs k, blk = .frz t xs → E.β b = some k → ∀ b', live (getB E'.H b') = true → E'.β b' = some k → ∃ xs' lo par, getB E'.H b' = .arr t xs' lo par ∧ b ∈ par ∧ xs.length ≤ lo) : RepB E' b blk := by
  cases blk with
  | vals fs =>
    obtain ⟨k, c, e, fz, h1, h2, h3, h4⟩ := h
    exact ⟨k, c, e, fz, hβ.trans h1, hk k _ h1 h2, h3, RelFs.ext hE x fs _ h4⟩
  | arr t xs lo par =>
    obtain ⟨h0, h0', h1⟩ := h
    refine ⟨h0, h0', ?_⟩
    rcases h1 with ⟨h1, h2⟩ | ⟨k, c, e, fz, h1, h2, h3, h4⟩
    · exact .inl ⟨hβ.trans h1, h2⟩
    · exact .inr ⟨k, c, e, fz, hβ.trans h1, hk k _ h1 h2, h3, h4.mono (fun a us => RoT.ext hE x t a us)⟩
  | frz t xs =>
    obtain ⟨h0', h1⟩ := h
    refine ⟨h0', ?_⟩
    rcases h1 with ⟨h1, h2⟩ | ⟨k, c, e, fz, h1, h2, h3, _⟩
    · exact .inl ⟨hβ.trans h1, h2⟩
    · exact .inr ⟨k, c, e, fz, hβ.trans h1, hk k _ h1 h2, h3.mono (fun a us => RoT.ext hE x t a us), hfr t xs k rfl h1⟩
  | gone => trivial
  | dead => trivial

theorem RepH.lt (hE : RepH G E) {b k : Nat} (hl : live (getB E.H b) = true) (hb : E.β b = some k) : k < E.w.heap.size := by
  have h := hE.blk b
  cases hg : getB E.H b <;> rw [hg] at h hl <;> try (cases hl; done)
  · obtain ⟨k', c, e, fz, h1, h2, _⟩ := h
    rw [hb] at h1
    obtain rfl := Option.some.inj h1
    exact (Array.getElem?_eq_some_iff.1 h2).1
  · obtain ⟨_, _, ⟨h1, _⟩ | ⟨k', c, e, fz, h1, h2, _⟩⟩ := h
    · rw [hb] at h1; cases h1
    · rw [hb] at h1
      obtain rfl := Option.some.inj h1
      exact (Array.getElem?_eq_some_iff.1 h2).1

theorem RepH.globExt (hE : RepH G E) (x : Ext E E') : ∀ g t d, G g = some ⟨t, d⟩ → RelRp E' t d 0 0 (.pointer (some ⟨g, 0, none⟩)) ∧ t.rf = false :=
  fun g t d h => ⟨RelRp.ext hE x (hE.glob g t d h).1, (hE.glob g t d h).2⟩

/-- draws and the like: the same memory -/
theorem env_same (hE : RepH G E) {w' : World} (hs : Same E.w w') (hh : w'.heap = E.w.heap) : RepH G ⟨E.β, E.H, w', E.R⟩ ∧ Ext E ⟨E.β, E.H, w', E.R⟩ := by
  have x : Ext E ⟨E.β, E.H, w', E.R⟩ := {
    os := hs.os, tape := hs.tape, output := hs.output, size := by simp [hh], ro := fun _ h => h, rnew := fun _ h => .inl h
    keep := fun k _ _ => by simp [hh]
    cells := fun k c e fz h => ⟨c, fz, by simpa [hh] using h, rfl⟩
    blk := fun b => by cases getB E.H b <;> simp [BExt]
    fresh := fun b k h1 h2 => .inl ⟨b, h1, h2⟩ }
  refine ⟨⟨fun k hk => ?_, hE.inj, fun b => ?_, hE.globExt x⟩, x⟩
  · obtain ⟨h1, h2⟩ := hE.ro k hk
    exact ⟨by simpa [hh] using h1, h2⟩
  · refine (hE.blk b).ext hE x rfl (fun k o _ ho => by simpa [hh] using ho) (fun t xs k hf hk b' hl hb' => ?_)
    have h := hE.blk b
    rw [hf] at h
    rcases h.2 with ⟨h1, _⟩ | ⟨k', c, e, fz, h1, h2, h3, h4⟩
    · rw [hk] at h1; cases h1
    · rw [hk] at h1
      obtain rfl := Option.some.inj h1
      exact h4 b' hl hb'

/-- what a block that is made anew must bear -/
def NewB (E : Env) (c : Array Value) : Blk → Prop
  | .vals fs => RelFs E fs c.toList
  | .arr t xs lo _ => lo ≤ xs.length ∧ 0 < t.size ∧ Rows t.size (RoT E t) xs 0 c
  | _ => False

/-- a new block -/
theorem env_alloc (hE : RepH G E) {nid : Nat} (hn : nid < E.H.length) (hd : getB E.H nid = .dead) {w' : World} {c : Array Value} {e : TypeId} {fz : Nat × Nat} (hs : Same E.w w')
    (hh : w'.heap = E.w.heap.push (.cells c e fz)) (hz : NoFz fz c.size) {blk : Blk} (hb : NewB E c blk) :
    RepH G ⟨fun b => if b = nid then some E.w.heap.size else E.β b, setB E.H nid blk, w', E.R⟩ ∧ Ext E ⟨fun b => if b = nid then some E.w.heap.size else E.β b, setB E.H nid blk, w', E.R⟩ := by
  have hl : live blk = true := by cases blk <;> first | rfl | exact hb.elim
  have hold : ∀ k, k < E.w.heap.size → w'.heap[k]? = E.w.heap[k]? := fun k hk => by rw [hh, Array.getElem?_push, if_neg (by omega)]
  have hnew : w'.heap[E.w.heap.size]? = some (.cells c e fz) := by rw [hh]; simp
  have x : Ext E ⟨fun b => if b = nid then some E.w.heap.size else E.β b, setB E.H nid blk, w', E.R⟩ := {
    os := hs.os, tape := hs.tape, output := hs.output, size := by simp [hh], ro := fun _ h => h, rnew := fun _ h => .inl h
    keep := fun k hk _ => hold k hk
    cells := fun k c' e' fz' h => ⟨c', fz', (hold k (Array.getElem?_eq_some_iff.1 h).1).trans h, rfl⟩
    blk := fun b => by
      by_cases hbn : b = nid
      · subst hbn; rw [hd]; cases getB (setB E.H b blk) b <;> trivial
      · simp only [getB_setB_ne hbn]; cases getB E.H b <;> simp [BExt, hbn]
    fresh := fun b k h1 h2 => by
      by_cases hbn : b = nid
      · right; simp only [hbn, if_true, Option.some.injEq] at h2; omega
      · left; simp only [hbn, if_false] at h2; rw [getB_setB_ne hbn] at h1; exact ⟨b, h1, h2⟩ }
  refine ⟨⟨fun k hk => ?_, fun b b' k h1 h2 h3 h4 => ?_, fun b => ?_, hE.globExt x⟩, x⟩
  · obtain ⟨g1, g2⟩ := hE.ro k hk
    refine ⟨by simp [hh]; omega, fun b h1 h2 => ?_⟩
    by_cases hbn : b = nid
    · simp only [hbn, if_true, Option.some.injEq] at h2; omega
    · simp only [hbn, if_false] at h2; rw [getB_setB_ne hbn] at h1; exact g2 b h1 h2
  · by_cases hbn : b = nid <;> by_cases hbn' : b' = nid
    · exact hbn.trans hbn'.symm
    · simp only [hbn, hbn', if_true, if_false, Option.some.injEq] at h3 h4
      rw [getB_setB_ne hbn'] at h2
      have := hE.lt h2 h4
      omega
    · simp only [hbn, hbn', if_true, if_false, Option.some.injEq] at h3 h4
      rw [getB_setB_ne hbn] at h1
      have := hE.lt h1 h3
      omega
    · simp only [hbn, hbn', if_false] at h3 h4
      rw [getB_setB_ne hbn] at h1
      rw [getB_setB_ne hbn'] at h2
      exact hE.inj b b' k h1 h2 h3 h4
  · by_cases hbn : b = nid
    · subst hbn
      show RepB _ b (getB (setB E.H b blk) b)
      rw [getB_setB_same hn]
      cases blk with
      | vals fs => exact ⟨_, c, e, fz, by simp, hnew, hz, RelFs.ext hE x fs _ hb⟩
      | arr t xs lo par => exact ⟨hb.1, hb.2.1, .inr ⟨_, c, e, fz, by simp, hnew, hz, hb.2.2.mono (fun a us => RoT.ext hE x t a us)⟩⟩
      | frz t xs => exact hb.elim
      | gone => exact hb.elim
      | dead => exact hb.elim
    · show RepB _ b (getB (setB E.H nid blk) b)
      rw [getB_setB_ne hbn]
      refine (hE.blk b).ext hE x (by simp [hbn]) (fun k o hk ho => (hold k (Array.getElem?_eq_some_iff.1 ho).1).trans ho) (fun t xs k hf hk b' hl' hb' => ?_)
      · have h := hE.blk b
        rw [hf] at h
        rcases h.2 with ⟨h1, _⟩ | ⟨k', c', e', fz', h1, h2, h3, h4⟩
        · rw [hk] at h1; cases h1
        · rw [hk] at h1
          obtain rfl := Option.some.inj h1
          by_cases hbn' : b' = nid
          · simp only [hbn', if_true, Option.some.injEq] at hb'
            have := (Array.getElem?_eq_some_iff.1 h2).1
            omega
          · simp only [hbn', if_false] at hb'
            simp only [getB_setB_ne hbn'] at hl' ⊢
            exact h4 b' hl' hb'

/-- what a frozen block says of the live one that it shares its cells with -/
theorem RepH.shares (hE : RepH G E) {p b k : Nat} {t : DTy} {xs : List t.den} (hp : getB E.H p = .frz t xs) (hk : E.β p = some k) (hl : live (getB E.H b) = true) (hb : E.β b = some k) :
    ∃ xs' lo par, getB E.H b = .arr t xs' lo par ∧ p ∈ par ∧ xs.length ≤ lo := by
  have h := hE.blk p
  rw [hp] at h
  rcases h.2 with ⟨h1, _⟩ | ⟨k', c, e, fz, h1, h2, h3, h4⟩
  · rw [hk] at h1; cases h1
  · rw [hk] at h1; obtain rfl := Option.some.inj h1
    exact h4 b hl hb

theorem setB_out {H : Heap} {n : Nat} {k : Blk} (h : H.length ≤ n) : setB H n k = H := by
  induction H generalizing n with
  | nil => rfl
  | cons x H ih =>
    cases n with
    | zero => simp at h
    | succ n => simp only [setB]; rw [ih (by simpa using h)]

/-- a block of which nothing is to be known any more -/
theorem env_gone (hE : RepH G E) (p : Nat) : RepH G ⟨E.β, setB E.H p .gone, E.w, E.R⟩ ∧ Ext E ⟨E.β, setB E.H p .gone, E.w, E.R⟩ := by
  rcases Nat.lt_or_ge p E.H.length with hp | hp
  case inr => rw [setB_out hp]; exact ⟨hE, Ext.refl E⟩
  have hlive : ∀ b, live (getB (setB E.H p .gone) b) = true → live (getB E.H b) = true ∧ b ≠ p := fun b h => by
    by_cases hb : b = p
    · subst hb; rw [getB_setB_same hp] at h; cases h
    · rw [getB_setB_ne hb] at h; exact ⟨h, hb⟩
  have x : Ext E ⟨E.β, setB E.H p .gone, E.w, E.R⟩ := {
    os := rfl, tape := rfl, output := rfl, size := Nat.le_refl _, ro := fun _ h => h, rnew := fun _ h => .inl h, keep := fun _ _ _ => rfl
    cells := fun k c e fz h => ⟨c, fz, h, rfl⟩
    blk := fun b => by
      by_cases hb : b = p
      · subst hb; simp only [getB_setB_same hp]; cases getB E.H b <;> trivial
      · simp only [getB_setB_ne hb]; cases getB E.H b <;> simp [BExt]
    fresh := fun b k h1 h2 => .inl ⟨b, (hlive b h1).1, h2⟩ }
  refine ⟨⟨fun k hk => ⟨(hE.ro k hk).1, fun b hb => (hE.ro k hk).2 b (hlive b hb).1⟩, fun b b' k h1 h2 => hE.inj b b' k (hlive b h1).1 (hlive b' h2).1, fun b => ?_, hE.globExt x⟩, x⟩
  show RepB _ b (getB (setB E.H p .gone) b)
  by_cases hb : b = p
  · subst hb; rw [getB_setB_same hp]; trivial
  · rw [getB_setB_ne hb]
    refine (hE.blk b).ext hE x rfl (fun _ _ _ h => h) (fun t xs k hf hk b' hl hb' => ?_)
    obtain ⟨h1, h2⟩ := hlive b' hl
    simp only [getB_setB_ne h2]
    exact hE.shares hf hk h1 hb'

/-- a slice's block that will not be written any more; 'ro': its elements may be read as data from now on -/
theorem env_freeze (hE : RepH G E) {b : Nat} {t : DTy} {xs : List t.den} {lo : Nat} {par : List Nat} (hb : getB E.H b = .arr t xs lo par) (ro : Prop) :
    RepH G ⟨E.β, setB E.H b (.frz t xs), E.w, fun k => E.R k ∨ (ro ∧ E.β b = some k)⟩ ∧ Ext E ⟨E.β, setB E.H b (.frz t xs), E.w, fun k => E.R k ∨ (ro ∧ E.β b = some k)⟩ := by
  have hp : b < E.H.length := getB_len (by rw [hb]; intro h; cases h)
  have hlb : live (getB E.H b) = true := by rw [hb]; rfl
  have hlive : ∀ q, live (getB (setB E.H b (.frz t xs)) q) = true → live (getB E.H q) = true ∧ q ≠ b := fun q h => by
    by_cases hq : q = b
    · subst hq; rw [getB_setB_same hp] at h; cases h
    · rw [getB_setB_ne hq] at h; exact ⟨h, hq⟩
  have x : Ext E ⟨E.β, setB E.H b (.frz t xs), E.w, fun k => E.R k ∨ (ro ∧ E.β b = some k)⟩ := {
    os := rfl, tape := rfl, output := rfl, size := Nat.le_refl _, ro := fun _ h => .inl h
    rnew := fun k h => h.elim .inl (fun h => .inr (.inr ⟨b, hlb, h.2⟩))
    keep := fun _ _ _ => rfl
    cells := fun k c e fz h => ⟨c, fz, h, rfl⟩
    blk := fun q => by
      by_cases hq : q = b
      · subst hq; simp only [getB_setB_same hp, hb]; exact ⟨rfl, Nat.le_refl _, rfl⟩
      · simp only [getB_setB_ne hq]; cases getB E.H q <;> simp [BExt]
    fresh := fun q k h1 h2 => .inl ⟨q, (hlive q h1).1, h2⟩ }
  have hno : ∀ k, E.β b = some k → ∀ q, live (getB (setB E.H b (.frz t xs)) q) = true → E.β q = some k → False := fun k hk q hl hq =>
    (hlive q hl).2 (hE.inj q b k (hlive q hl).1 hlb hq hk)
  refine ⟨⟨fun k hk => ?_, fun q q' k h1 h2 => hE.inj q q' k (hlive q h1).1 (hlive q' h2).1, fun q => ?_, hE.globExt x⟩, x⟩
  · rcases hk with hk | ⟨_, hk⟩
    · exact ⟨(hE.ro k hk).1, fun q hq => (hE.ro k hk).2 q (hlive q hq).1⟩
    · exact ⟨hE.lt hlb hk, fun q hq hq' => hno k hk q hq hq'⟩
  · show RepB _ q (getB (setB E.H b (.frz t xs)) q)
    by_cases hq : q = b
    · subst hq
      rw [getB_setB_same hp]
      have h := hE.blk q
      rw [hb] at h
      refine ⟨h.2.1, ?_⟩
      rcases h.2.2 with h1 | ⟨k, c, e, fz, h1, h2, h3, h4⟩
      · exact .inl h1
      · exact .inr ⟨k, c, e, fz, h1, h2, h4.mono (fun a us => RoT.ext hE x t a us), fun b' hl hb' => (hno k h1 b' hl hb').elim⟩
    · rw [getB_setB_ne hq]
      refine (hE.blk q).ext hE x rfl (fun _ _ _ h => h) (fun t' xs' k hf hk b' hl hb' => ?_)
      obtain ⟨h1, h2⟩ := hlive b' hl
      simp only [getB_setB_ne h2]
      exact hE.shares hf hk h1 hb'

/-- a variable that is only looked at from now on -/
theorem env_goneV (hE : RepH G E) {b : Nat} {fs : List FCell} (hb : getB E.H b = .vals fs) (ro : Prop) :
    RepH G ⟨E.β, setB E.H b .gone, E.w, fun k => E.R k ∨ (ro ∧ E.β b = some k)⟩ ∧ Ext E ⟨E.β, setB E.H b .gone, E.w, fun k => E.R k ∨ (ro ∧ E.β b = some k)⟩ := by
  have hp : b < E.H.length := getB_len (by rw [hb]; intro h; cases h)
  have hlb : live (getB E.H b) = true := by rw [hb]; rfl
  have hlive : ∀ q, live (getB (setB E.H b .gone) q) = true → live (getB E.H q) = true ∧ q ≠ b := fun q h => by
    by_cases hq : q = b
    · subst hq; rw [getB_setB_same hp] at h; cases h
    · rw [getB_setB_ne hq] at h; exact ⟨h, hq⟩
  have x : Ext E ⟨E.β, setB E.H b .gone, E.w, fun k => E.R k ∨ (ro ∧ E.β b = some k)⟩ := {
    os := rfl, tape := rfl, output := rfl, size := Nat.le_refl _, ro := fun _ h => .inl h
    rnew := fun k h => h.elim .inl (fun h => .inr (.inr ⟨b, hlb, h.2⟩))
    keep := fun _ _ _ => rfl
    cells := fun k c e fz h => ⟨c, fz, h, rfl⟩
    blk := fun q => by
      by_cases hq : q = b
      · subst hq; simp only [getB_setB_same hp, hb]; trivial
      · simp only [getB_setB_ne hq]; cases getB E.H q <;> simp [BExt]
    fresh := fun q k h1 h2 => .inl ⟨q, (hlive q h1).1, h2⟩ }
  have hno : ∀ k, E.β b = some k → ∀ q, live (getB (setB E.H b .gone) q) = true → E.β q = some k → False := fun k hk q hl hq =>
    (hlive q hl).2 (hE.inj q b k (hlive q hl).1 hlb hq hk)
  refine ⟨⟨fun k hk => ?_, fun q q' k h1 h2 => hE.inj q q' k (hlive q h1).1 (hlive q' h2).1, fun q => ?_, hE.globExt x⟩, x⟩
  · rcases hk with hk | ⟨_, hk⟩
    · exact ⟨(hE.ro k hk).1, fun q hq => (hE.ro k hk).2 q (hlive q hq).1⟩
    · exact ⟨hE.lt hlb hk, fun q hq hq' => hno k hk q hq hq'⟩
  · show RepB _ q (getB (setB E.H b .gone) q)
    by_cases hq : q = b
    · subst hq
      rw [getB_setB_same hp]
      trivial
    · rw [getB_setB_ne hq]
      refine (hE.blk q).ext hE x rfl (fun _ _ _ h => h) (fun t' xs' k hf hk b' hl hb' => ?_)
      obtain ⟨h1, h2⟩ := hlive b' hl
      simp only [getB_setB_ne h2]
      exact hE.shares hf hk h1 hb'

/-- what a block that is written must bear behind it -/
def WrB (E : Env) (c' : Array Value) : Blk → Blk → Prop
  | .vals _, .vals fs => RelFs E fs c'.toList
  | .arr t xs _ _, .arr t' xs' lo _ => t' = t ∧ xs.length ≤ xs'.length ∧ lo ≤ xs'.length ∧ Rows t'.size (RoT E t') xs' 0 c'
  | _, _ => False

/-- a live block is written -/
theorem env_write (hE : RepH G E) {b k : Nat} (hl : live (getB E.H b) = true) (hb : E.β b = some k) {w' : World} {c c' : Array Value} {e : TypeId} {fz : Nat × Nat} (hs : Same E.w w')
    (hc : E.w.heap[k]? = some (.cells c e fz)) (hsz : w'.heap.size = E.w.heap.size) (hoth : ∀ k', k' ≠ k → w'.heap[k']? = E.w.heap[k']?) (hc' : w'.heap[k]? = some (.cells c' e fz)) (hcs : c'.size = c.size)
    {blk : Blk} (hw : WrB E c' (getB E.H b) blk)
    (hpar : ∀ p t xs, getB E.H p = .frz t xs → E.β p = some k → ∃ xs' lo par, blk = .arr t xs' lo par ∧ p ∈ par ∧ xs.length ≤ lo ∧ ∀ j, j < xs.length * t.size → c'[j]? = c[j]?) :
    RepH G ⟨E.β, setB E.H b blk, w', E.R⟩ ∧ Ext E ⟨E.β, setB E.H b blk, w', E.R⟩ := by
  have hp : b < E.H.length := getB_len (live_ne_dead hl)
  have hlk : live blk = true := by cases blk <;> first | rfl | (cases hg : getB E.H b <;> rw [hg] at hw <;> exact hw.elim)
  have hlive : ∀ q, live (getB (setB E.H b blk) q) = true → live (getB E.H q) = true := fun q h => by
    by_cases hq : q = b
    · subst hq; exact hl
    · rw [getB_setB_ne hq] at h; exact h
  have x : Ext E ⟨E.β, setB E.H b blk, w', E.R⟩ := {
    os := hs.os, tape := hs.tape, output := hs.output, size := by simp [hsz], ro := fun _ h => h, rnew := fun _ h => .inl h
    keep := fun k' hk' hno => hoth k' (fun e => hno b hl (e ▸ hb))
    cells := fun k' c1 e1 fz1 h => by
      by_cases hk : k' = k
      · subst hk; rw [hc] at h; cases h; exact ⟨c', fz, hc', hcs⟩
      · exact ⟨c1, fz1, (hoth k' hk).trans h, rfl⟩
    blk := fun q => by
      by_cases hq : q = b
      · subst hq; simp only [getB_setB_same hp]
        cases hg : getB E.H q <;> cases blk <;> rw [hg] at hw <;> first | exact hw.elim | rfl | exact ⟨hw.1.symm, by have := hw.2.1; omega, rfl⟩
      · simp only [getB_setB_ne hq]; cases getB E.H q <;> simp [BExt]
    fresh := fun q k h1 h2 => .inl ⟨q, hlive q h1, h2⟩ }
  refine ⟨⟨fun k' hk => ?_, fun q q' k h1 h2 => hE.inj q q' k (hlive q h1) (hlive q' h2), fun q => ?_, hE.globExt x⟩, x⟩
  · exact ⟨by simpa [hsz] using (hE.ro k' hk).1, fun q hq => (hE.ro k' hk).2 q (hlive q hq)⟩
  · show RepB _ q (getB (setB E.H b blk) q)
    by_cases hq : q = b
    · subst hq
      rw [getB_setB_same hp]
      have h := hE.blk q
      cases hg : getB E.H q <;> cases blk <;> rw [hg] at hw h <;> try exact hw.elim
      · obtain ⟨k', c1, e1, fz1, h1, h2, h3, h4⟩ := h
        rw [hb] at h1; obtain rfl := Option.some.inj h1
        rw [hc] at h2; cases h2
        exact ⟨k, c', e, fz, hb, hc', by rw [hcs]; exact h3, RelFs.ext hE x _ _ hw⟩
      · obtain ⟨rfl, hw2, hw3, hw4⟩ := hw
        refine ⟨hw3, h.2.1, ?_⟩
        rcases h.2.2 with ⟨h1, _⟩ | ⟨k', c1, e1, fz1, h1, h2, h3, h4⟩
        · rw [hb] at h1; cases h1
        · rw [hb] at h1; obtain rfl := Option.some.inj h1
          rw [hc] at h2; cases h2
          exact .inr ⟨k, c', e, fz, hb, hc', by rw [hcs]; exact h3, hw4.mono (fun a us => RoT.ext hE x _ a us)⟩
    · rw [getB_setB_ne hq]
      by_cases hk : E.β q = some k
      · have h := hE.blk q
        cases hg : getB E.H q with
        | vals fs => exact (hq (hE.inj q b k (by rw [hg]; rfl) hl hk hb)).elim
        | arr t xs lo par => exact (hq (hE.inj q b k (by rw [hg]; rfl) hl hk hb)).elim
        | gone => trivial
        | dead => trivial
        | frz t xs =>
          rw [hg] at h
          refine ⟨h.1, ?_⟩
          rcases h.2 with ⟨h1, _⟩ | ⟨k', c1, e1, fz1, h1, h2, h3, h4⟩
          · rw [hk] at h1; cases h1
          · rw [hk] at h1; obtain rfl := Option.some.inj h1
            rw [hc] at h2; cases h2
            obtain ⟨xs', lo, par, g1, g2, g3, g4⟩ := hpar q t xs hg hk
            refine .inr ⟨k, c', e, fz, hk, hc', fun i hi => ?_, fun b' hl' hb' => ?_⟩
            · obtain ⟨us, q1, q2, q3⟩ := h3 i hi
              refine ⟨us, RoT.ext hE x t _ us q1, q2, fun j hj => ?_⟩
              rw [← q3 j hj]
              refine g4 _ ?_
              have : (i + 1) * t.size ≤ xs.length * t.size := Nat.mul_le_mul_right _ hi
              rw [Nat.add_mul] at this
              omega
            · have hbb : b' = b := hE.inj b' b k (hlive b' hl') hl hb' hb
              subst hbb
              simp only [getB_setB_same hp]
              exact ⟨xs', lo, par, g1, g2, g3⟩
      · refine (hE.blk q).ext hE x rfl (fun k' o h1 h2 => (hoth k' (fun e => hk (e ▸ h1))).trans h2) (fun t' xs' k' hf hk' b' hl' hb' => ?_)
        have hbb : b' ≠ b := fun e => by
          rw [e, hb] at hb'; obtain rfl := Option.some.inj hb'; exact hk hk'
        simp only [getB_setB_ne hbb] at hl' ⊢
        exact hE.shares hf hk' hl' hb'

/-- nothing frozen shares the cells of a variable, or of a slice without parents -/
theorem RepH.noPar (hE : RepH G E) {b k : Nat} (hl : live (getB E.H b) = true) (hb : E.β b = some k) (h0 : ∀ t xs lo par, getB E.H b = .arr t xs lo par → par = []) {p : Nat} {t : DTy} {xs : List t.den}
    (hp : getB E.H p = .frz t xs) (hk : E.β p = some k) : False := by
  obtain ⟨xs', lo, par, h1, h2, _⟩ := hE.shares hp hk hl hb
  rw [h0 _ _ _ _ h1] at h2
  cases h2

/-- append, where there is room: the elements are written behind those that are there; the slice that was there is frozen -/
theorem env_append (hE : RepH G E) {b nid : Nat} {t : DTy} {xs new : List t.den} {lo : Nat} {par : List Nat} (hb : getB E.H b = .arr t xs lo par) (hn : nid < E.H.length) (hd : getB E.H nid = .dead)
    {k : Nat} (hk : E.β b = some k) {w' : World} {c c' : Array Value} {e : TypeId} {fz : Nat × Nat} (hs : Same E.w w')
    (hc : E.w.heap[k]? = some (.cells c e fz)) (hsz : w'.heap.size = E.w.heap.size) (hoth : ∀ k', k' ≠ k → w'.heap[k']? = E.w.heap[k']?) (hc' : w'.heap[k]? = some (.cells c' e fz)) (hcs : c'.size = c.size)
    (hkeep : ∀ j, j < xs.length * t.size → c'[j]? = c[j]?) (hrows : Rows t.size (RoT E t) (xs ++ new) 0 c') :
    RepH G ⟨fun q => if q = nid then some k else E.β q, setB (setB E.H b (.frz t xs)) nid (.arr t (xs ++ new) xs.length (b :: par)), w', E.R⟩ ∧
    Ext E ⟨fun q => if q = nid then some k else E.β q, setB (setB E.H b (.frz t xs)) nid (.arr t (xs ++ new) xs.length (b :: par)), w', E.R⟩ := by
  have hlb : live (getB E.H b) = true := by rw [hb]; rfl
  have hp : b < E.H.length := getB_len (live_ne_dead hlb)
  have hne : b ≠ nid := fun e => by rw [e, hd] at hb; cases hb
  have hn' : nid < (setB E.H b (.frz t xs)).length := by rw [length_setB]; exact hn
  have hrep := hE.blk b
  rw [hb] at hrep
  have hget : ∀ q, getB (setB (setB E.H b (.frz t xs)) nid (.arr t (xs ++ new) xs.length (b :: par))) q = if q = nid then .arr t (xs ++ new) xs.length (b :: par) else if q = b then .frz t xs else getB E.H q := fun q => by
    by_cases h1 : q = nid
    · subst h1; rw [getB_setB_same hn', if_pos rfl]
    · rw [getB_setB_ne h1, if_neg h1]
      by_cases h2 : q = b
      · subst h2; rw [getB_setB_same hp, if_pos rfl]
      · rw [getB_setB_ne h2, if_neg h2]
  have hx : Ext E ⟨fun q => if q = nid then some k else E.β q, setB (setB E.H b (.frz t xs)) nid (.arr t (xs ++ new) xs.length (b :: par)), w', E.R⟩ := {
    os := hs.os, tape := hs.tape, output := hs.output, size := by simp [hsz], ro := fun _ h => h, rnew := fun _ h => .inl h
    keep := fun k' _ hno => hoth k' (fun e => hno b hlb (e ▸ hk))
    cells := fun k' c1 e1 fz1 h => by
      by_cases hkk : k' = k
      · subst hkk; rw [hc] at h; cases h; exact ⟨c', fz, hc', hcs⟩
      · exact ⟨c1, fz1, (hoth k' hkk).trans h, rfl⟩
    blk := fun q => by
      simp only [hget]
      by_cases h1 : q = nid
      · subst h1; rw [hd]; trivial
      · rw [if_neg h1]
        by_cases h2 : q = b
        · subst h2; rw [if_pos rfl, hb]; exact ⟨rfl, Nat.le_refl _, by simp [h1]⟩
        · rw [if_neg h2]; cases getB E.H q <;> simp [BExt, h1]
    fresh := fun q k' h1 h2 => by
      simp only [hget] at h1
      by_cases h3 : q = nid
      · simp only [h3, if_true, Option.some.injEq] at h2
        subst h2
        exact .inl ⟨b, hlb, hk⟩
      · simp only [h3, if_false] at h1 h2
        by_cases h4 : q = b
        · simp [h4, live] at h1
        · rw [if_neg h4] at h1; exact .inl ⟨q, h1, h2⟩ }
  have hlive : ∀ q, live (getB (setB (setB E.H b (.frz t xs)) nid (.arr t (xs ++ new) xs.length (b :: par))) q) = true → q = nid ∨ (q ≠ nid ∧ q ≠ b ∧ live (getB E.H q) = true) := fun q h => by
    rw [hget] at h
    by_cases h3 : q = nid
    · exact .inl h3
    · rw [if_neg h3] at h
      by_cases h4 : q = b
      · rw [if_pos h4] at h; cases h
      · rw [if_neg h4] at h; exact .inr ⟨h3, h4, h⟩
  have hnk : ∀ q, q ≠ b → live (getB E.H q) = true → E.β q ≠ some k := fun q h1 h2 h3 => h1 (hE.inj q b k h2 hlb h3 hk)
  refine ⟨⟨fun k' hk' => ⟨by simpa [hsz] using (hE.ro k' hk').1, fun q hq hq' => ?_⟩, fun q q' k' h1 h2 h3 h4 => ?_, fun q => ?_, hE.globExt hx⟩, hx⟩
  · rcases hlive q hq with rfl | ⟨h1, h2, h3⟩
    · simp only [if_true, Option.some.injEq] at hq'
      subst hq'
      exact (hE.ro _ hk').2 b hlb hk
    · simp only [h1, if_false] at hq'
      exact (hE.ro _ hk').2 q h3 hq'
  · rcases hlive q h1 with rfl | ⟨g1, g2, g3⟩ <;> rcases hlive q' h2 with rfl | ⟨g4, g5, g6⟩
    · rfl
    · simp only [g4, if_true, if_false, Option.some.injEq] at h3 h4
      exact (hnk q' g5 g6 (h3 ▸ h4)).elim
    · simp only [g1, if_true, if_false, Option.some.injEq] at h3 h4
      exact (hnk q g2 g3 (h4 ▸ h3)).elim
    · simp only [g1, g4, if_false] at h3 h4
      exact hE.inj q q' k' g3 g6 h3 h4
  · show RepB _ q (getB (setB (setB E.H b (.frz t xs)) nid (.arr t (xs ++ new) xs.length (b :: par))) q)
    rw [hget]
    by_cases h3 : q = nid
    · subst h3
      rw [if_pos rfl]
      refine ⟨by simp, hrep.2.1, .inr ⟨k, c', e, fz, by simp, hc', ?_, hrows.mono (fun a us => RoT.ext hE hx t a us)⟩⟩
      rcases hrep.2.2 with ⟨h1, _⟩ | ⟨k', c1, e1, fz1, h1, h2, h4, h5⟩
      · rw [hk] at h1; cases h1
      · rw [hk] at h1; obtain rfl := Option.some.inj h1
        rw [hc] at h2; cases h2
        rw [hcs]; exact h4
    · rw [if_neg h3]
      by_cases h4 : q = b
      · subst h4
        rw [if_pos rfl]
        refine ⟨hrep.2.1, .inr ⟨k, c', e, fz, by simp [h3, hk], hc', ?_, fun b' hl' hb' => ?_⟩⟩
        · rcases hrep.2.2 with ⟨h1, _⟩ | ⟨k', c1, e1, fz1, h1, h2, h4, h5⟩
          · rw [hk] at h1; cases h1
          · rw [hk] at h1; obtain rfl := Option.some.inj h1
            rw [hc] at h2; cases h2
            intro i hi
            obtain ⟨us, q1, q2, q3⟩ := h5 i hi
            refine ⟨us, RoT.ext hE hx t _ us q1, q2, fun j hj => ?_⟩
            rw [← q3 j hj]
            refine hkeep _ ?_
            have : (i + 1) * t.size ≤ xs.length * t.size := Nat.mul_le_mul_right _ hi
            rw [Nat.add_mul] at this
            omega
        · rcases hlive b' hl' with rfl | ⟨g1, g2, g3⟩
          · exact ⟨xs ++ new, xs.length, q :: par, by simp only [hget]; simp, by simp, Nat.le_refl _⟩
          · simp only [g1, if_false] at hb'
            exact (hnk b' g2 g3 hb').elim
      · rw [if_neg h4]
        by_cases hkq : E.β q = some k
        · have h := hE.blk q
          cases hg : getB E.H q with
          | vals fs => exact (hnk q h4 (by rw [hg]; rfl) hkq).elim
          | arr t xs lo par => exact (hnk q h4 (by rw [hg]; rfl) hkq).elim
          | gone => trivial
          | dead => trivial
          | frz t' xs' =>
            rw [hg] at h
            obtain ⟨ys, lo', par', g1, g2, g3⟩ := hE.shares hg hkq hlb hk
            rw [hb] at g1
            cases g1
            refine ⟨h.1, ?_⟩
            rcases h.2 with ⟨h1, _⟩ | ⟨k', c1, e1, fz1, h1, h2, h5, h6⟩
            · rw [hkq] at h1; cases h1
            · rw [hkq] at h1; obtain rfl := Option.some.inj h1
              rw [hc] at h2; cases h2
              have hle : xs'.length ≤ xs.length := Nat.le_trans g3 hrep.1
              refine .inr ⟨k, c', e, fz, by simp [h3, hkq], hc', fun i hi => ?_, fun b' hl' hb' => ?_⟩
              · obtain ⟨us, q1, q2, q3⟩ := h5 i hi
                refine ⟨us, RoT.ext hE hx _ _ us q1, q2, fun j hj => ?_⟩
                rw [← q3 j hj]
                refine hkeep _ ?_
                have : (i + 1) * t.size ≤ xs.length * t.size := Nat.mul_le_mul_right _ (by omega)
                rw [Nat.add_mul] at this
                omega
              · rcases hlive b' hl' with rfl | ⟨g1, g2', g3'⟩
                · exact ⟨xs ++ new, xs.length, b :: par, by simp only [hget]; simp, List.mem_cons_of_mem _ g2, hle⟩
                · simp only [g1, if_false] at hb'
                  exact (hnk b' g2' g3' hb').elim
        · refine (hE.blk q).ext hE hx (by simp [h3]) (fun k' o h1 h2 => (hoth k' (fun e => hkq (e ▸ h1))).trans h2) (fun t' xs' k' hf hk' b' hl' hb' => ?_)
          rcases hlive b' hl' with rfl | ⟨g1, g2, g3⟩
          · simp only [if_true, Option.some.injEq] at hb'
            exact (hkq (hb' ▸ hk')).elim
          · simp only [g1, if_false] at hb'
            simp only [hget, if_neg g1, if_neg g2]
            exact hE.shares hf hk' g3 hb'
end Go.SX
