/- SX, part 6: what one change of memory does to what an abstract state says. -/
import Derived.Test.YtdblbibjggeikaaGreatDoorA2
import Derived.Deep.AppendSrc
import Derived.Deep.Upon
import Derived.Laws.Append
import Derived.Laws.StructEq
set_option linter.unusedSectionVars false
set_option linter.unusedVariables false
set_option linter.unusedSimpArgs false
namespace Go.SX
open Go
variable {G : GlobT} {E E' : Env}
theorem getB_len {H : Heap} {b : Nat} (h : getB H b ≠ .dead) : b < H.length := by
 induction H generalizing b with
 | nil => simp [getB] at h
 | cons x H ih =>
  cases b with
  | zero => simp
  | succ b => simp only [getB] at h; simp; exact ih h
theorem getB_setB (H : Heap) (n : Nat) (k : Blk) (b : Nat) : getB (setB H n k) b = if b = n /\ n < H.length then k else getB H b := by
 induction H generalizing n b with
 | nil => simp [setB, getB]
 | cons x H ih =>
  cases n with
  | zero => cases b <;> simp [setB, getB]
  | succ n =>
   cases b with
   | zero => simp [setB, getB]
   | succ b => simp only [setB, getB, ih]; simp
theorem getB_setB_same {H : Heap} {n : Nat} {k : Blk} (h : n < H.length) : getB (setB H n k) n = k := by rw [getB_setB, if_pos ⟨rfl, h⟩]
theorem getB_setB_ne {H : Heap} {n b : Nat} {k : Blk} (h : b ≠ n) : getB (setB H n k) b = getB H b := by rw [getB_setB, if_neg (fun h' => h h'.1)]
theorem length_setB (H : Heap) (n : Nat) (k : Blk) : (setB H n k).length = H.length := by
 induction H generalizing n with
 | nil => rfl
 | cons x H ih => cases n <;> simp [setB, ih]
theorem setBs_append (H : Heap) : ∀ (ws vs : List (Nat × Blk)), setBs H (ws ++ vs) = setBs (setBs H ws) vs
 | ws, vs => by
  induction ws generalizing H with
  | nil => rfl
  | cons p ws ih => obtain ⟨b, k⟩ := p; exact ih _
theorem length_setBs : ∀ (ws : List (Nat × Blk)) (H : Heap), (setBs H ws).length = H.length
 | [], _ => rfl
 | (b, k) :: ws, H => by rw [setBs, length_setBs ws, length_setB]
theorem getB_setBs_not : ∀ (ws : List (Nat × Blk)) (H : Heap) (b : Nat), (∀ p ∈ ws, p.1 ≠ b) -> getB (setBs H ws) b = getB H b
 | [], _, _, _ => rfl
 | (b', k) :: ws, H, b, h => by
  rw [setBs, getB_setBs_not ws _ b (fun p hp => h p (List.mem_cons_of_mem _ hp)), getB_setB_ne (fun e => h (b', k) List.mem_cons_self e.symm)]
theorem live_ne_dead {k : Blk} (h : live k = true) : k ≠ .dead := by intro e; rw [e] at h; cases h
theorem refSingle {d : RefD} {v : Value} (h : RelRef E d v) : single v := by
 cases d with
 | nil => rw [show v = _ from h]; trivial
 | own b off len => exact h.1
 | raw a len cap => rw [show v = _ from h]; trivial
theorem single_of {x : Cell} {v : Value} (h : RelC E x v) : single v := by
 cases x with
 | any => exact h
 | int l k n => rw [h.1]; trivial
 | bool l b => rw [show v = _ from h]; trivial
 | str s => rw [show v = _ from h]; trivial
 | nilp => rw [show v = _ from h]; trivial
 | nils => rw [show v = _ from h]; trivial
 | nilif => rw [show v = _ from h]; trivial
 | nilfn => rw [show v = _ from h]; trivial
 | ptr b i es o k n => exact h.1
 | rptr t d o k => obtain ⟨_, _, _, _, _, _, rfl, _⟩ := h; trivial
 | sl b off len => exact h.1
 | sla b o n off len => exact h.1
 | ro t xs len => obtain ⟨_, _, rfl, _⟩ := h; trivial
 | ifc t x => obtain ⟨_, rfl, _⟩ := h; trivial
 | ifd T t d => obtain ⟨_, rfl, _⟩ := h; trivial
 | fn f cs => obtain ⟨_, rfl, _⟩ := h; trivial
 | vptr a => rw [show v = _ from h]; trivial
 | ref d => exact refSingle h
theorem single_oneCell {v : Value} (h : single v) : v.oneCell' = true := by cases v <;> first | rfl | exact h.elim
theorem RoT.single : ∀ {t : DTy} {d : t.den} {vs : List Value}, RoT E t d vs -> ∀ v ∈ vs, single v
 | .unit, _, _, h, v, hv => by have h : _ = _ := h; rw [h] at hv; cases hv
 | .int k, _, _, h, v, hv => by rw [h.1] at hv; simp at hv; rw [hv]; trivial
 | .bool, _, _, h, v, hv => by have h : _ = _ := h; rw [h] at hv; simp at hv; rw [hv]; trivial
 | .str, _, _, h, v, hv => by have h : _ = _ := h; rw [h] at hv; simp at hv; rw [hv]; trivial
 | .ws k n, _, _, h, v, hv => by rw [h.2.2] at hv; obtain ⟨_, _, rfl⟩ := List.mem_map.1 hv; trivial
 | .pair a b, d, vs, h, v, hv => by
  obtain ⟨v1, v2, rfl, h2, h3⟩ := h;rcases List.mem_append.1 hv with h | h
  ·exact RoT.single h2 v h
  ·exact RoT.single h3 v h
 | .sl t, d, vs, h, v, hv => by obtain ⟨u, rfl, _, _, rfl, _⟩ := h; simp at hv; rw [hv]; trivial
 | .ref, d, vs, h, v, hv => by obtain ⟨u, h1, h2⟩ := h; rw [h1] at hv; simp at hv; rw [hv]; exact refSingle h2
 | .vp, _, _, h, v, hv => by have h : _ = _ := h; rw [h] at hv; simp at hv; rw [hv]; trivial
theorem RelFs.single : ∀ {fs : List FCell} {vs : List Value}, RelFs E fs vs -> ∀ v ∈ vs, single v
 | [], vs, h, v, hv => by have h : _ = _ := h; rw [h] at hv; cases hv
 | f :: fs, vs, h, v, hv => by
  obtain ⟨v1, v2, rfl, h2, h3⟩ := h;rcases List.mem_append.1 hv with h | h
  ·cases f with
   | c x => obtain ⟨u, rfl, h4⟩ := h2; simp at h; rw [h]; exact single_of h4
   | ws k n xs => obtain ⟨_, _, rfl⟩ := h2; obtain ⟨_, _, rfl⟩ := List.mem_map.1 h; trivial
  ·exact RelFs.single h3 v h
structure Same (w w' : World) : Prop where
 os : w'.os = w.os
 tape : w'.tape = w.tape
 output : w'.output = w.output
theorem Rows.mono {sz : Nat} {α : Type} {Q Q' : α -> List Value -> Prop} {xs : List α} {at_ : Nat} {c : Array Value} (h : Rows sz Q xs at_ c) (hq : ∀ a us, Q a us -> Q' a us) : Rows sz Q' xs at_ c :=
 fun i hi => let ⟨us, h1, h2, h3⟩ := h i hi; ⟨us, hq _ _ h1, h2, h3⟩
theorem RepB.ext (hE : RepH G E) (x : Ext E E') {b : Nat} {blk : Blk} (h : RepB E b blk) (hβ : E'.β b = E.β b) (hk : ∀ k o, E.β b = some k -> E.w.heap[k]? = some o -> E'.w.heap[k]? = some o)
  (hfr : ∀ t xs k, blk = .frz t xs -> E.β b = some k -> ∀ b', live (getB E'.H b') = true -> E'.β b' = some k -> ∃ xs' lo par, getB E'.H b' = .arr t xs' lo par /\ b ∈ par /\ xs.length <= lo) : RepB E' b blk := by
 cases blk with
 | vals fs =>
  obtain ⟨k, c, e, fz, h1, h2, h3, h4⟩ := h;exact ⟨k, c, e, fz, hβ.trans h1, hk k _ h1 h2, h3, RelFs.ext hE x fs _ h4⟩
 | arr t xs lo par =>
  obtain ⟨h0, h0', h1⟩ := h;refine ⟨h0, h0', ?_⟩
  rcases h1 with ⟨h1, h2⟩ | ⟨k, c, e, fz, h1, h2, h3, h4⟩
  ·exact .inl ⟨hβ.trans h1, h2⟩
  ·exact .inr ⟨k, c, e, fz, hβ.trans h1, hk k _ h1 h2, h3, h4.mono (fun a us => RoT.ext hE x t a us)⟩
 | frz t xs =>
  obtain ⟨h0', h1⟩ := h;refine ⟨h0', ?_⟩
  rcases h1 with ⟨h1, h2⟩ | ⟨k, c, e, fz, h1, h2, h3, _⟩
  ·exact .inl ⟨hβ.trans h1, h2⟩
  ·exact .inr ⟨k, c, e, fz, hβ.trans h1, hk k _ h1 h2, h3.mono (fun a us => RoT.ext hE x t a us), hfr t xs k rfl h1⟩
 | gone => trivial
 | dead => trivial
theorem RepH.lt (hE : RepH G E) {b k : Nat} (hl : live (getB E.H b) = true) (hb : E.β b = some k) : k < E.w.heap.size := by
 have h := hE.blk b
 cases hg : getB E.H b <;> rw [hg] at h hl <;> try (cases hl; done)
 ·obtain ⟨k', c, e, fz, h1, h2, _⟩ := h;rw [hb] at h1;obtain rfl := smI h1;exact (Array.getElem?_eq_some_iff.1 h2).1
 ·obtain ⟨_, _, ⟨h1, _⟩ | ⟨k', c, e, fz, h1, h2, _⟩⟩ := h
  ·rw [hb] at h1; cases h1
  ·rw [hb] at h1;obtain rfl := smI h1;exact (Array.getElem?_eq_some_iff.1 h2).1
theorem RepH.globExt (hE : RepH G E) (x : Ext E E') : ∀ g t d, G g = some ⟨t, d⟩ -> RelRp E' t d 0 0 (.pointer (some ⟨g, 0, none⟩)) /\ t.rf = false :=
 fun g t d h => ⟨RelRp.ext hE x (hE.glob g t d h).1, (hE.glob g t d h).2⟩
def NewB (E : Env) (c : Array Value) : Blk -> Prop
 | .vals fs => RelFs E fs c.toList
 | .arr t xs lo _ => lo <= xs.length /\ 0 < t.size /\ Rows t.size (RoT E t) xs 0 c
 | _ => False
def NewZ (fz : Nat × Nat) (n : Nat) : Blk -> Prop
 | .vals _ => NoFzV fz n
 | .arr t .. => NoFzT t fz n
 | _ => False
theorem env_alloc (hE : RepH G E) {nid : Nat} (hn : nid < E.H.length) (hd : getB E.H nid = .dead) {w' : World} {c : Array Value} {e : TypeId} {fz : Nat × Nat} (hs : Same E.w w')
  (hh : w'.heap = E.w.heap.push (.cells c e fz)) {blk : Blk} (hz : NewZ fz c.size blk) (hb : NewB E c blk) :
  RepH G ⟨fun b => if b = nid then some E.w.heap.size else E.β b, setB E.H nid blk, w', E.R⟩ /\ Ext E ⟨fun b => if b = nid then some E.w.heap.size else E.β b, setB E.H nid blk, w', E.R⟩ := by
 have hl : live blk = true := by cases blk <;> first | rfl | exact hb.elim
 have hold : ∀ k, k < E.w.heap.size -> w'.heap[k]? = E.w.heap[k]? := fun k hk => by rw [hh, Array.getElem?_push, if_neg (by omega)]
 have hnew : w'.heap[E.w.heap.size]? = some (.cells c e fz) := by rw [hh]; simp
 have x : Ext E ⟨fun b => if b = nid then some E.w.heap.size else E.β b, setB E.H nid blk, w', E.R⟩ := {
  os := hs.os, tape := hs.tape, output := hs.output, size := by simp [hh], ro := fun _ h => h, rnew := fun _ h => .inl h
  keep := fun k hk _ => hold k hk
  cells := fun k c' e' fz' h => ⟨c', fz', (hold k (Array.getElem?_eq_some_iff.1 h).1).trans h, rfl⟩
  blk := fun b => by
   by_cases hbn : b = nid
   ·subst hbn; rw [hd]; cases getB (setB E.H b blk) b <;> trivial
   ·simp only [getB_setB_ne hbn]; cases getB E.H b <;> simp [BExt, hbn]
  fresh := fun b k h1 h2 => by
   by_cases hbn : b = nid
   ·right; simp only [hbn, if_true, Option.some.injEq] at h2; omega
   ·left; simp only [hbn, if_false] at h2; rw [getB_setB_ne hbn] at h1; exact ⟨b, h1, h2⟩ }
 refine ⟨⟨fun k hk => ?_, fun b b' k h1 h2 h3 h4 => ?_, fun b => ?_, hE.globExt x⟩, x⟩
 ·obtain ⟨g1, g2⟩ := hE.ro k hk;refine ⟨by simp [hh]; omega, fun b h1 h2 => ?_⟩
  by_cases hbn : b = nid
  ·simp only [hbn, if_true, Option.some.injEq] at h2; omega
  ·simp only [hbn, if_false] at h2; rw [getB_setB_ne hbn] at h1; exact g2 b h1 h2
 ·by_cases hbn : b = nid <;> by_cases hbn' : b' = nid
  ·exact hbn.trans hbn'.symm
  ·simp only [hbn, hbn', if_true, if_false, Option.some.injEq] at h3 h4;rw [getB_setB_ne hbn'] at h2;have := hE.lt h2 h4
   omega
  ·simp only [hbn, hbn', if_true, if_false, Option.some.injEq] at h3 h4;rw [getB_setB_ne hbn] at h1;have := hE.lt h1 h3
   omega
  ·simp only [hbn, hbn', if_false] at h3 h4;rw [getB_setB_ne hbn] at h1;rw [getB_setB_ne hbn'] at h2;exact hE.inj b b' k h1 h2 h3 h4
 ·by_cases hbn : b = nid
  ·subst hbn
   show RepB _ b (getB (setB E.H b blk) b)
   rw [getB_setB_same hn];cases blk with
   | vals fs => exact ⟨_, c, e, fz, by simp, hnew, hz, RelFs.ext hE x fs _ hb⟩
   | arr t xs lo par => exact ⟨hb.1, hb.2.1, .inr ⟨_, c, e, fz, by simp, hnew, hz, hb.2.2.mono (fun a us => RoT.ext hE x t a us)⟩⟩
   | frz t xs => exact hb.elim
   | gone => exact hb.elim
   | dead => exact hb.elim
  ·show RepB _ b (getB (setB E.H nid blk) b)
   rw [getB_setB_ne hbn];refine (hE.blk b).ext hE x (by simp [hbn]) (fun k o hk ho => (hold k (Array.getElem?_eq_some_iff.1 ho).1).trans ho) (fun t xs k hf hk b' hl' hb' => ?_)
   ·have h := hE.blk b
    rw [hf] at h;rcases h.2 with ⟨h1, _⟩ | ⟨k', c', e', fz', h1, h2, h3, h4⟩
    ·rw [hk] at h1; cases h1
    ·rw [hk] at h1;obtain rfl := smI h1;by_cases hbn' : b' = nid
     ·simp only [hbn', if_true, Option.some.injEq] at hb';have := (Array.getElem?_eq_some_iff.1 h2).1
      omega
     ·simp only [hbn', if_false] at hb';simp only [getB_setB_ne hbn'] at hl' ⊢;exact h4 b' hl' hb'
theorem RepH.shares (hE : RepH G E) {p b k : Nat} {t : DTy} {xs : List t.den} (hp : getB E.H p = .frz t xs) (hk : E.β p = some k) (hl : live (getB E.H b) = true) (hb : E.β b = some k) :
  ∃ xs' lo par, getB E.H b = .arr t xs' lo par /\ p ∈ par /\ xs.length <= lo := by
 have h := hE.blk p
 rw [hp] at h;rcases h.2 with ⟨h1, _⟩ | ⟨k', c, e, fz, h1, h2, h3, h4⟩
 ·rw [hk] at h1; cases h1
 ·rw [hk] at h1; obtain rfl := smI h1;exact h4 b hl hb
theorem setB_out {H : Heap} {n : Nat} {k : Blk} (h : H.length <= n) : setB H n k = H := by
 induction H generalizing n with
 | nil => rfl
 | cons x H ih =>
  cases n with
  | zero => simp at h
  | succ n => simp only [setB]; rw [ih (by simpa using h)]
theorem env_gone (hE : RepH G E) (p : Nat) : RepH G ⟨E.β, setB E.H p .gone, E.w, E.R⟩ /\ Ext E ⟨E.β, setB E.H p .gone, E.w, E.R⟩ := by
 rcases Nat.lt_or_ge p E.H.length with hp | hp
 case inr => rw [setB_out hp]; exact ⟨hE, Ext.refl E⟩
 have hlive : ∀ b, live (getB (setB E.H p .gone) b) = true -> live (getB E.H b) = true /\ b ≠ p := fun b h => by
  by_cases hb : b = p
  ·subst hb; rw [getB_setB_same hp] at h; cases h
  ·rw [getB_setB_ne hb] at h; exact ⟨h, hb⟩
 have x : Ext E ⟨E.β, setB E.H p .gone, E.w, E.R⟩ := {
  os := rfl, tape := rfl, output := rfl, size := Nat.le_refl _, ro := fun _ h => h, rnew := fun _ h => .inl h, keep := fun _ _ _ => rfl
  cells := fun k c e fz h => ⟨c, fz, h, rfl⟩
  blk := fun b => by
   by_cases hb : b = p
   ·subst hb; simp only [getB_setB_same hp]; cases getB E.H b <;> trivial
   ·simp only [getB_setB_ne hb]; cases getB E.H b <;> simp [BExt]
  fresh := fun b k h1 h2 => .inl ⟨b, (hlive b h1).1, h2⟩ }
 refine ⟨⟨fun k hk => ⟨(hE.ro k hk).1, fun b hb => (hE.ro k hk).2 b (hlive b hb).1⟩, fun b b' k h1 h2 => hE.inj b b' k (hlive b h1).1 (hlive b' h2).1, fun b => ?_, hE.globExt x⟩, x⟩
 show RepB _ b (getB (setB E.H p .gone) b)
 by_cases hb : b = p
 ·subst hb; rw [getB_setB_same hp]; trivial
 ·rw [getB_setB_ne hb];refine (hE.blk b).ext hE x rfl (fun _ _ _ h => h) (fun t xs k hf hk b' hl hb' => ?_)
  obtain ⟨h1, h2⟩ := hlive b' hl;simp only [getB_setB_ne h2];exact hE.shares hf hk h1 hb'
theorem env_freeze (hE : RepH G E) {b : Nat} {t : DTy} {xs : List t.den} {lo : Nat} {par : List Nat} (hb : getB E.H b = .arr t xs lo par) (ro : Prop) :
  RepH G ⟨E.β, setB E.H b (.frz t xs), E.w, fun k => E.R k \/ (ro /\ E.β b = some k)⟩ /\ Ext E ⟨E.β, setB E.H b (.frz t xs), E.w, fun k => E.R k \/ (ro /\ E.β b = some k)⟩ := by
 have hp : b < E.H.length := getB_len (by rw [hb]; intro h; cases h)
 have hlb : live (getB E.H b) = true := by rw [hb]; rfl
 have hlive : ∀ q, live (getB (setB E.H b (.frz t xs)) q) = true -> live (getB E.H q) = true /\ q ≠ b := fun q h => by
  by_cases hq : q = b
  ·subst hq; rw [getB_setB_same hp] at h; cases h
  ·rw [getB_setB_ne hq] at h; exact ⟨h, hq⟩
 have x : Ext E ⟨E.β, setB E.H b (.frz t xs), E.w, fun k => E.R k \/ (ro /\ E.β b = some k)⟩ := {
  os := rfl, tape := rfl, output := rfl, size := Nat.le_refl _, ro := fun _ h => .inl h
  rnew := fun k h => h.elim .inl (fun h => .inr (.inr ⟨b, hlb, h.2⟩))
  keep := fun _ _ _ => rfl
  cells := fun k c e fz h => ⟨c, fz, h, rfl⟩
  blk := fun q => by
   by_cases hq : q = b
   ·subst hq; simp only [getB_setB_same hp, hb]; exact ⟨rfl, Nat.le_refl _, rfl⟩
   ·simp only [getB_setB_ne hq]; cases getB E.H q <;> simp [BExt]
  fresh := fun q k h1 h2 => .inl ⟨q, (hlive q h1).1, h2⟩ }
 have hno : ∀ k, E.β b = some k -> ∀ q, live (getB (setB E.H b (.frz t xs)) q) = true -> E.β q = some k -> False := fun k hk q hl hq =>
  (hlive q hl).2 (hE.inj q b k (hlive q hl).1 hlb hq hk)
 refine ⟨⟨fun k hk => ?_, fun q q' k h1 h2 => hE.inj q q' k (hlive q h1).1 (hlive q' h2).1, fun q => ?_, hE.globExt x⟩, x⟩
 ·rcases hk with hk | ⟨_, hk⟩
  ·exact ⟨(hE.ro k hk).1, fun q hq => (hE.ro k hk).2 q (hlive q hq).1⟩
  ·exact ⟨hE.lt hlb hk, fun q hq hq' => hno k hk q hq hq'⟩
 ·show RepB _ q (getB (setB E.H b (.frz t xs)) q)
  by_cases hq : q = b
  ·subst hq;rw [getB_setB_same hp];have h := hE.blk q
   rw [hb] at h;refine ⟨h.2.1, ?_⟩
   rcases h.2.2 with h1 | ⟨k, c, e, fz, h1, h2, h3, h4⟩
   ·exact .inl h1
   ·exact .inr ⟨k, c, e, fz, h1, h2, h4.mono (fun a us => RoT.ext hE x t a us), fun b' hl hb' => (hno k h1 b' hl hb').elim⟩
  ·rw [getB_setB_ne hq];refine (hE.blk q).ext hE x rfl (fun _ _ _ h => h) (fun t' xs' k hf hk b' hl hb' => ?_)
   obtain ⟨h1, h2⟩ := hlive b' hl;simp only [getB_setB_ne h2];exact hE.shares hf hk h1 hb'
theorem env_goneV (hE : RepH G E) {b : Nat} {fs : List FCell} (hb : getB E.H b = .vals fs) (ro : Prop) :
  RepH G ⟨E.β, setB E.H b .gone, E.w, fun k => E.R k \/ (ro /\ E.β b = some k)⟩ /\ Ext E ⟨E.β, setB E.H b .gone, E.w, fun k => E.R k \/ (ro /\ E.β b = some k)⟩ := by
 have hp : b < E.H.length := getB_len (by rw [hb]; intro h; cases h)
 have hlb : live (getB E.H b) = true := by rw [hb]; rfl
 have hlive : ∀ q, live (getB (setB E.H b .gone) q) = true -> live (getB E.H q) = true /\ q ≠ b := fun q h => by
  by_cases hq : q = b
  ·subst hq; rw [getB_setB_same hp] at h; cases h
  ·rw [getB_setB_ne hq] at h; exact ⟨h, hq⟩
 have x : Ext E ⟨E.β, setB E.H b .gone, E.w, fun k => E.R k \/ (ro /\ E.β b = some k)⟩ := {
  os := rfl, tape := rfl, output := rfl, size := Nat.le_refl _, ro := fun _ h => .inl h
  rnew := fun k h => h.elim .inl (fun h => .inr (.inr ⟨b, hlb, h.2⟩))
  keep := fun _ _ _ => rfl
  cells := fun k c e fz h => ⟨c, fz, h, rfl⟩
  blk := fun q => by
   by_cases hq : q = b
   ·subst hq; simp only [getB_setB_same hp, hb]; trivial
   ·simp only [getB_setB_ne hq]; cases getB E.H q <;> simp [BExt]
  fresh := fun q k h1 h2 => .inl ⟨q, (hlive q h1).1, h2⟩ }
 have hno : ∀ k, E.β b = some k -> ∀ q, live (getB (setB E.H b .gone) q) = true -> E.β q = some k -> False := fun k hk q hl hq =>
  (hlive q hl).2 (hE.inj q b k (hlive q hl).1 hlb hq hk)
 refine ⟨⟨fun k hk => ?_, fun q q' k h1 h2 => hE.inj q q' k (hlive q h1).1 (hlive q' h2).1, fun q => ?_, hE.globExt x⟩, x⟩
 ·rcases hk with hk | ⟨_, hk⟩
  ·exact ⟨(hE.ro k hk).1, fun q hq => (hE.ro k hk).2 q (hlive q hq).1⟩
  ·exact ⟨hE.lt hlb hk, fun q hq hq' => hno k hk q hq hq'⟩
 ·show RepB _ q (getB (setB E.H b .gone) q)
  by_cases hq : q = b
  ·subst hq;rw [getB_setB_same hp];trivial
  ·rw [getB_setB_ne hq];refine (hE.blk q).ext hE x rfl (fun _ _ _ h => h) (fun t' xs' k hf hk b' hl hb' => ?_)
   obtain ⟨h1, h2⟩ := hlive b' hl;simp only [getB_setB_ne h2];exact hE.shares hf hk h1 hb'
def WrB (E : Env) (c' : Array Value) : Blk -> Blk -> Prop
 | .vals _, .vals fs => RelFs E fs c'.toList
 | .arr t xs _ _, .arr t' xs' lo _ => t' = t /\ xs.length <= xs'.length /\ lo <= xs'.length /\ Rows t'.size (RoT E t') xs' 0 c'
 | _, _ => False
theorem env_write (hE : RepH G E) {b k : Nat} (hl : live (getB E.H b) = true) (hb : E.β b = some k) {w' : World} {c c' : Array Value} {e : TypeId} {fz : Nat × Nat} (hs : Same E.w w')
  (hc : E.w.heap[k]? = some (.cells c e fz)) (hsz : w'.heap.size = E.w.heap.size) (hoth : ∀ k', k' ≠ k -> w'.heap[k']? = E.w.heap[k']?) (hc' : w'.heap[k]? = some (.cells c' e fz)) (hcs : c'.size = c.size)
  {blk : Blk} (hw : WrB E c' (getB E.H b) blk)
  (hpar : ∀ p t xs, getB E.H p = .frz t xs -> E.β p = some k -> ∃ xs' lo par, blk = .arr t xs' lo par /\ p ∈ par /\ xs.length <= lo /\ ∀ j, j < xs.length * t.size -> c'[j]? = c[j]?) :
  RepH G ⟨E.β, setB E.H b blk, w', E.R⟩ /\ Ext E ⟨E.β, setB E.H b blk, w', E.R⟩ := by
 have hp : b < E.H.length := getB_len (live_ne_dead hl)
 have hlk : live blk = true := by cases blk <;> first | rfl | (cases hg : getB E.H b <;> rw [hg] at hw <;> exact hw.elim)
 have hlive : ∀ q, live (getB (setB E.H b blk) q) = true -> live (getB E.H q) = true := fun q h => by
  by_cases hq : q = b
  ·subst hq; exact hl
  ·rw [getB_setB_ne hq] at h; exact h
 have x : Ext E ⟨E.β, setB E.H b blk, w', E.R⟩ := {
  os := hs.os, tape := hs.tape, output := hs.output, size := by simp [hsz], ro := fun _ h => h, rnew := fun _ h => .inl h
  keep := fun k' hk' hno => hoth k' (fun e => hno b hl (e ▸ hb))
  cells := fun k' c1 e1 fz1 h => by
   by_cases hk : k' = k
   ·subst hk; rw [hc] at h; cases h; exact ⟨c', fz, hc', hcs⟩
   ·exact ⟨c1, fz1, (hoth k' hk).trans h, rfl⟩
  blk := fun q => by
   by_cases hq : q = b
   ·subst hq; simp only [getB_setB_same hp];cases hg : getB E.H q <;> cases blk <;> rw [hg] at hw <;> first | exact hw.elim | rfl | exact ⟨hw.1.symm, by have := hw.2.1; omega, rfl⟩
   ·simp only [getB_setB_ne hq]; cases getB E.H q <;> simp [BExt]
  fresh := fun q k h1 h2 => .inl ⟨q, hlive q h1, h2⟩ }
 refine ⟨⟨fun k' hk => ?_, fun q q' k h1 h2 => hE.inj q q' k (hlive q h1) (hlive q' h2), fun q => ?_, hE.globExt x⟩, x⟩
 ·exact ⟨by simpa [hsz] using (hE.ro k' hk).1, fun q hq => (hE.ro k' hk).2 q (hlive q hq)⟩
 ·show RepB _ q (getB (setB E.H b blk) q)
  by_cases hq : q = b
  ·subst hq;rw [getB_setB_same hp];have h := hE.blk q
   cases hg : getB E.H q <;> cases blk <;> rw [hg] at hw h <;> try exact hw.elim
   ·obtain ⟨k', c1, e1, fz1, h1, h2, h3, h4⟩ := h;rw [hb] at h1; obtain rfl := smI h1;rw [hc] at h2; cases h2;exact ⟨k, c', e, fz, hb, hc', by rw [hcs]; exact h3, RelFs.ext hE x _ _ hw⟩
   ·obtain ⟨rfl, hw2, hw3, hw4⟩ := hw;refine ⟨hw3, h.2.1, ?_⟩
    rcases h.2.2 with ⟨h1, _⟩ | ⟨k', c1, e1, fz1, h1, h2, h3, h4⟩
    ·rw [hb] at h1; cases h1
    ·rw [hb] at h1; obtain rfl := smI h1;rw [hc] at h2; cases h2;exact .inr ⟨k, c', e, fz, hb, hc', by rw [hcs]; exact h3, hw4.mono (fun a us => RoT.ext hE x _ a us)⟩
  ·rw [getB_setB_ne hq];by_cases hk : E.β q = some k
   ·have h := hE.blk q
    cases hg : getB E.H q with
    | vals fs => exact (hq (hE.inj q b k (by rw [hg]; rfl) hl hk hb)).elim
    | arr t xs lo par => exact (hq (hE.inj q b k (by rw [hg]; rfl) hl hk hb)).elim
    | gone => trivial
    | dead => trivial
    | frz t xs =>
     rw [hg] at h;refine ⟨h.1, ?_⟩
     rcases h.2 with ⟨h1, _⟩ | ⟨k', c1, e1, fz1, h1, h2, h3, h4⟩
     ·rw [hk] at h1; cases h1
     ·rw [hk] at h1; obtain rfl := smI h1;rw [hc] at h2; cases h2;obtain ⟨xs', lo, par, g1, g2, g3, g4⟩ := hpar q t xs hg hk;refine .inr ⟨k, c', e, fz, hk, hc', fun i hi => ?_, fun b' hl' hb' => ?_⟩
      ·obtain ⟨us, q1, q2, q3⟩ := h3 i hi;refine ⟨us, RoT.ext hE x t _ us q1, q2, fun j hj => ?_⟩
       rw [<- q3 j hj];refine g4 _ ?_
       have : (i + 1) * t.size <= xs.length * t.size := Nat.mul_le_mul_right _ hi
       rw [Nat.add_mul] at this;omega
      ·have hbb : b' = b := hE.inj b' b k (hlive b' hl') hl hb' hb
       subst hbb;simp only [getB_setB_same hp];exact ⟨xs', lo, par, g1, g2, g3⟩
   ·refine (hE.blk q).ext hE x rfl (fun k' o h1 h2 => (hoth k' (fun e => hk (e ▸ h1))).trans h2) (fun t' xs' k' hf hk' b' hl' hb' => ?_)
    have hbb : b' ≠ b := fun e => by
     rw [e, hb] at hb'; obtain rfl := smI hb'; exact hk hk'
    simp only [getB_setB_ne hbb] at hl' ⊢;exact hE.shares hf hk' hl' hb'
theorem RepH.noPar (hE : RepH G E) {b k : Nat} (hl : live (getB E.H b) = true) (hb : E.β b = some k) (h0 : ∀ t xs lo par, getB E.H b = .arr t xs lo par -> par = []) {p : Nat} {t : DTy} {xs : List t.den}
  (hp : getB E.H p = .frz t xs) (hk : E.β p = some k) : False := by
 obtain ⟨xs', lo, par, h1, h2, _⟩ := hE.shares hp hk hl hb;rw [h0 _ _ _ _ h1] at h2;cases h2
theorem env_append (hE : RepH G E) {b nid : Nat} {t : DTy} {xs new : List t.den} {lo : Nat} {par : List Nat} (hb : getB E.H b = .arr t xs lo par) (hn : nid < E.H.length) (hd : getB E.H nid = .dead)
  {k : Nat} (hk : E.β b = some k) {w' : World} {c c' : Array Value} {e : TypeId} {fz : Nat × Nat} (hs : Same E.w w')
  (hc : E.w.heap[k]? = some (.cells c e fz)) (hsz : w'.heap.size = E.w.heap.size) (hoth : ∀ k', k' ≠ k -> w'.heap[k']? = E.w.heap[k']?) (hc' : w'.heap[k]? = some (.cells c' e fz)) (hcs : c'.size = c.size)
  (hkeep : ∀ j, j < xs.length * t.size -> c'[j]? = c[j]?) (hrows : Rows t.size (RoT E t) (xs ++ new) 0 c') :
  RepH G ⟨fun q => if q = nid then some k else E.β q, setB (setB E.H b (.frz t xs)) nid (.arr t (xs ++ new) xs.length (b :: par)), w', E.R⟩ /\
  Ext E ⟨fun q => if q = nid then some k else E.β q, setB (setB E.H b (.frz t xs)) nid (.arr t (xs ++ new) xs.length (b :: par)), w', E.R⟩ := by
 have hlb : live (getB E.H b) = true := by rw [hb]; rfl
 have hp : b < E.H.length := getB_len (live_ne_dead hlb)
 have hne : b ≠ nid := fun e => by rw [e, hd] at hb; cases hb
 have hn' : nid < (setB E.H b (.frz t xs)).length := by rw [length_setB]; exact hn
 have hrep := hE.blk b
 rw [hb] at hrep;have hget : ∀ q, getB (setB (setB E.H b (.frz t xs)) nid (.arr t (xs ++ new) xs.length (b :: par))) q = if q = nid then .arr t (xs ++ new) xs.length (b :: par) else if q = b then .frz t xs else getB E.H q := fun q => by
  by_cases h1 : q = nid
  ·subst h1; rw [getB_setB_same hn', if_pos rfl]
  ·rw [getB_setB_ne h1, if_neg h1];by_cases h2 : q = b
   ·subst h2; rw [getB_setB_same hp, if_pos rfl]
   ·rw [getB_setB_ne h2, if_neg h2]
 have hx : Ext E ⟨fun q => if q = nid then some k else E.β q, setB (setB E.H b (.frz t xs)) nid (.arr t (xs ++ new) xs.length (b :: par)), w', E.R⟩ := {
  os := hs.os, tape := hs.tape, output := hs.output, size := by simp [hsz], ro := fun _ h => h, rnew := fun _ h => .inl h
  keep := fun k' _ hno => hoth k' (fun e => hno b hlb (e ▸ hk))
  cells := fun k' c1 e1 fz1 h => by
   by_cases hkk : k' = k
   ·subst hkk; rw [hc] at h; cases h; exact ⟨c', fz, hc', hcs⟩
   ·exact ⟨c1, fz1, (hoth k' hkk).trans h, rfl⟩
  blk := fun q => by
   simp only [hget];by_cases h1 : q = nid
   ·subst h1; rw [hd]; trivial
   ·rw [if_neg h1];by_cases h2 : q = b
    ·subst h2; rw [if_pos rfl, hb]; exact ⟨rfl, Nat.le_refl _, by simp [h1]⟩
    ·rw [if_neg h2]; cases getB E.H q <;> simp [BExt, h1]
  fresh := fun q k' h1 h2 => by
   simp only [hget] at h1;by_cases h3 : q = nid
   ·simp only [h3, if_true, Option.some.injEq] at h2;subst h2;exact .inl ⟨b, hlb, hk⟩
   ·simp only [h3, if_false] at h1 h2;by_cases h4 : q = b
    ·simp [h4, live] at h1
    ·rw [if_neg h4] at h1; exact .inl ⟨q, h1, h2⟩ }
 have hlive : ∀ q, live (getB (setB (setB E.H b (.frz t xs)) nid (.arr t (xs ++ new) xs.length (b :: par))) q) = true -> q = nid \/ (q ≠ nid /\ q ≠ b /\ live (getB E.H q) = true) := fun q h => by
  rw [hget] at h;by_cases h3 : q = nid
  ·exact .inl h3
  ·rw [if_neg h3] at h;by_cases h4 : q = b
   ·rw [if_pos h4] at h; cases h
   ·rw [if_neg h4] at h; exact .inr ⟨h3, h4, h⟩
 have hnk : ∀ q, q ≠ b -> live (getB E.H q) = true -> E.β q ≠ some k := fun q h1 h2 h3 => h1 (hE.inj q b k h2 hlb h3 hk)
 refine ⟨⟨fun k' hk' => ⟨by simpa [hsz] using (hE.ro k' hk').1, fun q hq hq' => ?_⟩, fun q q' k' h1 h2 h3 h4 => ?_, fun q => ?_, hE.globExt hx⟩, hx⟩
 ·rcases hlive q hq with rfl | ⟨h1, h2, h3⟩
  ·simp only [if_true, Option.some.injEq] at hq';subst hq';exact (hE.ro _ hk').2 b hlb hk
  ·simp only [h1, if_false] at hq';exact (hE.ro _ hk').2 q h3 hq'
 ·rcases hlive q h1 with rfl | ⟨g1, g2, g3⟩ <;> rcases hlive q' h2 with rfl | ⟨g4, g5, g6⟩
  ·rfl
  ·simp only [g4, if_true, if_false, Option.some.injEq] at h3 h4;exact (hnk q' g5 g6 (h3 ▸ h4)).elim
  ·simp only [g1, if_true, if_false, Option.some.injEq] at h3 h4;exact (hnk q g2 g3 (h4 ▸ h3)).elim
  ·simp only [g1, g4, if_false] at h3 h4;exact hE.inj q q' k' g3 g6 h3 h4
 ·show RepB _ q (getB (setB (setB E.H b (.frz t xs)) nid (.arr t (xs ++ new) xs.length (b :: par))) q)
  rw [hget];by_cases h3 : q = nid
  ·subst h3;rw [if_pos rfl];refine ⟨by simp, hrep.2.1, .inr ⟨k, c', e, fz, by simp, hc', ?_, hrows.mono (fun a us => RoT.ext hE hx t a us)⟩⟩
   rcases hrep.2.2 with ⟨h1, _⟩ | ⟨k', c1, e1, fz1, h1, h2, h4, h5⟩
   ·rw [hk] at h1; cases h1
   ·rw [hk] at h1; obtain rfl := smI h1;rw [hc] at h2; cases h2;rw [hcs]; exact h4
  ·rw [if_neg h3];by_cases h4 : q = b
   ·subst h4;rw [if_pos rfl];refine ⟨hrep.2.1, .inr ⟨k, c', e, fz, by simp [h3, hk], hc', ?_, fun b' hl' hb' => ?_⟩⟩
    ·rcases hrep.2.2 with ⟨h1, _⟩ | ⟨k', c1, e1, fz1, h1, h2, h4, h5⟩
     ·rw [hk] at h1; cases h1
     ·rw [hk] at h1; obtain rfl := smI h1;rw [hc] at h2; cases h2;intro i hi;obtain ⟨us, q1, q2, q3⟩ := h5 i hi;refine ⟨us, RoT.ext hE hx t _ us q1, q2, fun j hj => ?_⟩
      rw [<- q3 j hj];refine hkeep _ ?_
      have : (i + 1) * t.size <= xs.length * t.size := Nat.mul_le_mul_right _ hi
      rw [Nat.add_mul] at this;omega
    ·rcases hlive b' hl' with rfl | ⟨g1, g2, g3⟩
     ·exact ⟨xs ++ new, xs.length, q :: par, by simp only [hget]; simp, by simp, Nat.le_refl _⟩
     ·simp only [g1, if_false] at hb';exact (hnk b' g2 g3 hb').elim
   ·rw [if_neg h4];by_cases hkq : E.β q = some k
    ·have h := hE.blk q
     cases hg : getB E.H q with
     | vals fs => exact (hnk q h4 (by rw [hg]; rfl) hkq).elim
     | arr t xs lo par => exact (hnk q h4 (by rw [hg]; rfl) hkq).elim
     | gone => trivial
     | dead => trivial
     | frz t' xs' =>
      rw [hg] at h;obtain ⟨ys, lo', par', g1, g2, g3⟩ := hE.shares hg hkq hlb hk;rw [hb] at g1;cases g1
      refine ⟨h.1, ?_⟩
      rcases h.2 with ⟨h1, _⟩ | ⟨k', c1, e1, fz1, h1, h2, h5, h6⟩
      ·rw [hkq] at h1; cases h1
      ·rw [hkq] at h1; obtain rfl := smI h1;rw [hc] at h2; cases h2;have hle : xs'.length <= xs.length := Nat.le_trans g3 hrep.1
       refine .inr ⟨k, c', e, fz, by simp [h3, hkq], hc', fun i hi => ?_, fun b' hl' hb' => ?_⟩
       ·obtain ⟨us, q1, q2, q3⟩ := h5 i hi;refine ⟨us, RoT.ext hE hx _ _ us q1, q2, fun j hj => ?_⟩
        rw [<- q3 j hj];refine hkeep _ ?_
        have : (i + 1) * t.size <= xs.length * t.size := Nat.mul_le_mul_right _ (by omega)
        rw [Nat.add_mul] at this;omega
       ·rcases hlive b' hl' with rfl | ⟨g1, g2', g3'⟩
        ·exact ⟨xs ++ new, xs.length, b :: par, by simp only [hget]; simp, List.mem_cons_of_mem _ g2, hle⟩
        ·simp only [g1, if_false] at hb';exact (hnk b' g2' g3' hb').elim
    ·refine (hE.blk q).ext hE hx (by simp [h3]) (fun k' o h1 h2 => (hoth k' (fun e => hkq (e ▸ h1))).trans h2) (fun t' xs' k' hf hk' b' hl' hb' => ?_)
     rcases hlive b' hl' with rfl | ⟨g1, g2, g3⟩
     ·simp only [if_true, Option.some.injEq] at hb';exact (hkq (hb' ▸ hk')).elim
     ·simp only [g1, if_false] at hb';simp only [hget, if_neg g1, if_neg g2];exact hE.shares hf hk' g3 hb'
end Go.SX
namespace Go.SX
open Go
variable {G : GlobT} {E : Env} {P : Program}
theorem val_opt {α β : Type} {o : Option α} {f : α -> Tree β} {r : β} (h : (Tree.opt o f).val = some r) : ∃ a, o = some a /\ (f a).val = some r := by
 cases o with
 | none => cases h
 | some a => exact ⟨a, rfl, h⟩
theorem val_chk {α : Type} {b : Bool} {t : Tree α} {r : α} (h : (Tree.chk b t).val = some r) : b = true /\ t.val = some r := by
 cases b with
 | false => cases h
 | true => exact ⟨rfl, h⟩
theorem val_stat {α : Type} {b : Bool} {t : Tree α} {r : α} (h : (Tree.stat b t).val = some r) : b = true /\ t.val = some r := by
 cases b with
 | false => cases h
 | true => exact ⟨rfl, h⟩
theorem val_chkl {α : Type} {l b : Bool} {t : Tree α} {r : α} (h : (Tree.chkl l b t).val = some r) : b = true /\ t.val = some r := by
 cases l with
 | false => exact val_chk h
 | true => exact val_stat h
theorem val_brl {α : Type} {l b : Bool} {t e : Tree α} : (Tree.brl l b t e).val = (if b then t else e).val := by
 cases l <;> cases b <;> rfl
theorem val_ret {α : Type} {a r : α} (h : (Tree.ret a).val = some r) : a = r := smI h
theorem inK_wrap (k : IntKind) (n : Int) : InK k (k.wrap n) := by
 cases k <;> simp [InK, IntKind.wrap, IntKind.min, IntKind.max, IntKind.signed, IntKind.bits] <;> (try split) <;> omega
theorem inK_fdiv {k : IntKind} {x : Int} (h : InK k x) (n : Nat) : InK k (x.fdiv (2 ^ n)) := by
 have hp : (0 : Int) < 2 ^ n := Int.pow_pos (by omega)
 have h0 : k.min <= 0 /\ 0 <= k.max := by cases k <;> simp [IntKind.min, IntKind.max, IntKind.signed, IntKind.bits]
 obtain ⟨h1, h2⟩ := h;rw [Int.fdiv_eq_ediv_of_nonneg _ (by omega)]
 constructor
 ·by_cases hx : 0 <= x
  ·exact Int.le_trans h0.1 (Int.ediv_nonneg hx (by omega))
  ·refine Int.le_trans h1 ?_
   rw [Int.le_ediv_iff_mul_le hp];have : x * 2 ^ n <= x * 1 := Int.mul_le_mul_of_nonpos_left (by omega) (by omega)
   omega
 ·by_cases hx : 0 <= x
  ·exact Int.le_trans (Int.ediv_le_self _ hx) h2
  ·have : x / 2 ^ n < 0 := Int.ediv_neg_of_neg_of_pos (by omega) hp
   omega
theorem inK_tmod {k : IntKind} {x : Int} (h : InK k x) (y : Int) : InK k (x.tmod y) := by
 have h0 : k.min <= 0 /\ 0 <= k.max := by cases k <;> simp [IntKind.min, IntKind.max, IntKind.signed, IntKind.bits]
 obtain ⟨h1, h2⟩ := h;have hn : (x.tmod y).natAbs <= x.natAbs := by rw [Int.natAbs_tmod]; exact Nat.mod_le _ _
 by_cases hx : 0 <= x
 ·have g1 : 0 <= x.tmod y := Int.tmod_nonneg _ hx
  exact ⟨by omega, by omega⟩
 ·have e : x.tmod y = -((-x).tmod y) := by rw [Int.neg_tmod, Int.neg_neg]
  have g1 : 0 <= (-x).tmod y := Int.tmod_nonneg _ (by omega)
  exact ⟨by omega, by omega⟩
theorem shI_inK {op : BinOp} {k : IntKind} {x y v : Int} (h : shI op k x y = some v) (hx : InK k x) : InK k v := by
 unfold shI at h;split at h <;> first | (obtain rfl := smI h; first | exact inK_wrap _ _ | exact inK_fdiv hx _) | cases h
theorem divI_inK {op : BinOp} {k : IntKind} {x y v : Int} (h : divI op k x y = some v) (hx : InK k x) : InK k v := by
 unfold divI at h;split at h <;> first | (obtain rfl := smI h; first | exact inK_wrap _ _ | exact inK_tmod hx _) | cases h
theorem binI_inK {op : BinOp} {k : IntKind} {x y v : Int} (h : binI op k x y = some (.n v)) : InK k v := by
 unfold binI at h;split at h <;> first | (cases h; exact inK_wrap _ _) | cases h
def ResR (G : GlobT) (E : Env) (r : Res) (u : Value) (w' : World) : Prop :=
 ∃ β' R', RepH G ⟨β', setBs E.H r.2, w', R'⟩ /\ Ext E ⟨β', setBs E.H r.2, w', R'⟩ /\ RelS ⟨β', setBs E.H r.2, w', R'⟩ r.1 u
def SemOk (P : Program) (G : GlobT) (E : Env) (s : Sem Value) (r : Res) : Prop := ∃ v w', s.run P E.w = .ok v w' /\ ResR G E r v w'
theorem ResR.pure (hE : RepH G E) {v : SV} {u : Value} (h : RelS E v u) : ResR G E (v, []) u E.w := ⟨E.β, E.R, hE, Ext.refl E, h⟩
theorem SemOk.pure (hE : RepH G E) {s : Sem Value} {v : SV} {u : Value} (hs : s.run P E.w = .ok u E.w) (h : RelS E v u) : SemOk P G E s (v, []) := ⟨u, E.w, hs, ResR.pure hE h⟩
theorem run_isAgg {t : TypeId} {b : Bool} (h : isAggT P t = some b) (w : World) : (isAgg t).run P w = .ok b w := by
 unfold isAggT at h;split at h <;> first
  | (rename_i hu; obtain rfl := smI h; simp [isAgg, run_underlying hu])
  | cases h
  | (rename_i d hns hna hu; obtain rfl := smI h; simp only [isAgg, Sem.run_bind, run_underlying hu, Result.andThen_ok]; cases d <;> first | rfl | (exfalso; simp_all; done))
theorem info_of_underlying {t : TypeId} {d : TypeDesc} (h : P.underlying t = some d) : ∃ i, P.info? t = some i := by
 unfold Program.underlying at h;cases hi : P.info? t with
 | none => rw [hi] at h; cases h
 | some i => exact ⟨i, rfl⟩
theorem run_typeInfo {t : TypeId} {i : TypeInfo} (h : P.info? t = some i) (w : World) : (typeInfo t).run P w = .ok i w := by
 simp [typeInfo, h]
theorem run_sizeOf {t : TypeId} {d : TypeDesc} (h : P.underlying t = some d) (w : World) : (sizeOf t).run P w = .ok (P.cellsOf t) w := by
 obtain ⟨i, hi⟩ := info_of_underlying h;simp [sizeOf, run_typeInfo hi, Program.cellsOf, hi]
theorem underlying_of_isAgg {t : TypeId} {b : Bool} (h : isAggT P t = some b) : ∃ d, P.underlying t = some d := by
 unfold isAggT at h;cases hu : P.underlying t with
 | none => rw [hu] at h; cases h
 | some d => exact ⟨d, rfl⟩
theorem unT_sound (hE : RepH G E) {op : UnOp} {a : SV} {x : Value} {r : Res} (ha : RelS E a x) (h : (unT op a).val = some r) : SemOk P G E (Op.unary op x) r := by
 unfold unT at h;split at h
 ·obtain rfl := val_ret h;obtain ⟨rfl, hk⟩ := ha;exact SemOk.pure hE (u := .int _ _) (by simp [Op.unary, Op.intArith]) ⟨rfl, inK_wrap _ _⟩
 ·obtain rfl := val_ret h;obtain ⟨rfl, hk⟩ := ha;exact SemOk.pure hE (u := .int _ _) (by simp [Op.unary, Op.intBits]) ⟨rfl, inK_wrap _ _⟩
 ·obtain rfl := val_ret h;obtain rfl : x = .bool _ := ha;exact SemOk.pure hE (u := .bool _) (by simp [Op.unary]) rfl
 ·cases h
theorem run_eqGuard_int (op : BinOp) (T : TypeId) (x y : Operand) (k k' : IntKind) (a b : Int) (w : World) : (eqGuard op T x y (.int k a) (.int k' b)).run P w = .ok () w := by
 unfold eqGuard; cases op <;> rfl
theorem run_eqGuard_bool (op : BinOp) (T : TypeId) (x y : Operand) (a b : Bool) (w : World) : (eqGuard op T x y (.bool a) (.bool b)).run P w = .ok () w := by
 unfold eqGuard; cases op <;> rfl
theorem run_eqGuard_str (op : BinOp) (T : TypeId) (x y : Operand) (a b : ByteArray) (w : World) : (eqGuard op T x y (.string a) (.string b)).run P w = .ok () w := by
 unfold eqGuard; cases op <;> rfl
theorem run_eqGuard_ptr (op : BinOp) (T : TypeId) (x y : Operand) (a b : Option Addr) (w : World) : (eqGuard op T x y (.pointer a) (.pointer b)).run P w = .ok () w := by
 unfold eqGuard; cases op <;> rfl
theorem binI_run {op : BinOp} {k : IntKind} {x y : Int} {nr : NR} {T : TypeId} (h : binI op k x y = some nr) (w : World) :
  (binOp op T (.int k x) (.int k y)).run P w = .ok (match nr with | .n v => .int k v | .b v => .bool v) w := by
 cases op <;> simp only [binI] at h <;> first | (cases h; done) | (obtain rfl := smI h; simp [binOp, Op.intArith, Op.intBits, Op.intCmp])
theorem oneFit_c {T : TypeId} {x y : Cell} {l b : Bool} (hf : oneFit P T (.c x) = true) (h : eqF [.c x] [.c y] = some (l, b)) {u v : Value} (hu : RelC E x u) (hv : RelC E y v) (d : Nat) (w : World) :
  (Op.equalIn (d + 1) T u v).run P w = .ok b w := by
 cases x with
 | int lx k n =>
  cases y with
  | int ly k' n' =>
   simp only [eqF] at h;split at h
   ·rename_i hk;simp only [Option.some.injEq, Prod.mk.injEq, Bool.and_true] at h;obtain ⟨_, rfl⟩ := h;subst hk;rw [hu.1, hv.1];simp only [oneFit] at hf;split at hf
    ·rename_i hT; exact run_equalIn_int w d T _ _ _ _ hT
    ·cases hf
   ·cases h
  | _ => simp [eqF] at h
 | bool lx n =>
  cases y with
  | bool ly n' =>
   simp only [eqF, Option.some.injEq, Prod.mk.injEq, Bool.and_true] at h;obtain ⟨_, rfl⟩ := h;rw [show u = _ from hu, show v = _ from hv]
   simp only [oneFit] at hf;split at hf
   ·rename_i hT; exact run_equalIn_bool' w d T _ _ hT
   ·cases hf
  | _ => simp [eqF] at h
 | str n =>
  cases y with
  | str n' =>
   simp only [eqF, Option.some.injEq, Prod.mk.injEq, Bool.and_true] at h;obtain ⟨_, rfl⟩ := h;rw [show u = _ from hu, show v = _ from hv]
   simp only [oneFit] at hf;split at hf
   ·rename_i hT; rw [run_equalIn_string w d T _ _ hT, beq_toListBytes]
   ·cases hf
  | _ => simp [eqF] at h
 | _ => simp [eqF] at h
theorem part_ints {e : TypeId} {k : IntKind} {k' : IntKind} (he : P.underlying e = some (.int k')) (xs : List Int) (i : Nat) (hi : i < xs.length) (w : World) :
  (part e (xs.map (Value.int k)).toArray i).run P w = .ok (.int k xs[i]) w := by
 have ha : (isAgg e).run P w = .ok false w := by simp [isAgg, run_underlying he]
 simp [part, ha, hi]
theorem forIn_range_eq {e : TypeId} {k k' : IntKind} (he : P.underlying e = some (.int k')) (hs : P.cellsOf e = 1) (d : Nat) (xs ys : List Int) (hl : ys.length = xs.length) (w : World) :
  ∀ (n s : Nat), n + s = xs.length ->
  (forIn (m := Sem) (List.range' s n) ((none, ()) : Option Bool × Unit) fun i r => do
    let a <- part e (xs.map (Value.int k)).toArray (i * 1)
    let b <- part e (ys.map (Value.int k)).toArray (i * 1)
    let c <- Op.equalIn (d + 1) e a b
    if (!c) = true then pure (ForInStep.done (some false, ())) else pure (ForInStep.yield (none, ()))).run P w =
   .ok (if xs.drop s == ys.drop s then (none, ()) else (some false, ())) w
 | 0, s, hns => by
  have h1 : xs.drop s = [] := List.drop_eq_nil_of_le (by omega)
  have h2 : ys.drop s = [] := List.drop_eq_nil_of_le (by omega)
  simp [h1, h2]
 | n + 1, s, hns => by
  have hs1 : s < xs.length := by omega
  have hs2 : s < ys.length := by omega
  have ih := forIn_range_eq (k := k) he hs d xs ys hl w n (s + 1) (by omega)
  rw [List.range'_succ, List.forIn_cons];simp only [Sem.run_bind, Nat.mul_one, part_ints he xs s hs1, part_ints he ys s hs2, Result.andThen_ok, run_equalIn_int w d e k k' _ _ he];have e1 : (xs.drop s == ys.drop s) = ((xs[s] == ys[s]) && (xs.drop (s + 1) == ys.drop (s + 1))) := by
   rw [List.drop_eq_getElem_cons hs1, List.drop_eq_getElem_cons hs2]; rfl
  rw [e1];cases hb : xs[s] == ys[s]
  ·simp only [Bool.not_false, if_true, Sem.run_pure, Result.andThen_ok, Bool.false_and, Bool.false_eq_true, if_false]
  ·simp only [Bool.not_true, Bool.false_eq_true, if_false, Sem.run_pure, Result.andThen_ok, Bool.true_and];simp only [Nat.mul_one] at ih;exact ih
theorem run_equalIn_array {T e : TypeId} {n : Nat} {k k' : IntKind} (hT : P.underlying T = some (.array n e)) (he : P.underlying e = some (.int k')) (hs : P.cellsOf e = 1) (d : Nat) (xs ys : List Int) (hx : xs.length = n) (hy : ys.length = n) (w : World) :
  (Op.equalIn (d + 2) T (.agg (xs.map (Value.int k)).toArray) (.agg (ys.map (Value.int k)).toArray)).run P w = .ok (xs == ys) w := by
 have h := forIn_range_eq (k := k) he hs d xs ys (hy.trans hx.symm) w n 0 (by omega)
 rw [Op.equalIn];simp only [Sem.run_bind, run_underlying hT, run_sizeOf he, hs, Result.andThen_ok, Std.Legacy.Range.forIn_eq_forIn_range'];rw [show [:n].size = n from by simp [Std.Legacy.Range.size]]
 simp only [List.drop_zero] at h;rw [h];cases xs == ys <;> rfl
theorem eqF_cons {f g : FCell} {fs gs : List FCell} {l b : Bool} (h : eqF (f :: fs) (g :: gs) = some (l, b)) :
  ∃ l1 b1 l2 b2, eqF [f] [g] = some (l1, b1) /\ eqF fs gs = some (l2, b2) /\ b = (b1 && b2) /\ f.size = g.size := by
 cases f with
 | c x =>
  cases g with
  | ws k n xs => cases x <;> simp [eqF] at h
  | c y =>
   cases x <;> cases y <;> simp only [eqF] at h <;> try (cases h; done)
   ·split at h
    ·rename_i hk;split at h
     ·rename_i m b' h';simp only [Option.some.injEq, Prod.mk.injEq] at h;exact ⟨_, _, m, b', by simp only [eqF, if_pos hk]; rfl, h', by rw [<- h.2, Bool.and_true], rfl⟩
     ·cases h
    ·cases h
   ·split at h
    ·rename_i m b' h';simp only [Option.some.injEq, Prod.mk.injEq] at h;exact ⟨_, _, m, b', by simp only [eqF]; rfl, h', by rw [<- h.2, Bool.and_true], rfl⟩
    ·cases h
   ·split at h
    ·rename_i m b' h';simp only [Option.some.injEq, Prod.mk.injEq] at h;exact ⟨_, _, m, b', by simp only [eqF]; rfl, h', by rw [<- h.2, Bool.and_true], rfl⟩
    ·cases h
 | ws k n xs =>
  cases g with
  | c y => simp [eqF] at h
  | ws k' n' ys =>
   simp only [eqF] at h;split at h
   ·rename_i hk;split at h
    ·rename_i m b' h';simp only [Option.some.injEq, Prod.mk.injEq] at h;exact ⟨_, _, m, b', by simp only [eqF, if_pos hk]; rfl, h', by rw [<- h.2, Bool.and_true], hk.2⟩
    ·cases h
   ·cases h
theorem oneFit_part {T : TypeId} {f g : FCell} {l b : Bool} (hf : oneFit P T f = true) (h : eqF [f] [g] = some (l, b)) {us vs : List Value} (hu : RelF E f us) (hv : RelF E g vs) (pre post pre' post' : List Value) (hp : pre'.length = pre.length) (d : Nat) (w : World) :
  ∃ u v, (part T (pre ++ us ++ post).toArray pre.length).run P w = .ok u w /\ (part T (pre' ++ vs ++ post').toArray pre.length).run P w = .ok v w /\ (Op.equalIn (d + 2) T u v).run P w = .ok b w := by
 cases f with
 | c x =>
  cases g with
  | ws k n xs => cases x <;> simp [eqF] at h
  | c y =>
   obtain ⟨u, rfl, hu⟩ := hu;obtain ⟨v, rfl, hv⟩ := hv;have ha : (isAgg T).run P w = .ok false w := by
    cases x <;> simp only [oneFit] at hf <;> first
     | (cases hf; done)
     | (split at hf <;> first | (rename_i hT; simp [isAgg, run_underlying hT]) | cases hf)
   refine ⟨u, v, ?_, ?_, oneFit_c hf h hu hv (d + 1) w⟩
   ·simp [part, ha]
   ·simp [part, ha, <- hp]
 | ws k n xs =>
  cases g with
  | c y => simp [eqF] at h
  | ws k' n' ys =>
   simp only [eqF] at h;split at h
   ·rename_i hk;obtain ⟨rfl, rfl⟩ := hk;simp only [Option.some.injEq, Prod.mk.injEq, Bool.and_true] at h;obtain ⟨_, rfl⟩ := h;obtain ⟨h1, h2, rfl⟩ := hu;obtain ⟨g1, g2, rfl⟩ := hv;simp only [oneFit] at hf;split at hf
    ·rename_i m e hT;split at hf
     ·rename_i k'' he;simp only [Bool.and_eq_true, beq_iff_eq] at hf;obtain ⟨⟨rfl, hs⟩, hc⟩ := hf;have ha : (isAgg T).run P w = .ok true w := by simp [isAgg, run_underlying hT]
      refine ⟨.agg (xs.map (Value.int k)).toArray, .agg (ys.map (Value.int k)).toArray, ?_, ?_, run_equalIn_array hT he hs d xs ys h1 g1 w⟩
      ·simp only [part, Sem.run_bind, ha, Result.andThen_ok, if_true, run_sizeOf hT, hc, Sem.run_pure]
       congr 2
       apply Array.ext'
       simp [h1]
      ·simp only [part, Sem.run_bind, ha, Result.andThen_ok, if_true, run_sizeOf hT, hc, Sem.run_pure]
       congr 2
       apply Array.ext'
       simp [g1, <- hp]
     ·cases hf
    ·cases hf
   ·cases h
theorem fits_eq {d : Nat} : ∀ {fl : List Field} {fs gs : List FCell} {l b : Bool} {us vs pre pre' : List Value}, fitsS P fl fs pre.length = true -> eqF fs gs = some (l, b) -> RelFs E fs us -> RelFs E gs vs -> pre'.length = pre.length -> ∀ w,
  (Op.eqFields (d + 2) (pre ++ us).toArray (pre' ++ vs).toArray fl).run P w = .ok b w
 | [], [], gs, l, b, us, vs, pre, pre', hf, h, hu, hv, hp, w => by
  cases gs with
  | cons g gs => simp [eqF] at h
  | nil =>
   simp only [eqF, Option.some.injEq, Prod.mk.injEq] at h;obtain ⟨_, rfl⟩ := h;rfl
 | [], _ :: _, _, _, _, _, _, _, _, hf, _, _, _, _, _ => by cases hf
 | _ :: _, [], _, _, _, _, _, _, _, hf, _, _, _, _, _ => by cases hf
 | fd :: fl, f :: fs, gs, l, b, us, vs, pre, pre', hf, h, hu, hv, hp, w => by
  cases gs with
  | nil => cases f with | c x => cases x <;> simp [eqF] at h | ws k n xs => simp [eqF] at h
  | cons g gs =>
   obtain ⟨l1, b1, l2, b2, h1, h2, rfl, hsz⟩ := eqF_cons h;obtain ⟨u1, u2, rfl, hu1, hu2⟩ := hu;obtain ⟨v1, v2, rfl, hv1, hv2⟩ := hv;simp only [fitsS, Bool.and_eq_true, bne_iff_ne, ne_eq, beq_iff_eq] at hf;obtain ⟨⟨⟨hn, ho⟩, hof⟩, hrest⟩ := hf;obtain ⟨u, v, q1, q2, q3⟩ := oneFit_part hof h1 hu1 hv1 pre u2 pre' v2 hp d w;have hl1 := RelF.len hu1
   have hl2 := RelF.len hv1
   have ih := fits_eq (d := d) (fl := fl) (us := u2) (vs := v2) (pre := pre ++ u1) (pre' := pre' ++ v1) (by rw [List.length_append, hl1]; exact hrest) h2 hu2 hv2 (by simp [hp, hl1, hl2, hsz]) w
   simp only [List.append_assoc] at q1 q2 ih;simp only [Op.eqFields, ne_eq, hn, not_false_eq_true, if_true, Sem.run_bind, ho, q1, q2, q3, Result.andThen_ok, ih];cases b1
   ·simp
   ·simpa using ih
theorem run_eq_agg {T : TypeId} {fs gs : List FCell} {l b : Bool} (hp : plainT P T fs = true) (h : eqF fs gs = some (l, b)) {us vs : Array Value} (hu : RelFs E fs us.toList) (hv : RelFs E gs vs.toList) (w : World) :
  (Op.equalIn 10000 T (.agg us) (.agg vs)).run P w = .ok b w /\ P.eqGuardType P.depth T = false := by
 unfold plainT at hp;split at hp
 ·rename_i n e hT;split at hp
  ·rename_i k m xs;simp only [Bool.and_eq_true, Bool.not_eq_true'] at hp;refine ⟨?_, hp.2⟩
   obtain ⟨hp1, _⟩ := hp;simp only [oneFit, hT] at hp1;cases gs with
   | nil => simp [eqF] at h
   | cons g gs =>
    cases g with
    | c y => simp [eqF] at h
    | ws k' n' ys =>
     cases gs with
     | cons _ _ => simp [eqF] at h
     | nil =>
      simp only [eqF] at h;split at h
      ·rename_i hk;obtain ⟨rfl, rfl⟩ := hk;simp only [Option.some.injEq, Prod.mk.injEq, Bool.and_true] at h;obtain ⟨_, rfl⟩ := h;obtain ⟨u1, u2, e1, ⟨h1, h2, rfl⟩, rfl⟩ := hu;obtain ⟨v1, v2, e2, ⟨g1, g2, rfl⟩, rfl⟩ := hv;rw [List.append_nil] at e1 e2;split at hp1
       ·rename_i k'' he;simp only [Bool.and_eq_true, beq_iff_eq] at hp1;obtain ⟨⟨rfl, hs⟩, hc⟩ := hp1;have := run_equalIn_array (k := k) hT he hs 9998 xs ys h1 g1 w
        rw [<- e1, <- e2] at this;exact this
       ·cases hp1
      ·cases h
  ·cases hp
 ·rename_i fields hT;simp only [Bool.and_eq_true, Bool.not_eq_true'] at hp;refine ⟨?_, hp.2⟩
  have hT' : P.underlying T = some (.struct (P.fieldsOf T)) := by simp [Program.fieldsOf, hT]
  rw [run_equalIn_struct w 9999 T us vs hT' hp.1.2];have := fits_eq (d := 9997) (pre := []) (pre' := []) hp.1.1 h hu hv rfl w
  simpa [Program.fieldsOf, hT] using this
 ·cases hp
theorem run_equalIn_ptr_nil {T e : TypeId} (hT : P.underlying T = some (.pointer e)) (d : Nat) (a : Option Addr) (w : World) : (Op.equalIn (d + 1) T (.pointer a) (.pointer none)).run P w = .ok a.isNone w := by
 cases a <;> simp [Op.equalIn, run_underlying hT]
theorem run_eql_ptr_nil {T e : TypeId} (hT : P.underlying T = some (.pointer e)) (a : Option Addr) (w : World) : (binOp .eql T (.pointer a) (.pointer none)).run P w = .ok (.bool a.isNone) w := by
 have h := run_equalIn_ptr_nil hT 9999 a w
 show ((Op.equalIn 10000 T (.pointer a) (.pointer none)) >>= fun b => Pure.pure (Value.bool b)).run P w = _
 rw [Sem.run_bind, h]; rfl
theorem run_neq_ptr_nil {T e : TypeId} (hT : P.underlying T = some (.pointer e)) (a : Option Addr) (w : World) : (binOp .neq T (.pointer a) (.pointer none)).run P w = .ok (.bool (!a.isNone)) w := by
 have h := run_equalIn_ptr_nil hT 9999 a w
 show ((Op.equalIn 10000 T (.pointer a) (.pointer none)) >>= fun b => Pure.pure (Value.bool (!b))).run P w = _
 rw [Sem.run_bind, h]; rfl
theorem binT_sound (hE : RepH G E) {op : BinOp} {T : TypeId} {a b : SV} {x y : Value} {r : Res} (ha : RelS E a x) (hb : RelS E b y) (xo yo : Operand) (h : (binT P op T a b).val = some r) :
  SemOk P G E (do eqGuard op T xo yo x y; binOp op T x y) r := by
 unfold binT at h;split at h
 ·obtain ⟨rfl, hx⟩ := ha;obtain ⟨rfl, hy⟩ := hb;split at h
  ·obtain ⟨h1, h2⟩ := val_chkl h;obtain ⟨v, h3, h4⟩ := val_opt h2;obtain rfl := val_ret h4;have h1 := Int.not_lt.2 (ofD h1)
   refine SemOk.pure hE (u := .int _ _) ?_ ⟨rfl, shI_inK h3 hx⟩
   simp only [Sem.run_bind, run_eqGuard_int, Result.andThen_ok];simp only [shI, Option.some.injEq] at h3;subst h3;simp [binOp, Op.shift, h1]
  ·obtain ⟨h1, h2⟩ := val_chkl h;obtain ⟨v, h3, h4⟩ := val_opt h2;obtain rfl := val_ret h4;have h1 := Int.not_lt.2 (ofD h1)
   refine SemOk.pure hE (u := .int _ _) ?_ ⟨rfl, shI_inK h3 hx⟩
   simp only [Sem.run_bind, run_eqGuard_int, Result.andThen_ok];simp only [shI, Option.some.injEq] at h3;subst h3;simp [binOp, Op.shift, h1]
  ·split at h
   ·rename_i hk;subst hk;obtain ⟨h1, h2⟩ := val_chkl h;obtain ⟨v, h3, h4⟩ := val_opt h2;obtain rfl := val_ret h4;refine SemOk.pure hE (u := .int _ _) ?_ ⟨rfl, divI_inK h3 hx⟩
    have h1 := ofD h1
    simp only [Sem.run_bind, run_eqGuard_int, Result.andThen_ok];simp only [divI, Option.some.injEq] at h3;subst h3;simp [binOp, Op.intDiv, h1]
   ·cases h
  ·split at h
   ·rename_i hk;subst hk;obtain ⟨h1, h2⟩ := val_chkl h;obtain ⟨v, h3, h4⟩ := val_opt h2;obtain rfl := val_ret h4;refine SemOk.pure hE (u := .int _ _) ?_ ⟨rfl, divI_inK h3 hx⟩
    have h1 := ofD h1
    simp only [Sem.run_bind, run_eqGuard_int, Result.andThen_ok];simp only [divI, Option.some.injEq] at h3;subst h3;simp [binOp, Op.intDiv, h1]
   ·cases h
  ·split at h
   ·rename_i hk;subst hk;obtain ⟨nr, h3, h4⟩ := val_opt h;have h5 := binI_run (P := P) (T := T) h3 E.w
    cases nr with
    | n v =>
     obtain rfl := val_ret h4;exact SemOk.pure hE (u := .int _ _) (by simp only [Sem.run_bind, run_eqGuard_int, Result.andThen_ok]; exact h5) ⟨rfl, binI_inK h3⟩
    | b v =>
     obtain rfl := val_ret h4;exact SemOk.pure hE (u := .bool _) (by simp only [Sem.run_bind, run_eqGuard_int, Result.andThen_ok]; exact h5) rfl
   ·cases h
 ·obtain rfl : x = .bool _ := ha;obtain rfl : y = .bool _ := hb;split at h
  ·rename_i hT;obtain rfl := val_ret h;exact SemOk.pure hE (u := .bool _) (by simp [run_eqGuard_bool, binOp, Op.equal, Op.maxDepth, run_equalIn_bool' _ _ _ _ _ hT]) rfl
  ·rename_i hT;obtain rfl := val_ret h;exact SemOk.pure hE (u := .bool _) (by simp [run_eqGuard_bool, binOp, Op.equal, Op.maxDepth, run_equalIn_bool' _ _ _ _ _ hT]) rfl
  ·cases h
 ·obtain rfl : x = .string _ := ha;obtain rfl : y = .string _ := hb;split at h
  ·obtain ⟨h1, h2⟩ := val_chk h;obtain rfl := val_ret h2;have h1 := Int.not_lt.2 (ofD h1)
   exact SemOk.pure hE (u := .string _) (by simp [run_eqGuard_str, binOp, Op.stringOp]; simp [IntKind.max, IntKind.signed, IntKind.bits] at h1 ⊢; omega) rfl
  ·obtain rfl := val_ret h;exact SemOk.pure hE (u := .bool _) (by simp [run_eqGuard_str, binOp, Op.stringOp]) rfl
  ·obtain rfl := val_ret h;exact SemOk.pure hE (u := .bool _) (by simp [run_eqGuard_str, binOp, Op.stringOp]) rfl
  ·cases h
 ·obtain ⟨us, rfl, hu⟩ := ha;obtain ⟨vs, rfl, hv⟩ := hb;split at h
  ·rename_i hp;split at h
   ·rename_i l b hq;obtain rfl := val_ret h;obtain ⟨q1, q2⟩ := run_eq_agg hp hq hu hv E.w;exact SemOk.pure hE (u := .bool _) (by simp only [Sem.run_bind, run_eqGuard_agg _ _ _ _ _ _ _ q2, Result.andThen_ok, run_eql_struct, q1]) rfl
   ·rename_i l b hq;obtain rfl := val_ret h;obtain ⟨q1, q2⟩ := run_eq_agg hp hq hu hv E.w;exact SemOk.pure hE (u := .bool _) (by simp only [Sem.run_bind, run_eqGuard_agg _ _ _ _ _ _ _ q2, Result.andThen_ok, run_neq_struct, q1]) rfl
   ·cases h
  ·cases h
 ·rename_i b i es o k n;obtain ⟨q, rfl⟩ : ∃ q, x = .pointer (some q) := by
   obtain ⟨_, h2⟩ := ha;unfold RelPtr at h2;split at h2
   ·obtain ⟨⟨kb, _, e⟩, _⟩ := h2; exact ⟨_, e⟩
   ·exact h2.1
   ·exact h2.1
   ·exact h2
   ·exact h2.elim
  obtain rfl : y = .pointer none := hb;split at h
  ·rename_i hT;obtain rfl := val_ret h;exact SemOk.pure hE (u := .bool _) (by rw [Sem.run_bind, run_eqGuard_ptr, Result.andThen_ok, run_eql_ptr_nil hT]; rfl) rfl
  ·rename_i hT;obtain rfl := val_ret h;exact SemOk.pure hE (u := .bool _) (by rw [Sem.run_bind, run_eqGuard_ptr, Result.andThen_ok, run_neq_ptr_nil hT]; rfl) rfl
  ·cases h
 ·obtain rfl : x = .pointer none := ha;obtain rfl : y = .pointer none := hb;split at h
  ·rename_i hT;obtain rfl := val_ret h;exact SemOk.pure hE (u := .bool _) (by rw [Sem.run_bind, run_eqGuard_ptr, Result.andThen_ok, run_eql_ptr_nil hT]; rfl) rfl
  ·rename_i hT;obtain rfl := val_ret h;exact SemOk.pure hE (u := .bool _) (by rw [Sem.run_bind, run_eqGuard_ptr, Result.andThen_ok, run_neq_ptr_nil hT]; rfl) rfl
  ·cases h
 ·cases h
end Go.SX
