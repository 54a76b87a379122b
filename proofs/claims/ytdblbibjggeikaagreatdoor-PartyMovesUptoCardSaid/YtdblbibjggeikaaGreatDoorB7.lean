/- SX, part 37: goroutine 0's way beside those that only leave, carried out by the machine. -/
import Derived.Test.YtdblbibjggeikaaGreatDoorB6
import Derived.Conc.CrowdStepC2
set_option linter.unusedSectionVars false
set_option linter.unusedVariables false
set_option linter.unusedSimpArgs false
namespace Go.SX
open Go Go.Conc
open Go.ConcN (sumTo upd sumTo_upd upd_ne upd_same)
variable {P : Program} [Level]
theorem touch_ofEvent {e : Event} {x : Touch} (h : (MemAct.ofEvent e).touch? = some x) (hc : ∀ a, e.loc ≠ .mark (.read a) /\ e.loc ≠ .mark (.write a)) : x.loc = e.loc /\ x.write = e.write /\ x.kind ≠ .said := by
 obtain ⟨loc, wr, sy⟩ := e;cases loc with
 | cell a =>
  simp only [MemAct.ofEvent, MemAct.touch?, Option.some.injEq] at h;subst h;refine ⟨rfl, rfl, ?_⟩
  cases sy <;> simp
 | obj r =>
  cases wr <;> cases sy <;> simp [MemAct.ofEvent, MemAct.touch?] at h <;> subst h <;> simp
 | output =>
  simp only [MemAct.ofEvent, MemAct.touch?, Option.some.injEq] at h;subst h;refine ⟨rfl, rfl, ?_⟩
  cases sy <;> simp
 | goroutines =>
  simp only [MemAct.ofEvent, MemAct.touch?, Option.some.injEq] at h;subst h;refine ⟨rfl, rfl, ?_⟩
  cases sy <;> simp
 | mark m =>
  cases m with
  | read a => exact absurd rfl (hc a).1
  | write a => exact absurd rfl (hc a).2
  | _ => simp [MemAct.ofEvent, MemAct.touch?] at h
theorem evL_of {M : Nat -> Kd} {w : World} {e : Event} {Shun : Loc -> Prop} (h : EvOk M w e) (hs : ∀ a, Shun (.cell a) -> M a.block = .off) : EvL Shun w.heap.size e := by
 rcases h with ⟨a, h1, h2, h3, h4⟩ | h1 | ⟨f, h1⟩
 ·refine ⟨fun x hx hsh => ?_, by rw [h1]; simp, by rw [h1]; simp, ?_⟩
  ·obtain ⟨q1, _, _⟩ := touch_ofEvent hx (fun b => by rw [h1]; simp)
   rw [q1, h1] at hsh;exact absurd (hs a hsh) h3
  ·obtain ⟨loc, wr, sy⟩ := e;simp only at h1
   subst h1;exact h2
 ·obtain ⟨loc, wr, sy⟩ := e;simp only at h1
  subst h1;exact ⟨fun x hx => by simp [MemAct.ofEvent, MemAct.touch?] at hx, by simp, by simp, trivial⟩
 ·obtain ⟨loc, wr, sy⟩ := e;simp only at h1
  subst h1;exact ⟨fun x hx => by simp [MemAct.ofEvent, MemAct.touch?] at hx, by simp, by simp, trivial⟩
theorem touch_low {act : MemAct} {B : Nat} {x : Touch} (h : act.low B) (hx : act.touch? = some x) : x.loc.low B := by
 cases act with
 | access e =>
  simp only [MemAct.touch?, Option.some.injEq] at hx;subst hx;exact h
 | mark m => cases m <;> simp only [MemAct.touch?, Option.some.injEq, reduceCtorEq] at hx <;> first | (subst hx; exact h) | cases hx
 | _ => cases hx
section
variable {Shun : Loc -> Prop} {B B' : Nat} {t u : Trace}
theorem Gone.mono (h : Gone Shun B t) (hB : B <= B') : Gone Shun B' t := { h with low := fun op hop x hx => Loc.low_mono hB (h.low op hop x hx) }
theorem Gone.app0 (h : Gone Shun B t) (hu : ∀ op ∈ u, op.g = 0) (hs : ∀ op ∈ u, ∀ b, op.act.touch? = some b -> Shun b.loc -> b.kind ≠ .plain) (hd : Deaf (t ++ u) 0 = Deaf t 0) (hl : ∀ op ∈ u, ∀ x, op.act.touch? = some x -> x.loc.low B) : Gone Shun B (t ++ u) := by
 refine ⟨fun said => noRace_append (h.clean said) hu fun i a ha op hop b hb hc => ?_, fun i a ha hm => ?_, handedOver_app h.over fun op hop => .inl (hu op hop), hd.trans h.hears, fun op hop => (Array.mem_append.1 hop).elim (h.low op) (hl op)⟩
 ·obtain ⟨hloc, hmem, _, hcase⟩ := hc;rcases h.known i a ha hmem with hk | ⟨hsa, hka⟩
  ·exact hk
  ·have hkb := hs op hop b hb (hloc ▸ hsa)
   rcases hcase with x | x | ⟨_, x, _⟩
   ·rw [hka] at x; cases x
   ·exact absurd x hkb
   ·rw [hka] at x; cases x
 ·obtain ⟨x, hx, hxa⟩ := touch_of ha;rcases getElem?_append_cases hx with ⟨_, hx'⟩ | ⟨_, hxu⟩
  ·exact (h.known i a (by rw [touchAt_of hx']; exact hxa) hm).imp (·.app u) id
  ·have := knows_own hx
   rw [hu x hxu] at this;exact .inl this
theorem Gone.appMute {g : Nat} (h : Gone Shun B t) (hg : g ≠ 0) (hu : ∀ op ∈ u, op.g = g) (hn : ∀ op ∈ u, op.act.touch? = none) : Gone Shun B (t ++ u) := by
 refine ⟨fun said => noRace_append (h.clean said) hu fun i a _ op hop b hb _ => (by rw [hn op hop] at hb; cases hb), fun i a ha hm => ?_, handedOver_app h.over fun op hop => .inr (hn op hop), (Deaf_other t hg u hu).trans h.hears, fun op hop => (Array.mem_append.1 hop).elim (h.low op) (fun hop x hx => by rw [hn op hop] at hx; cases hx)⟩
 obtain ⟨x, hx, hxa⟩ := touch_of ha;rcases getElem?_append_cases hx with ⟨_, hx'⟩ | ⟨_, hxu⟩
 ·exact (h.known i a (by rw [touchAt_of hx']; exact hxa) hm).imp (·.app u) id
 ·rw [hn x hxu] at hxa; cases hxa
theorem Gone.own (h : Gone Shun B t) {fn : FuncId} {pos : String} {es : Array Event} (hes : ∀ e ∈ es, EvL Shun B e) : Gone Shun B (t ++ MemOp.ofEvents 0 fn pos es) := by
 refine h.app0 (fun op hop => by obtain ⟨e, _, rfl⟩ := Go.Conc.mem_ofEvents hop; rfl) (fun op hop b hb => by obtain ⟨e, he, rfl⟩ := Go.Conc.mem_ofEvents hop; exact (hes e he).1 b hb) ?_ (fun op hop x hx => by obtain ⟨e, he, rfl⟩ := Go.Conc.mem_ofEvents hop; exact touch_low (hes e he).2.2.2 hx)
 rw [Deaf_own];exact deafBehind_still (fun e he => ⟨(hes e he).2.1, (hes e he).2.2.1⟩) _
theorem Gone.mute (h : Gone Shun B t) {g : Nat} (hg : g ≠ 0) {fn : FuncId} {pos : String} {es : Array Event} (hm : ∀ e ∈ es, e.mute = true) : Gone Shun B (t ++ MemOp.ofEvents g fn pos es) :=
 h.appMute hg (fun op hop => by obtain ⟨e, _, rfl⟩ := Go.Conc.mem_ofEvents hop; rfl) (fun op hop => by obtain ⟨e, he, rfl⟩ := Go.Conc.mem_ofEvents hop; exact touch_mute (hm e he))
theorem num_app {n g : Nat} (h : ∀ op ∈ t, op.g < n) (hg : g < n) (hu : ∀ op ∈ u, op.g = g) : ∀ op ∈ t ++ u, op.g < n := fun op hop => (Array.mem_append.1 hop).elim (h op) fun hop => by rw [hu op hop]; exact hg
end
theorem ofEvents_g {g : Nat} {fn : FuncId} {pos : String} {es : Array Event} : ∀ op ∈ MemOp.ofEvents g fn pos es, op.g = g := fun op hop => by
 obtain ⟨e, _, rfl⟩ := Go.Conc.mem_ofEvents hop; rfl
theorem _root_.Go.Conc.Leavers.step0 {t : Trace} {gs : Array Goroutine} {q : Nat -> Nat} (hL : Leavers P t gs q) (hpos : 0 < gs.size) (a a' : Goroutine) (w' : World) (fn : FuncId) (pos : String) (es : Array Event) :
  Leavers P (t ++ MemOp.ofEvents 0 fn pos es) ((gs.map (woken P a a' w')).setIfInBounds 0 a') q where
 old := fun j x hj hx => by
  have hne : 0 ≠ j := by omega
  rw [Array.getElem?_setIfInBounds_ne hne, Array.getElem?_map] at hx
  obtain ⟨y, hy, rfl⟩ := Option.map_eq_some_iff.1 hx;have hq := hL.old j y hj hy
  rw [woken_quitsD hq, Deaf_other t (by omega) _ ofEvents_g]
  exact hq
 above := fun j hj => by
  have hj : gs.size <= j := by simpa using hj
  rw [Deaf_other t (g' := 0) (by omega) _ ofEvents_g]
  exact hL.above j hj
theorem _root_.Go.Conc.Leavers.slip {t : Trace} {gs : Array Goroutine} {q : Nat -> Nat} (hL : Leavers P t gs q) {i k : Nat} {g g' : Goroutine} (hi : 0 < i) (hlt : i < gs.size) (w' : World) (fn : FuncId) (pos : String) (es : Array Event) (hq' : QuitsD P k (deafBehind (Deaf t i) es) g') :
  Leavers P (t ++ MemOp.ofEvents i fn pos es) ((gs.map (woken P g g' w')).setIfInBounds i g') (upd q i k) where
 old := fun j x hj hx => by
  by_cases hji : i = j
  ·subst hji;rw [Array.getElem?_setIfInBounds_self_of_lt (by simpa using hlt)] at hx
   obtain rfl := smI hx;rw [upd_same, Deaf_own];exact hq'
  ·rw [Array.getElem?_setIfInBounds_ne hji, Array.getElem?_map] at hx
   obtain ⟨y, hy, rfl⟩ := Option.map_eq_some_iff.1 hx;have hqj := hL.old j y hj hy
   rw [woken_quitsD hqj, upd_ne q k (Ne.symm hji), Deaf_other t hji _ ofEvents_g];exact hqj
 above := fun j hj => by
  rw [Deaf_other t (g' := i) (by simp at hj; omega) _ ofEvents_g]
  exact hL.above j (by simpa using hj)
theorem Solo.awake {Shun : Loc -> Prop} {gs : Array Goroutine} {w : World} {t : Trace} {q : Nat -> Nat} {M : Nat -> Kd} {g : Goroutine} (h : Solo P Shun gs w t q M g) (hr : g.status = .running) : ∀ x ∈ gs, awake x := fun x hx => by
 obtain ⟨i, hi, rfl⟩ := Array.mem_iff_getElem.1 hx;rcases Nat.eq_zero_or_pos i with rfl | hpos
 ·have : gs[0] = g := by simpa [Array.getElem?_eq_getElem hi] using h.g0
  rw [this]; exact awake_of (.inl hr)
 ·exact awake_of ((h.leave.old i _ hpos (Array.getElem?_eq_getElem hi)).status.elim .inl fun x => .inr (.inr x))
theorem grow_at {v w : World} (h : Grow v w) (d : Nat) : Grow v (w.at d) := ⟨h.os, h.tape, h.output, h.size, h.heap⟩
theorem Solo.at {Shun : Loc -> Prop} {gs : Array Goroutine} {w : World} {t : Trace} {q : Nat -> Nat} {M : Nat -> Kd} {g : Goroutine} (h : Solo P Shun gs w t q M g) (d : Nat) : Solo P Shun gs (w.at d) t q M g := ⟨h.g0, h.leave, h.past, h.num, h.shun, h.fit⟩
theorem solo_step {Shun : Loc -> Prop} {Post : Value -> World -> Prop} {M : Nat -> Kd} {g : Goroutine} (I : World -> Prop) (hI : ∀ w d, I w -> I (w.at d)) (hr : g.status = .running)
  (hstep : ∀ (w : World) (gs : Array Goroutine) (sl : Option (Nat × Nat)) (t : Trace) (q : Nat -> Nat), I w -> Solo P Shun gs w t q M g ->
   ∃ m' ops, runT P (crowd gs w sl) 0 = (.next m', ops) /\ Ends P Post m' (t ++ ops)) :
  ∀ (N : Nat) {w : World} {gs : Array Goroutine} {sl : Option (Nat × Nat)} {t : Trace} {q : Nat -> Nat}, sumTo gs.size q <= N -> I w -> Solo P Shun gs w t q M g -> Ends P Post (crowd gs w sl) t := by
 intro N
 induction N with
 | zero =>
  intro w gs sl t q hN hg hs;obtain ⟨i, x, d, sl', hi, hx, hst⟩ := crowd_pick (P := P) (w := w) (sl := sl) (hs.awake hr) ⟨0, g, hs.g0, hr⟩;rcases Nat.eq_zero_or_pos i with rfl | hpos
  ·obtain ⟨m', ops, h1, h2⟩ := hstep (w.at d) gs sl' t q (hI _ d hg) (hs.at d);exact Ends.step (hst.trans h1) h2
  ·have hlt : i < gs.size := (Array.getElem?_eq_some_iff.1 hi).1
   have hq := hs.leave.old i x hpos hi
   have : q i <= sumTo gs.size q := Go.ConcN.le_sumTo hlt
   rw [show q i = 0 by omega] at hq
   rw [hq.1] at hx; cases hx
 | succ N ih =>
  intro w gs sl t q hN hg hs;obtain ⟨i, x, d, sl', hi, hx, hst⟩ := crowd_pick (P := P) (w := w) (sl := sl) (hs.awake hr) ⟨0, g, hs.g0, hr⟩;rcases Nat.eq_zero_or_pos i with rfl | hpos
  ·obtain ⟨m', ops, h1, h2⟩ := hstep (w.at d) gs sl' t q (hI _ d hg) (hs.at d);exact Ends.step (hst.trans h1) h2
  ·have hlt : i < gs.size := (Array.getElem?_eq_some_iff.1 hi).1
   have hq := hs.leave.old i x hpos hi
   have hi0 : (i == 0) = false := by simp; omega
   cases hqi : q i with
   | zero => rw [hqi] at hq; rw [hq.1] at hx; cases hx
   | succ k =>
    rw [hqi] at hq;rcases hq with ⟨hf, _⟩ | ⟨_, g', es, hm, hstp, hq'⟩
    ·rw [hf] at hx; cases hx
    have hrunT := runT_crowd_go (P := P) (sl := sl') (i := i) hi (by rw [hi0]; exact hstp (w.at d))
    have hsz : ((gs.map (woken P x g' (w.at d))).setIfInBounds i g').size = gs.size := by simp
    have hsum : sumTo gs.size (upd q i k) + (k + 1) = sumTo gs.size q + k := by
     have := sumTo_upd q k id hlt
     simpa [hqi] using this
    refine Ends.step (hst.trans hrunT) (ih (q := upd q i k) (by rw [hsz]; omega) (hI _ d hg) ⟨?_, hs.leave.slip hpos hlt _ _ _ _ hq', hs.past.mute (by omega) hm, by rw [hsz]; exact num_app hs.num hlt ofEvents_g, hs.shun, hs.fit⟩)
    have hne : i ≠ 0 := by omega
    rw [Array.getElem?_setIfInBounds_ne hne, Array.getElem?_map, hs.g0]
    simp [woken_run hr]
theorem Solo.next {Shun : Loc -> Prop} {gs : Array Goroutine} {w w' : World} {sl : Option (Nat × Nat)} {t : Trace} {q : Nat -> Nat} {M : Nat -> Kd} {g g' : Goroutine} {es : Array Event} (h : Solo P Shun gs w t q M g) (hgo : stepG P true g w = .go g' w' es) (hk : Stood M w w') (he : ∀ e ∈ es, EvOk M w' e) :
  ∃ gs' ops, runT P (crowd gs w sl) 0 = (.next (crowd gs' w' sl), ops) /\ Solo P Shun gs' w' (t ++ ops) q M g' := by
 have hlt : 0 < gs.size := (Array.getElem?_eq_some_iff.1 h.g0).1
 refine ⟨_, _, runT_crowd_go (P := P) (sl := sl) (i := 0) h.g0 (show stepG P (0 == 0) g w = _ from hgo), by simp [hlt], h.leave.step0 hlt _ _ _ _ _ _, (h.past.mono hk.size).own fun e hm => evL_of (he e hm) h.shun, by simpa using num_app h.num hlt ofEvents_g, h.shun, h.fit.kept hk⟩
theorem Way0.solo (hvol : ∀ a, ¬ Level.vol a) {Stop : Goroutine -> World -> Prop} {g : Goroutine} {v : World} (h : Way0 P true Stop g v) : ∀ {Post : Value -> World -> Prop} {Shun : Loc -> Prop} {M : Nat -> Kd} {w : World} {gs : Array Goroutine} {sl : Option (Nat × Nat)} {t : Trace} {q : Nat -> Nat}, Grow v (ghost M w) -> Solo P Shun gs w t q M g ->
  (∀ Shun' M' w' gs' sl' t' q' g', Stop g' (ghost M' w') -> Held M w M' w' -> Solo P Shun' gs' w' t' q' M' g' -> Ends P Post (crowd gs' w' sl') t') -> Ends P Post (crowd gs w sl) t := by
 induction h with
 | stop h => exact fun hg hs hk => hk _ _ _ _ _ _ _ _ (h _ hg) (Held.refl _ _) hs
 | step g' w' es hr hl hstep _ ih =>
  intro Post Shun M w gs sl t q hg hs hk;refine solo_step (fun w1 => Grow _ (ghost M w1) /\ Held M w M w1) (fun w d h => ⟨grow_at h.1 d, h.2.at d⟩) hr (fun w1 gs sl t q hg hs => ?_) _ (Nat.le_refl _) ⟨hg, Held.refl _ _⟩ hs
  obtain ⟨hg, hd⟩ := hg;obtain ⟨w2, h1, h2, h3, h4⟩ := hl _ hg M w1 rfl hs.fit _ _ _ (hstep _ hg);obtain ⟨gs', ops, h5, h6⟩ := hs.next (sl := sl) h1 h3 h4;exact ⟨_, ops, h5, ih _ hg (by rw [<- h2]; exact Grow.refl _) h6 fun Shun' M' w' gs' sl' t' q' g' hS hd' hs' => hk Shun' M' w' gs' sl' t' q' g' hS ((hd.trans h3.held).trans hd') hs'⟩
 | vol a δ g' hr ha _ _ _ => exact absurd ha (hvol a)
 | big K _ _ hb _ ih =>
  intro Post Shun M w gs sl t q hg hs hk;exact hb _ hg Post Shun M w gs sl t q (Grow.refl _) hs fun Shun' M' w' gs' sl' t' q' g' hK hd hs' => ih _ _ hK (Grow.refl _) hs' fun Shun'' M'' w'' gs'' sl'' t'' q'' g'' hS hd' hs'' => hk Shun'' M'' w'' gs'' sl'' t'' q'' g'' hS (hd.trans hd') hs''
end Go.SX
namespace Go.SX
open Go Go.Conc
open Go.ConcN (PermW RelBy fork_knows ShN)
open Go.ConcR (stA Bk ofEvent_loc_mark)
def AtWork (l0 j k : Nat) : Prop := k = 0 \/ (l0 <= k /\ k < l0 + j)
def Fine (Sh : Loc -> Prop) (Own : Nat -> Loc -> Prop) (Rd : Loc -> Prop) (k : Nat) (x : Touch) : Prop :=
 (Sh x.loc /\ x.kind ≠ .plain /\ (x.kind = .said -> k = 0)) \/ Own k x.loc \/ (Rd x.loc /\ x.write = false)
structure Asunder (Sh : Loc -> Prop) (Own : Nat -> Loc -> Prop) (Rd : Loc -> Prop) : Prop where
 own : ∀ k k' l, Own k l -> Own k' l -> k = k'
 ownRd : ∀ k l, Own k l -> ¬ Rd l
 ownSh : ∀ k l, Own k l -> ¬ Sh l
 rdSh : ∀ l, Rd l -> ¬ Sh l
structure CrT (Shun Sh : Loc -> Prop) (Own : Nat -> Loc -> Prop) (Rd : Loc -> Prop) (l0 j B : Nat) (t : Trace) : Prop where
 pos : 0 < l0
 clean : ∀ said, ¬ Race said t
 quiet : ∀ (i : Nat) (x : Touch) (op : MemOp), t[i]? = some op -> op.act.touch? = some x -> Sh x.loc -> (x.kind ≠ .plain /\ (x.kind = .said -> op.g = 0)) \/ ∀ k, AtWork l0 j k -> Knows t k i
 own : ∀ k, AtWork l0 j k -> ∀ l, Own k l -> Perm t k l
 rd : ∀ k, AtWork l0 j k -> ∀ l, Rd l -> PermW t k l
 past : ∀ (i : Nat) (x : Touch), touchAt t i = some x -> x.loc.isMemory = true -> (∃ g, t.g? i = some g /\ l0 <= g) \/ Knows t 0 i \/ (Shun x.loc /\ x.kind = .atomic)
 over : ∀ i g, t.g? i = some g -> g ≠ 0 -> g < l0 -> t.counts i -> ∃ q, t.g? q = some 0 /\ HappensBefore t i q
 gs : ∀ op ∈ t, op.g < l0 + j
 low : ∀ op ∈ t, ∀ x, op.act.touch? = some x -> x.loc.low B
section
variable {Shun Sh : Loc -> Prop} {Own Own' : Nat -> Loc -> Prop} {Rd : Loc -> Prop} {l0 j B B' : Nat} {t u : Trace}
theorem counts_touch {i : Nat} (h : t.counts i) : ∃ op x, t[i]? = some op /\ op.act.touch? = some x := by
 obtain ⟨x, hx, _⟩ := h;obtain ⟨op, h1, h2⟩ := touch_of hx;exact ⟨op, x, h1, h2⟩
theorem over_app (h : ∀ i g, t.g? i = some g -> g ≠ 0 -> g < l0 -> t.counts i -> ∃ q, t.g? q = some 0 /\ HappensBefore t i q) (hu : ∀ op ∈ u, op.g = 0 \/ l0 <= op.g \/ op.act.touch? = none) :
  ∀ i g, (t ++ u).g? i = some g -> g ≠ 0 -> g < l0 -> (t ++ u).counts i -> ∃ q, (t ++ u).g? q = some 0 /\ HappensBefore (t ++ u) i q := by
 intro i g hg hne hlt hc;obtain ⟨op, x, hop, hx⟩ := counts_touch hc;rcases getElem?_append_cases hop with ⟨hi, hop'⟩ | ⟨_, hopu⟩
 ·obtain ⟨q, hq, hb⟩ := h i g (by simpa [Trace.g?, getElem?_append_old hi] using hg) hne hlt ((counts_old hi).1 hc)
  have hql : q < t.size := by
   unfold Trace.g? at hq;obtain ⟨z, hz, _⟩ := Option.map_eq_some_iff.1 hq;exact lt_size_of_getElem? hz
  exact ⟨q, by simpa [Trace.g?, getElem?_append_old hql] using hq, hb_app u hb⟩
 ·have : op.g = g := by simpa [Trace.g?, hop] using hg
  rcases hu op hopu with h0 | h0 | h0
  ·omega
  ·omega
  ·rw [h0] at hx; cases hx
theorem touchAt_cases {i : Nat} {x : Touch} (h : touchAt (t ++ u) i = some x) : (i < t.size /\ touchAt t i = some x) \/ (t.size <= i /\ ∃ op ∈ u, (t ++ u)[i]? = some op /\ op.act.touch? = some x) := by
 obtain ⟨op, h1, h2⟩ := touch_of h;rcases getElem?_append_cases h1 with ⟨hi, h1'⟩ | ⟨hi, hu⟩
 ·exact .inl ⟨hi, by rw [touchAt_of h1']; exact h2⟩
 ·exact .inr ⟨hi, op, hu, h1, h2⟩
theorem CrT.app (A : Asunder Sh Own Rd) (h : CrT Shun Sh Own Rd l0 j B t) (hB : B <= B') {k : Nat} (hk : AtWork l0 j k) (hg : ∀ op ∈ u, op.g = k) (hu : ∀ op ∈ u, ∀ x, op.act.touch? = some x -> Fine Sh Own Rd k x) (hl : ∀ op ∈ u, ∀ x, op.act.touch? = some x -> x.loc.low B') :
  CrT Shun Sh Own Rd l0 j B' (t ++ u) := by
 refine ⟨h.pos, fun said => ?_, fun i x op hi hx hs => ?_, fun k' hk' l hl' => (h.own k' hk' l hl').app fun op hop b hb e => ?_, fun k' hk' l hl' => (h.rd k' hk' l hl').app fun op hop b hb e hw => ?_, fun i x hx hm => ?_, over_app h.over fun op hop => ?_, fun op hop => ?_, fun op hop => ?_⟩
 ·refine noRace_append (h.clean said) hg fun i a ha op hop b hb hc => ?_
  obtain ⟨hloc, _, hwr, hcase⟩ := hc;rcases hu op hop b hb with ⟨hs, hp, hsaid⟩ | ho | ⟨hr, hw⟩
  ·obtain ⟨op', h1, h2⟩ := touch_of ha;rcases h.quiet i a op' h1 h2 (by rw [hloc]; exact hs) with ⟨q1, q2⟩ | q
   ·rcases hcase with hc | hc | ⟨_, hc, hc'⟩
    ·exact absurd hc q1
    ·exact absurd hc hp
    ·have := knows_own h1
     rw [q2 hc] at this;rw [hsaid hc']; exact this
   ·exact q k hk
  ·exact h.own k hk _ ho i a ha hloc
  ·rcases hwr with hwr | hwr
   ·exact h.rd k hk _ hr i a ha hloc hwr
   ·rw [hw] at hwr; cases hwr
 ·rcases getElem?_append_cases hi with ⟨_, hi'⟩ | ⟨_, hop⟩
  ·exact (h.quiet i x op hi' hx hs).imp id fun q k hk => (q k hk).app u
  ·rcases hu op hop x hx with ⟨_, q1, q2⟩ | ho | ⟨hr, _⟩
   ·exact .inl ⟨q1, fun e => (hg op hop).trans (q2 e)⟩
   ·exact absurd hs (A.ownSh k _ ho)
   ·exact absurd hs (A.rdSh _ hr)
 ·rcases hu op hop b hb with ⟨hs, _⟩ | ho | ⟨hr, _⟩
  ·exact absurd (e ▸ hs) (A.ownSh k' l hl')
  ·rw [hg op hop]; exact A.own k k' l (e ▸ ho) hl'
  ·exact absurd (e ▸ hr) (A.ownRd k' l hl')
 ·rcases hu op hop b hb with ⟨hs, _⟩ | ho | ⟨_, hr⟩
  ·exact absurd (e ▸ hs) (A.rdSh l hl')
  ·exact absurd hl' (A.ownRd k l (e ▸ ho))
  ·rw [hr] at hw; cases hw
 ·rcases touchAt_cases hx with ⟨hi, hx'⟩ | ⟨hi, op, hop, h1, h2⟩
  ·rcases h.past i x hx' hm with ⟨g, q1, q2⟩ | q | q
   ·exact .inl ⟨g, by rw [g?_old hi]; exact q1, q2⟩
   ·exact .inr (.inl (q.app u))
   ·exact .inr (.inr q)
  ·rcases hk with rfl | ⟨hk, _⟩
   ·have := knows_own h1
    rw [hg op hop] at this;exact .inr (.inl this)
   ·exact .inl ⟨k, by simp [Trace.g?, h1, hg op hop], hk⟩
 ·rw [hg op hop];rcases hk with rfl | ⟨hk, _⟩
  ·exact .inl rfl
  ·exact .inr (.inl hk)
 ·rcases Array.mem_append.1 hop with hop | hop
  ·exact h.gs op hop
  ·rw [hg op hop];rcases hk with rfl | ⟨_, hk⟩
   ·have := h.pos; omega
   ·exact hk
 ·rcases Array.mem_append.1 hop with hop | hop
  ·exact fun x hx => Loc.low_mono hB (h.low op hop x hx)
  ·exact hl op hop
theorem CrT.still (h : CrT Shun Sh Own Rd l0 j B t) {g : Nat} (hg : ∀ op ∈ u, op.g = g) (hgl : g < l0 + j) (hu : ∀ op ∈ u, op.act.touch? = none) : CrT Shun Sh Own Rd l0 j B (t ++ u) := by
 refine ⟨h.pos, fun said => noRace_append (h.clean said) hg fun i a ha op hop b hb hc => ?_, fun i x op hi hx hs => ?_, fun k' hk' l hl' => (h.own k' hk' l hl').app fun op hop b hb e => ?_, fun k' hk' l hl' => (h.rd k' hk' l hl').app fun op hop b hb e hw => ?_, fun i x hx hm => ?_, over_app h.over fun op hop => .inr (.inr (hu op hop)), fun op hop => ?_, fun op hop => ?_⟩
 ·rw [hu op hop] at hb; cases hb
 ·rcases getElem?_append_cases hi with ⟨_, hi'⟩ | ⟨_, hop⟩
  ·exact (h.quiet i x op hi' hx hs).imp id fun q k hk => (q k hk).app u
  ·rw [hu op hop] at hx; cases hx
 ·rw [hu op hop] at hb; cases hb
 ·rw [hu op hop] at hb; cases hb
 ·rcases touchAt_cases hx with ⟨hi, hx'⟩ | ⟨hi, op, hop, h1, h2⟩
  ·rcases h.past i x hx' hm with ⟨g, q1, q2⟩ | q | q
   ·exact .inl ⟨g, by rw [g?_old hi]; exact q1, q2⟩
   ·exact .inr (.inl (q.app u))
   ·exact .inr (.inr q)
  ·rw [hu op hop] at h2; cases h2
 ·rcases Array.mem_append.1 hop with hop | hop
  ·exact h.gs op hop
  ·rw [hg op hop]; exact hgl
 ·rcases Array.mem_append.1 hop with hop | hop
  ·exact h.low op hop
  ·exact fun x hx => by rw [hu op hop] at hx; cases hx
theorem CrT.give (h : CrT Shun Sh Own Rd l0 j B t) (ho : ∀ k, AtWork l0 j k -> ∀ l, Own' k l -> Own k l \/ ∃ a, l = .cell a /\ B <= a.block) : CrT Shun Sh Own' Rd l0 j B t :=
 { h with
  own := fun k hk l hl => by
   rcases ho k hk l hl with q | ⟨a, rfl, ha⟩
   ·exact h.own k hk l q
   ·intro i x hx hl';obtain ⟨op, h1, h2⟩ := touch_of hx;have hlow := h.low op (Array.mem_of_getElem? h1) x h2
    rw [hl'] at hlow;exact absurd hlow (Nat.not_lt.2 ha) }
theorem notouch_spawn {x y : MemOp} {n : Nat} (hx : x.act = .go n) (hy : y.act = .start) : ∀ op ∈ #[x, y], op.act.touch? = none := by
 intro op hop;simp only [List.mem_toArray, List.mem_cons, List.not_mem_nil, or_false] at hop;rcases hop with rfl | rfl
 ·rw [hx]; rfl
 ·rw [hy]; rfl
theorem CrT.fork (h : CrT Shun Sh Own Rd l0 j B t) {x y : MemOp} (hx : x.g = 0 /\ x.act = .go (l0 + j)) (hy : y.g = l0 + j /\ y.act = .start) (h0 : Deaf t 0 = 0)
  (ho : ∀ k, AtWork l0 j k -> ∀ l, Own' k l -> Own k l) (hn : ∀ l, Own' (l0 + j) l -> Own 0 l) : CrT Shun Sh Own' Rd l0 (j + 1) B (t ++ #[x, y]) := by
 have hk : Deaf t (l0 + j) = 0 := Go.ConcN.Deaf_absent fun i op hi e => by have := h.gs op (Array.mem_of_getElem? hi); omega
 have hnt := notouch_spawn hx.2 hy.2
 have kn : ∀ {i : Nat}, Knows t 0 i -> Knows (t ++ #[x, y]) (l0 + j) i := fun q => fork_knows hx hy h0 hk q
 have a0 : AtWork l0 j 0 := .inl rfl
 have was : ∀ {k : Nat}, AtWork l0 (j + 1) k -> AtWork l0 j k \/ k = l0 + j := by
  intro k q;rcases q with q | ⟨q1, q2⟩
  ·exact .inl (.inl q)
  ·rcases Nat.lt_or_ge k (l0 + j) with q3 | q3
   ·exact .inl (.inr ⟨q1, q3⟩)
   ·exact .inr (by omega)
 have old : ∀ {i : Nat} {a : Touch}, touchAt (t ++ #[x, y]) i = some a -> touchAt t i = some a := fun ha => by
  rcases touchAt_cases ha with ⟨_, q⟩ | ⟨_, op, hop, _, q⟩
  ·exact q
  ·rw [hnt op hop] at q; cases q
 refine ⟨h.pos, fun said => ?_, fun i z op hi hz hs => ?_, fun k hk l hl => ?_, fun k hk l hl => ?_, fun i z hz hm => ?_, over_app h.over fun op hop => .inr (.inr (hnt op hop)), fun op hop => ?_, fun op hop => ?_⟩
 ·have e : t ++ #[x, y] = (t ++ #[x]) ++ #[y] := by apply Array.ext'; simp
  rw [e];refine noRace_append (g := l0 + j) (noRace_append (g := 0) (h.clean said) (fun op hop => by simp at hop; rw [hop]; exact hx.1) (fun i a _ op hop b hb _ => ?_)) (fun op hop => by simp at hop; rw [hop]; exact hy.1) (fun i a _ op hop b hb _ => ?_)
  ·rw [hnt op (by simp at hop ⊢; exact .inl hop)] at hb; cases hb
  ·rw [hnt op (by simp at hop ⊢; exact .inr hop)] at hb; cases hb
 ·rcases getElem?_append_cases hi with ⟨_, hi'⟩ | ⟨_, hop⟩
  ·refine (h.quiet i z op hi' hz hs).imp id fun q k hk => ?_
   rcases was hk with q' | rfl
   ·exact (q k q').app _
   ·exact kn (q 0 a0)
  ·rw [hnt op hop] at hz; cases hz
 ·rcases was hk with q | rfl
  ·exact (h.own k q l (ho k q l hl)).app fun op hop b hb => by rw [hnt op hop] at hb; cases hb
  ·exact fun i a ha e => kn (h.own 0 a0 l (hn l hl) i a (old ha) e)
 ·rcases was hk with q | rfl
  ·exact (h.rd k q l hl).app fun op hop b hb => by rw [hnt op hop] at hb; cases hb
  ·exact fun i a ha e hw => kn (h.rd 0 a0 l hl i a (old ha) e hw)
 ·rcases h.past i z (old hz) hm with ⟨g, q1, q2⟩ | q | q
  ·exact .inl ⟨g, by rw [g?_old (by unfold Trace.g? at q1; obtain ⟨z, hz, _⟩ := Option.map_eq_some_iff.1 q1; exact lt_size_of_getElem? hz)]; exact q1, q2⟩
  ·exact .inr (.inl (q.app _))
  ·exact .inr (.inr q)
 ·rcases Array.mem_append.1 hop with hop | hop
  ·have := h.gs op hop; omega
  ·simp only [List.mem_toArray, List.mem_cons, List.not_mem_nil, or_false] at hop;rcases hop with rfl | rfl
   ·rw [hx.1]; have := h.pos; omega
   ·rw [hy.1]; omega
 ·rcases Array.mem_append.1 hop with hop | hop
  ·exact h.low op hop
  ·simp only [List.mem_toArray, List.mem_cons, List.not_mem_nil, or_false] at hop;rcases hop with rfl | rfl
   ·exact fun z hz => by rw [hx.2] at hz; cases hz
   ·exact fun z hz => by rw [hy.2] at hz; cases hz
theorem CrT.begin (h : Gone Shun B t) (hp : 0 < l0) (hgs : ∀ op ∈ t, op.g < l0) (hS : ∀ l, Sh l -> l.isMemory = true /\ ¬ Shun l) (hO : ∀ l, Own 0 l -> l.isMemory = true /\ ¬ Shun l) (hR : ∀ l, Rd l -> l.isMemory = true /\ ¬ Shun l) : CrT Shun Sh Own Rd l0 0 B t := by
 have only : ∀ {k : Nat}, AtWork l0 0 k -> k = 0 := fun q => by rcases q with q | ⟨q1, q2⟩ <;> omega
 have kn : ∀ (l : Loc), l.isMemory = true /\ ¬ Shun l -> ∀ (i : Nat) (a : Touch), touchAt t i = some a -> a.loc = l -> Knows t 0 i := fun l hl i a ha e => by
  rcases h.known i a ha (by rw [e]; exact hl.1) with q | ⟨q, _⟩
  ·exact q
  ·exact absurd (e ▸ q) hl.2
 refine ⟨hp, h.clean, fun i x op hi hx hs => .inr fun k hk => ?_, fun k hk l hl i a ha e => ?_, fun k hk l hl i a ha e _ => ?_, fun i x hx hm => .inr (h.known i x hx hm), fun i g hg hne _ hc => h.over i g hg hne hc, fun op hop => by have := hgs op hop; omega, h.low⟩
 ·rw [only hk]; exact kn x.loc (hS _ hs) i x (by rw [touchAt_of hi]; exact hx) rfl
 ·obtain rfl := only hk; exact kn l (hO l hl) i a ha e
 ·obtain rfl := only hk; exact kn l (hR l hl) i a ha e
end
structure Rel2 (Wg : Nat) (t : Trace) (k r : Nat) : Prop where
 by_ : RelBy (stA Wg) t k r
 after : ∀ i, r < i -> t.g? i = some k -> ∀ x, touchAt t i = some x -> ShN Wg x.loc /\ x.kind = .atomic
section
variable {Shun Sh : Loc -> Prop} {Own : Nat -> Loc -> Prop} {Rd : Loc -> Prop} {l0 j B : Nat} {t u : Trace} {Wg k r : Nat}
theorem Rel2.appNot (h : Rel2 Wg t k r) (hu : ∀ op ∈ u, op.g ≠ k) : Rel2 Wg (t ++ u) k r := by
 refine ⟨h.by_.appNot hu, fun i hi hg x hx => ?_⟩
 rcases touchAt_cases hx with ⟨hlt, hx'⟩ | ⟨_, op, hop, h1, _⟩
 ·exact h.after i hi (by rw [<- g?_old (u := u) hlt]; exact hg) x hx'
 ·exact absurd (by simpa [Trace.g?, h1] using hg) (hu op hop)
theorem Rel2.book {d : Nat} (h : Rel2 Wg t k r) (hdk : Deaf t k = d) (fn : FuncId) (pos : String) {es : Array Event} (hes : ∀ e ∈ es, Bk Wg e)
  (hd : ∀ j e, es[j]? = some e -> (MemAct.ofEvent e).touch? = none \/ 0 < deafBehind d (es.extract 0 j)) : Rel2 Wg (t ++ MemOp.ofEvents k fn pos es) k r := by
 refine ⟨h.by_.book hdk fn pos hes hd, fun i hi hg x hx => ?_⟩
 rcases touchAt_cases hx with ⟨hlt, hx'⟩ | ⟨_, op, hop, _, h2⟩
 ·exact h.after i hi (by rw [<- g?_old (u := MemOp.ofEvents k fn pos es) hlt]; exact hg) x hx'
 ·obtain ⟨e, he, rfl⟩ := Go.Conc.mem_ofEvents hop;rcases hes e he with h1 | h1 | ⟨a, wr, rfl, ha⟩
  ·simp only [ofEvent_loc_mark h1] at h2; cases h2
  ·simp only [ofEvent_loc_mark h1] at h2; cases h2
  ·simp only [MemAct.ofEvent, MemAct.touch?, Option.some.injEq] at h2;subst h2;exact ⟨⟨a, rfl, ha⟩, rfl⟩
theorem Rel2.new (hd : Deaf t k = 0) (fn : FuncId) (pos : String) : Rel2 Wg (t ++ MemOp.ofEvents k fn pos #[Go.ConcR.mk (.releaseMerge (stA Wg))]) k t.size := by
 refine ⟨RelBy.new hd fn pos, fun i hi hg x hx => ?_⟩
 rcases touchAt_cases hx with ⟨hlt, hx'⟩ | ⟨_, op, hop, _, h2⟩
 ·omega
 ·obtain ⟨e, he, rfl⟩ := Go.Conc.mem_ofEvents hop;simp only [List.mem_toArray, List.mem_cons, List.not_mem_nil, or_false] at he;subst he;cases h2
theorem g?_lt {i g : Nat} (h : t.g? i = some g) : i < t.size := by
 unfold Trace.g? at h;obtain ⟨z, hz, _⟩ := Option.map_eq_some_iff.1 h;exact lt_size_of_getElem? hz
theorem CrT.join (h : CrT Shun Sh Own Rd l0 j B t) {q T0 : Nat} (hr : ∀ k, l0 <= k -> k < l0 + j -> ∃ r, (T0 <= r /\ Rel2 Wg t k r) /\ r < q) (hn : ∀ i, T0 <= i -> t.act? i ≠ some (.mark (.release (stA Wg)))) (hq : t.act? q = some (.mark (.acquire (stA Wg)))) (hg : t.g? q = some 0) (hh : t.heard q) (h0 : Deaf t 0 = 0) :
  Gone (fun l => Shun l \/ ShN Wg l) B t := by
 have hgt : ∀ {i g : Nat}, t.g? i = some g -> g < l0 + j := fun e => by
  unfold Trace.g? at e;obtain ⟨z, hz, rfl⟩ := Option.map_eq_some_iff.1 e;exact h.gs z (Array.mem_of_getElem? hz)
 have bef : ∀ {i k r : Nat}, t.g? i = some k -> T0 <= r /\ Rel2 Wg t k r -> r < q -> i <= r -> HappensBefore t i q := fun {i k r} hgi ⟨hT, hr⟩ hrq hir => by
  have edge : HappensBefore t r q := .single (.inr ⟨.marked hrq (.inr hr.by_.act) hq (fun k hk _ => hn k (by omega)), hr.by_.heard, hh⟩)
  rcases Nat.lt_or_ge i r with hlt | hge
  ·exact .trans (.single (.inl ⟨hlt, k, hgi, hr.by_.g⟩)) edge
  ·obtain rfl : i = r := by omega
   exact edge
 refine ⟨h.clean, fun i x hx hm => ?_, fun i g hgi hne hc => ?_, h0, h.low⟩
 ·rcases h.past i x hx hm with ⟨g, q1, q2⟩ | q' | q'
  ·obtain ⟨r, h1, h2⟩ := hr g q2 (hgt q1);rcases Nat.lt_or_ge r i with hlt | hge
   ·obtain ⟨z1, z2⟩ := h1.2.after i hlt q1 x hx;exact .inr ⟨.inr z1, z2⟩
   ·refine .inl ?_
    unfold Trace.g? at hg;obtain ⟨z, hz, hz0⟩ := Option.map_eq_some_iff.1 hg;exact ⟨q, z, hz, hz0, .inr (bef q1 h1 h2 hge)⟩
  ·exact .inl q'
  ·exact .inr ⟨.inl q'.1, q'.2⟩
 ·rcases Nat.lt_or_ge g l0 with hlt | hge
  ·exact h.over i g hgi hne hlt hc
  ·obtain ⟨r, h1, h2⟩ := hr g hge (hgt hgi);rcases Nat.lt_or_ge r i with hlt | hle
   ·exact absurd hc (h1.2.by_.after i hlt hgi)
   ·exact ⟨q, hg, bef hgi h1 h2 hle⟩
end
end Go.SX
