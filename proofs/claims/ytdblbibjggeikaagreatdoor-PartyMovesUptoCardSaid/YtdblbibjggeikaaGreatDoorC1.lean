/- SX, part 44: the invariant of a crowd; a step of number i's. -/
import Derived.Test.YtdblbibjggeikaaGreatDoorB9
set_option linter.unusedSectionVars false
set_option linter.unusedVariables false
set_option linter.unusedSimpArgs false
namespace Go.SX
open Go Go.Conc
open Go.ConcN (PermW RelBy ShN WgLive PayAt Has RW DWs AtR0 AtK1 AtD1 WSit CTag WD EvW OkW upd upd_same upd_ne sumTo sumTo_upd sumTo_upd_out le_sumTo AsideCell get_map_set get_map_set_same Deaf_absent Deaf_still Vc Vc_le Vc_upd cnt phi phi_mono phi_retag pend isOpen isW3 isFin OpenSt AllQuit others_uncounted bk_cell deafBehind_idle)
open Go.ConcR (KK WgAt stA smA rd wr mk Bk DC0 again_blocked bk_of_mute)
variable [Level]
def fw (b : Bool) : Nat := if b then 1 else 0
def Wsum (j : Nat) (D : Nat -> WD) (fl : Nat -> Bool) : Nat := sumTo j fun i => (D i).stage + fw (fl i)
abbrev Mu := Nat × (List Tr × Tr)
def Lt3 : Mu -> Mu -> Prop := Prod.Lex (· < ·) (Prod.Lex LR Tr.Sub)
theorem Lt3.wf : WellFounded Lt3 := (Prod.lex Nat.lt_wfRel (Prod.lex ⟨LR, LR.wf⟩ ⟨Tr.Sub, Tr.wf⟩)).wf
theorem Wsum_upd {j i : Nat} {D : Nat -> WD} {fl : Nat -> Bool} (x : WD) (b : Bool) (hi : i < j) : Wsum j (upd D i x) (upd fl i b) + ((D i).stage + fw (fl i)) = Wsum j D fl + (x.stage + fw b) := by
 have h := sumTo_upd (fun i => ((D i).stage, fl i)) (x.stage, b) (fun p => p.1 + fw p.2) hi
 have e : ∀ a, (fun p : Nat × Bool => p.1 + fw p.2) (upd (fun i => ((D i).stage, fl i)) i (x.stage, b) a) = (upd D i x a).stage + fw (upd fl i b a) := fun a => by
  by_cases ha : a = i
  ·subst ha; simp [upd_same]
  ·simp [upd_ne _ _ ha]
 have e2 : (sumTo j fun a => (upd D i x a).stage + fw (upd fl i b a)) = sumTo j fun a => (fun p : Nat × Bool => p.1 + fw p.2) (upd (fun i => ((D i).stage, fl i)) i (x.stage, b) a) := Go.ConcN.sumTo_congr fun a _ => (e a).symm
 unfold Wsum;rw [e2];exact h
namespace Cw
variable [Go.ConcR.Payload] (c : Cw)
def Inv (μ : Mu) (m : Machine) (t : Trace) : Prop :=
 ∃ (gs : Array Goroutine) (w : World) (sl : Option (Nat × Nat)) (j : Nat) (D : Nat -> WD) (ts : List Tr) (fl : Nat -> Bool) (q : Nat -> Nat) (ob : Nat -> Ow) (tag : CTag) (t0 : Tr) (d0 : Nat) (a : Goroutine) (st sm : Int),
  m = crowd gs w sl /\ gs[0]? = some a /\ c.MS tag j t0 d0 a w ob /\ c.Cm ob j gs w t D ts fl q d0 /\ WgAt c.L.tWg c.Wg w st sm /\ Go.ConcN.Mode j D tag st sm /\ μ = (phi c.n (Vc j D) tag + Wsum j D fl + sumTo c.l0 q, (ts, t0))
variable {c : Cw} {ob ob' : Nat -> Ow} {w w' : World} {i d d0 j k : Nat} {gs : Array Goroutine} {sl : Option (Nat × Nat)} {t : Trace} {D : Nat -> WD} {ts : List Tr} {fl : Nat -> Bool} {q : Nat -> Nat} {tag : CTag} {t0 : Tr} {a : Goroutine} {st sm : Int}
theorem MS.bound (h : c.MS tag j t0 d0 a w ob) : j + pend tag <= c.n := by
 cases h <;> simp only [pend] <;> (try simp) <;> omega
theorem MS.status (hO : c.Ok) (hl : c.Live w) (h : c.MS tag j t0 d0 a w ob) : (a.status = .running /\ tag ≠ .blk) \/ (a.status = .blocked /\ tag = .blk) := by
 cases h with
 | toAdd _ h _ => exact .inl ⟨h.running fun _ _ x => x.1, by simp⟩
 | kd _ _ h _ _ => exact .inl ⟨LibT.running (fun _ _ x => x.1) h, by simp⟩
 | a1 _ _ h _ _ => exact .inl ⟨LibT.running (fun _ _ x => x.1) h, by simp⟩
 | ke _ _ h _ _ => exact .inl ⟨LibT.running (fun _ _ x => x.1) h, by simp⟩
 | back F _ h hk _ =>
  refine .inl ⟨LibT.running (fun g w hF => ?_) h, by simp⟩
  obtain ⟨t, ht⟩ := (hk g hF _ (Grow.refl _)).tree hO.both;exact ht.running fun _ _ x => x.1
 | toGo _ h _ => exact .inl ⟨h.running fun _ _ x => x.1, by simp⟩
 | toWait h _ => exact .inl ⟨h.running fun _ _ x => x.1, by simp⟩
 | wkd _ _ h => exact .inl ⟨LibT.running (fun _ _ x => x.1) h, by simp⟩
 | anch A hA h =>
  refine .inl ⟨?_, by simp⟩
  cases t0 with
  | leaf => exact (hA _ _ (h w fun x => x) hl).1
  | node f => exact h.1
 | w1 _ _ h => exact .inl ⟨LibT.running (fun _ _ x => x.1) h, by simp⟩
 | w2 _ _ h => exact .inl ⟨LibT.running (fun _ _ x => x.1) h, by simp⟩
 | w3 h => exact .inl ⟨LibT.running (fun _ _ x => x.1) h, by simp⟩
 | blk h => exact .inr ⟨rfl, rfl⟩
 | w4 h => exact .inl ⟨LibT.running (fun _ _ x => x.1) h, by simp⟩
 | wke h => exact .inl ⟨LibT.running (fun _ _ x => x.1) h, by simp⟩
 | acq h => exact .inl ⟨LibT.running (fun _ _ x => x.1) h, by simp⟩
theorem MS.wokenBy (hO : c.Ok) (hB : c.Base ob w) (hl : c.Live w') (h : c.MS tag j t0 d0 a w ob) (he : c.Eff k ob ob' w w') (hne : k ≠ 0) (g g' : Goroutine) :
  ∃ tag' t0', c.MS tag' j t0' d0 (woken c.P g g' w' a) w' ob' /\ (tag' = tag \/ (tag = .blk /\ tag' = .w3)) /\ (mayWake c.P g = true -> g'.status = .running -> tag' ≠ .blk) := by
 have h' := h.eff hO hB he hne
 unfold Go.Conc.woken;split
 ·rcases h'.status hO hl with ⟨hs, hne⟩ | ⟨_, rfl⟩
  ·exact ⟨tag, t0, by rw [again_running _ (.inl hs)]; exact h', .inl rfl, fun _ _ => hne⟩
  ·cases h' with
   | blk hb =>
    rename_i g0;have h3 := hb w' fun x => x
    exact ⟨.w3, _, by rw [again_blocked h3.1 h3.2.1]; exact .w3 (t := .leaf) hb, .inr ⟨rfl, rfl⟩, fun _ _ => by simp⟩
 ·rename_i hc;exact ⟨tag, t0, h', .inl rfl, fun h1 h2 => absurd (by simp [h1, h2]) hc⟩
theorem Inv.worker (hO : c.Ok) (ha : gs[0]? = some a) (hms : c.MS tag j t0 d0 a w ob) (h : c.Cm ob j gs w t D ts fl q d0) (hi : i < j) {g g' : Goroutine} {es : Array Event} {fl' : Bool} {tr t' : Tr} {s' d' : Nat} {st' sm' : Int}
  (hg : gs[c.l0 + i]? = some g) (htr : ts[i]? = some tr) (hgo : stepG c.P false g w = .go g' w' es) (he : c.Eff (c.l0 + i) ob ob' w w') (hs' : c.WS i fl' t' s' d' g' w' ob') (hsay : c.Says ob' j w'.heap.size (c.l0 + i) es)
  (hd : deafBehind (D i).deaf es = d') (hrel : s' <= 6 -> ∃ r, c.T0 <= r /\ Rel2 c.Wg (t ++ MemOp.ofEvents (c.l0 + i) g.frame.fn g.frame.place es) (c.l0 + i) r) (hwg : WgAt c.L.tWg c.Wg w' st' sm')
  (hmode : ∀ tag', (tag' = tag \/ (tag = .blk /\ tag' = .w3)) -> (mayWake c.P g = true -> g'.status = .running -> tag' ≠ .blk) -> Go.ConcN.Mode j (upd D i ⟨s', 0, d'⟩) tag' st' sm')
  (hlt : (s' + fw fl' < (D i).stage + fw (fl i) /\ cnt ⟨s', 0, d'⟩ <= cnt (D i)) \/ (s' = (D i).stage /\ fl' = fl i /\ Tr.Sub t' tr)) :
  ∃ m₁ ops μ', runT c.P (crowd gs w sl) (c.l0 + i) = (.next m₁, ops) /\ Lt3 μ' (phi c.n (Vc j D) tag + Wsum j D fl + sumTo c.l0 q, (ts, t0)) /\ c.Inv μ' m₁ (t ++ ops) := by
 have hl0 := hO.l0
 obtain ⟨tag', t0', hms', htag, hwk⟩ := hms.wokenBy hO h.base ⟨_, _, hwg⟩ he (by omega) g g'
 have hi0 : (c.l0 + i == 0) = false := by simp; omega
 have hrun := runT_crowd_go (P := c.P) (sl := sl) (i := c.l0 + i) hg (by rw [hi0]; exact hgo)
 have hcm := h.stepK hO hi (fn := g.frame.fn) (pos := g.frame.place) (g := g) he hs' hsay.fine hsay.low hsay.norel hd hrel
 refine ⟨_, _, (phi c.n (Vc j (upd D i ⟨s', 0, d'⟩)) tag' + Wsum j (upd D i ⟨s', 0, d'⟩) (upd fl i fl') + sumTo c.l0 q, (ts.set i t', t0')), hrun, ?_, _, w', sl, j, _, _, _, q, ob', tag', t0', d0, woken c.P g g' w' a, st', sm', rfl, by rw [get_map_set _ _ _ _ (by omega), ha]; rfl, hms', hcm, hwg, hmode tag' htag hwk, rfl⟩
 have e1 := Vc_upd D (⟨s', 0, d'⟩ : WD) hi
 have e2 := Wsum_upd (D := D) (fl := fl) (⟨s', 0, d'⟩ : WD) fl' hi
 rw [phi_retag c.n _ htag];rcases hlt with ⟨h1, h2⟩ | ⟨h1, h2, h3⟩
 ·refine Prod.Lex.left _ _ ?_
  have := phi_mono c.n (v' := Vc j (upd D i ⟨s', 0, d'⟩)) (v := Vc j D) (by omega) tag
  simp only at e2
  omega
 ·have ec : cnt (⟨s', 0, d'⟩ : WD) = cnt (D i) := by simp only [cnt, h1]
  have ev : Vc j (upd D i ⟨s', 0, d'⟩) = Vc j D := by omega
  have ew : Wsum j (upd D i ⟨s', 0, d'⟩) (upd fl i fl') = Wsum j D fl := by rw [h2] at e2; simp only [h1] at e2; subst h2; simp only [h1]; omega
  rw [ev, ew];exact Prod.Lex.right _ (Prod.Lex.left _ _ (LR.set htr h3))
end Cw
end Go.SX
namespace Go.SX
open Go Go.Conc
open Go.ConcN (PermW RelBy ShN WgLive PayAt Has RW DWs AtR0 AtK1 AtD1 WSit CTag WD EvW OkW upd upd_same upd_ne sumTo sumTo_upd sumTo_upd_out le_sumTo AsideCell get_map_set get_map_set_same Deaf_absent Deaf_still Vc Vc_le Vc_upd cnt phi phi_mono phi_retag pend isOpen isW3 isFin OpenSt AllQuit others_uncounted bk_cell deafBehind_idle)
open Go.ConcR (KK WgAt stA smA rd wr mk Bk DC0 again_blocked bk_of_mute ofEvent_loc_mark)
variable [Level]
namespace Cw
variable [Go.ConcR.Payload]
variable {c : Cw} {ob ob' : Nat -> Ow} {w w' : World} {i d d0 j k : Nat} {gs : Array Goroutine} {sl : Option (Nat × Nat)} {t : Trace} {D : Nat -> WD} {ts : List Tr} {fl : Nat -> Bool} {q : Nat -> Nat} {tag : CTag} {t0 : Tr} {a : Goroutine} {st sm : Int}
theorem Says.book (hO : c.Ok) (hB : c.Base ob w) (hs : w'.heap.size = w.heap.size) {es : Array Event} (h : ∀ e ∈ es, Bk c.Wg e) : c.Says ob j w'.heap.size k es := by
 refine ⟨fun e he x hx => ?_, fun e he x hx => ?_, fun e he hl => ?_⟩
 ·rcases h e he with h1 | h1 | ⟨a, wr, rfl, ha⟩
  ·simp only [ofEvent_loc_mark h1] at hx; cases hx
  ·simp only [ofEvent_loc_mark h1] at hx; cases hx
  ·simp only [MemAct.ofEvent, MemAct.touch?, Option.some.injEq] at hx;subst hx;exact .inl ⟨⟨a, rfl, .inl ha⟩, by simp, by simp⟩
 ·rcases h e he with h1 | h1 | ⟨a, wr, rfl, ha⟩
  ·simp only [ofEvent_loc_mark h1] at hx; cases hx
  ·simp only [ofEvent_loc_mark h1] at hx; cases hx
  ·simp only [MemAct.ofEvent, MemAct.touch?, Option.some.injEq] at hx;subst hx
   show a.block < _
   rw [hs, ha];exact Nat.lt_of_lt_of_le hO.wg hB.s0
 ·rcases h e he with h1 | h1 | ⟨a, wr, rfl, _⟩
  ·rw [h1] at hl; cases hl
  ·rw [h1] at hl; cases hl
  ·cases hl
theorem Eff.of_aside (hO : c.Ok) (h : Aside c.Wg w w') (hl : c.Live w') : c.Eff k ob ob w w' :=
 ⟨Nat.le_of_eq h.size.symm, h.os, h.tape, h.output, fun b _ hb _ _ _ => h.block b hb, fun _ => hl, fun ⟨cs, q1, q2⟩ => ⟨cs, (h.block _ hO.cw).trans q1, q2⟩, fun o _ => cell_block (h.block _ hO.cw) o, fun ⟨cs, q1, q2⟩ => ⟨cs, (h.block _ hO.mw).trans q1, q2⟩, fun _ _ => rfl, fun b h1 h2 => by rw [h.size] at h2; omega⟩
theorem view_keep (hs : w'.heap.size = w.heap.size) (ho : w'.os = w.os) (ht : w'.tape = w.tape) (hu : w'.output = w.output) (h : ∀ b, b < w.heap.size -> gk ob w.heap.size k b ≠ .off -> w'.heap[b]? = w.heap[b]?) : Grow (view ob k w) (view ob k w') :=
 view_grow (Nat.le_of_eq hs.symm) ho ht hu fun b hb => ⟨by rw [hs], h b hb⟩
theorem view_aside (hO : c.Ok) (hB : c.Base ob w) (h : Aside c.Wg w w') (k : Nat) : Grow (view ob k w) (view ob k w') :=
 view_keep h.size h.os h.tape h.output fun b _ hk => h.block b fun e => hk (by rw [e]; exact (hB.gk_off hO k).1)
theorem Res.aside {x : Value} {s s' : Nat} (hO : c.Ok) (hB : c.Base ob w) (h : c.Res i x s w ob) (ha : Aside c.Wg w w') (hs : s <= 6) : c.Res i x s' w' ob := by
 obtain ⟨us, v, h1, h2, h3, h4, h5⟩ := h;exact ⟨us, v, h1, h2, h3, h4.trans (view_aside hO hB ha _), fun q hq _ => (cell_block (ha.block _ hO.cw) _).trans (h5 q hq (.inr hs))⟩
set_option maxHeartbeats 1600000 in
theorem Inv.step_worker (hO : c.Ok) (ha : gs[0]? = some a) (hms : c.MS tag j t0 d0 a w ob) (h : c.Cm ob j gs w t D ts fl q d0) (hwg : WgAt c.L.tWg c.Wg w st sm) (hmode : Go.ConcN.Mode j D tag st sm)
  (hi : i < j) {g : Goroutine} (hg : gs[c.l0 + i]? = some g) (hrun : g.status = .running) :
  ∃ m₁ ops μ', runT c.P (crowd gs w sl) (c.l0 + i) = (.next m₁, ops) /\ Lt3 μ' (phi c.n (Vc j D) tag + Wsum j D fl + sumTo c.l0 q, (ts, t0)) /\ c.Inv μ' m₁ (t ++ ops) := by
 obtain ⟨g₁, tr, hg₁, htr, hs⟩ := h.wk i hi;obtain rfl : g = g₁ := by rw [hg] at hg₁; exact smI hg₁
 generalize hst : (D i).stage = s at hs
 generalize hde : (D i).deaf = dd at hs
 generalize hfl : fl i = b at hs
 have hb := hms.bound
 have hVj := Vc_le j D
 have hez := hO.ez
 have hn := hO.n
 have hdk : Deaf t (c.l0 + i) = dd := by rw [h.deafW i hi, hde]
 have hB := h.base
 have hlive : c.Live w := ⟨_, _, hwg⟩
 have hCs : c.C < w.heap.size := Nat.lt_of_lt_of_le hO.cc hB.s0
 have same : ∀ dd', Go.ConcN.Mode j (upd D i ⟨s, 0, dd'⟩) tag st sm := fun dd' => by have := hmode.same (i := i) 0 dd'; rwa [hst] at this
 cases hs with
 | run hw hgr =>
  cases tr with
  | leaf =>
   obtain ⟨_, us, x, h1, h2, hR, hput⟩ := hw _ hgr;obtain ⟨g', m, hgo, hgoes⟩ := hput w hlive h.pay;have ok : PutOk w (putAt w c.C (c.ez * i) us) c.C (c.ez * i) us := putAt_ok
   have eW := ok.block c.Wg (Ne.symm hO.cw)
   have eM := ok.block c.mt hO.mc
   refine Inv.worker hO ha hms h hi hg htr hgo (ob' := ob) (fl' := false) (t' := Tr.ofNat m) (s' := 7) (d' := 0) (st' := st) (sm' := sm)
    ⟨Nat.le_of_eq ok.size.symm, ok.os, ok.tape, ok.output, fun b _ _ hb _ _ => ok.block b hb, fun ⟨st, sm, hl⟩ => ⟨st, sm, hl.of_block eW⟩, ok.pay _, fun o ho => ok.out o (by rw [h1]; exact ho i rfl), fun ⟨cs, q1, q2⟩ => ⟨cs, eM.trans q1, q2⟩, fun _ _ => rfl, fun b h1 h2 => by rw [ok.size] at h2; omega⟩
    (.kit (x := x) (.r0 hgoes) ⟨us, _, h1, h2, hR, ?_, fun p hp _ => ?_⟩) ⟨fun e he z hz => ?_, fun e he z hz => ?_, fun e he => ?_⟩ ?_ (fun h => by omega) (hwg.of_block eW) (fun _ ht _ => (same 0).retag ht) (.inl ⟨by rw [hst, hfl]; simp [fw], by simp [cnt, hst]⟩)
   ·exact view_keep ok.size ok.os ok.tape ok.output fun b _ hk => ok.block b fun e => hk (by rw [e]; exact (hB.gk_off hO _).2.1)
   ·refine ok.cell p (by rw [h1]; exact hp) ?_
    obtain ⟨cs, q1, q2⟩ := h.pay;have hlt : c.ez * i + p < cs.size := by
     rw [q2];have h3 : c.ez * (i + 1) <= c.ez * c.n := Nat.mul_le_mul_left _ (by omega)
     rw [Nat.mul_add, Nat.mul_one] at h3;have h4 := hO.sz
     rw [Nat.mul_comm c.n] at h4;omega
    exact ⟨cs[c.ez * i + p], by simp [World.cell?, q1, hlt]⟩
   ·obtain ⟨p, hp, rfl⟩ := putEs_mem he;simp only [MemAct.ofEvent, MemAct.touch?, Option.some.injEq] at hz;subst hz;refine .inr (.inl ⟨_, rfl, by rw [ok.size]; exact hCs, ?_⟩)
    have hdiv : (c.ez * i + p) / c.ez = i := by rw [Nat.mul_add_div hez, Nat.div_eq_of_lt hp, Nat.add_zero]
    unfold ow;simp only [if_true, hdiv, hi]
   ·obtain ⟨p, hp, rfl⟩ := putEs_mem he;simp only [MemAct.ofEvent, MemAct.touch?, Option.some.injEq] at hz;subst hz
    show c.C < _
    rw [ok.size];exact hCs
   ·obtain ⟨p, hp, rfl⟩ := putEs_mem he;simp
   ·rw [hde];exact deafBehind_idle (fun e he => by obtain ⟨p, hp, rfl⟩ := putEs_mem he; simp) 0
  | node f =>
   obtain ⟨g', w', es, t', ob', hgo, hsub, hw', he, hsay, hq, hW⟩ := way_step hO hB h.vol hw hgr j;exact Inv.worker hO ha hms h hi hg htr hgo he (.run hw' (Grow.refl _)) hsay (by rw [hde]; exact deafBehind_idle hq.dis 0) (fun h => by omega) (hwg.of_block hW) (fun _ ht _ => (same 0).retag ht) (.inr ⟨hst.symm, hfl.symm, hsub⟩)
 | kit hs hres =>
  rename_i m x;have hfb : fw (fl i) = 0 := by rw [hfl]; rfl
  have bookG : ∀ {g' : Goroutine} {w' : World} {es : Array Event} {s' m' dd' : Nat} {t' : Tr} {st' sm' : Int}, stepG c.P false g w = .go g' w' es -> Aside c.Wg w w' -> WgAt c.L.tWg c.Wg w' st' sm' -> (∀ e ∈ es, Bk c.Wg e) ->
    (∀ jx e, es[jx]? = some e -> (MemAct.ofEvent e).touch? = none \/ 0 < deafBehind dd (es.extract 0 jx)) -> WSit c.P c.L.tWg c.Wg c.C c.N no no 0 (c.ez * i + 1) x s' m' dd' g' w' -> deafBehind dd es = dd' -> s <= 6 ->
    (∀ tag', (tag' = tag \/ (tag = .blk /\ tag' = .w3)) -> (mayWake c.P g = true -> g'.status = .running -> tag' ≠ .blk) -> Go.ConcN.Mode j (upd D i ⟨s', 0, dd'⟩) tag' st' sm') -> ((s' < s /\ cnt ⟨s', 0, dd'⟩ <= cnt (D i)) \/ (s' = s /\ m' + 1 = m)) ->
    ∃ m₁ ops μ', runT c.P (crowd gs w sl) (c.l0 + i) = (.next m₁, ops) /\ Lt3 μ' (phi c.n (Vc j D) tag + Wsum j D fl + sumTo c.l0 q, (ts, t0)) /\ c.Inv μ' m₁ (t ++ ops) := by
   intro g' w' es s' m' dd' t' st' sm' hgo hAs hwg' hbk hd hs' hdd h6 hmode' hlt;refine Inv.worker hO ha hms h hi hg htr hgo (Eff.of_aside hO hAs ⟨_, _, hwg'⟩) (.kit hs' (hres.aside hO hB hAs h6)) (Says.book hO hB hAs.size hbk) (by rw [hde]; exact hdd)
    (fun _ => ?_) hwg' hmode' ?_
   ·obtain ⟨r, hT, hr⟩ := h.rel i hi (by rw [hst]; exact h6)
    exact ⟨r, hT, hr.book hdk _ _ hbk hd⟩
   ·rcases hlt with ⟨h1, h2⟩ | ⟨h1, h2⟩
    ·exact .inl ⟨by rw [hst, hfb]; exact h1, h2⟩
    ·refine .inr ⟨by rw [hst]; exact h1, hfl.symm, ?_⟩
     rw [<- h2];exact Tr.ofNat_sub _
  have book : ∀ {g' : Goroutine} {w' : World} {es : Array Event} {s' m' dd' : Nat} {st' sm' : Int}, stepG c.P false g w = .go g' w' es -> Aside c.Wg w w' -> WgAt c.L.tWg c.Wg w' st' sm' -> (∀ e ∈ es, Bk c.Wg e) ->
    (∀ jx e, es[jx]? = some e -> (MemAct.ofEvent e).touch? = none \/ 0 < deafBehind dd (es.extract 0 jx)) -> WSit c.P c.L.tWg c.Wg c.C c.N no no 0 (c.ez * i + 1) x s' m' dd' g' w' -> deafBehind dd es = dd' -> s <= 6 ->
    Go.ConcN.Mode j (upd D i ⟨s', 0, dd'⟩) tag st' sm' -> ((s' < s /\ cnt ⟨s', 0, dd'⟩ <= cnt (D i)) \/ (s' = s /\ m' + 1 = m)) ->
    ∃ m₁ ops μ', runT c.P (crowd gs w sl) (c.l0 + i) = (.next m₁, ops) /\ Lt3 μ' (phi c.n (Vc j D) tag + Wsum j D fl + sumTo c.l0 q, (ts, t0)) /\ c.Inv μ' m₁ (t ++ ops) :=
   fun hgo hAs hwg' hbk hd hs' hdd h6 hmode' hlt => bookG (t' := .leaf) hgo hAs hwg' hbk hd hs' hdd h6 (fun _ ht _ => hmode'.retag ht) hlt
  have idle : ∀ {g' : Goroutine} {m' : Nat}, stepG c.P false g w = .go g' w #[] -> WSit c.P c.L.tWg c.Wg c.C c.N no no 0 (c.ez * i + 1) x s m' dd g' w -> m' + 1 = m -> s <= 6 ->
    ∃ m₁ ops μ', runT c.P (crowd gs w sl) (c.l0 + i) = (.next m₁, ops) /\ Lt3 μ' (phi c.n (Vc j D) tag + Wsum j D fl + sumTo c.l0 q, (ts, t0)) /\ c.Inv μ' m₁ (t ++ ops) :=
   fun hgo hs' hm h6 => book hgo (.refl c.Wg w) hwg (by simp) (by simp) hs' rfl h6 (same dd) (.inr ⟨rfl, hm⟩)
  cases hs with
  | r0 hk =>
   rcases Go.Conc.Goes.cases hk with hstop | ⟨m', rfl, hstep⟩
   ·obtain ⟨_, hhas, g', hgo, m₂, hk'⟩ := hstop w (RW.refl w);have hel : ∀ e ∈ #[Go.ConcR.mk (.releaseMerge (stA c.Wg))], e = Go.ConcR.mk (.releaseMerge (stA c.Wg)) := by simp
    obtain ⟨us, v, r1, r2, r3, r4, r5⟩ := hres;refine Inv.worker hO ha hms h hi hg htr hgo (ob' := ob) (fl' := false) (t' := Tr.ofNat m₂) (s' := 6) (d' := 0) (Eff.of_aside hO (.refl c.Wg w) hlive) (.kit (x := x) (.k1 hk') ⟨us, v, r1, r2, r3, r4, fun p hp _ => ?_⟩)
     ⟨fun e he z hz => ?_, fun e he z hz => ?_, fun e he => ?_⟩ (by rw [hde]; rfl) (fun _ => ⟨t.size, h.tl, Rel2.new hdk _ _⟩) hwg (fun _ ht _ => (hmode.counted hi (by rw [hst]; omega) (.inl rfl) _ _).retag ht) (.inl ⟨by rw [hst, hfb]; simp [fw], by simp [cnt, hst]⟩)
    ·rcases Nat.eq_zero_or_pos p with rfl | hpp
     ·rw [r2]; exact hhas
     ·exact r5 p hp (.inl hpp)
    ·rw [hel e he] at hz; cases hz
    ·rw [hel e he] at hz; cases hz
    ·rw [hel e he]; simp [Go.ConcR.mk]
   ·obtain ⟨g', w', es, hgo, ⟨hac, hev⟩, hg'⟩ := hstep w (RW.refl w);simp only [Nat.add_sub_cancel] at hac;have eW := hac.block c.Wg (Ne.symm hO.cw)
    have eM := hac.block c.mt hO.mc
    have htouch : ∀ e ∈ es, ∀ z, (MemAct.ofEvent e).touch? = some z -> ShN c.Wg z.loc /\ z.kind ≠ .plain /\ z.kind ≠ .said := fun e he z hz => by
     rcases ((hev e he).1 0 "").2 z hz with q | q | ⟨q, _⟩
     ·exact q
     ·exact q.elim
     ·exact q.elim
    obtain ⟨us, v, r1, r2, r3, r4, r5⟩ := hres;refine Inv.worker hO ha hms h hi hg htr hgo (ob' := ob) (fl' := false) (t' := Tr.ofNat m') (s' := 7) (d' := 0) (st' := st) (sm' := sm)
     ⟨Nat.le_of_eq hac.size.symm, hac.os, hac.tape, hac.output, fun b _ _ hb _ _ => hac.block b hb, fun ⟨st, sm, hl⟩ => ⟨st, sm, hl.of_block eW⟩, hac.pay, fun o ho => hac.cells o (by have := ho i rfl; omega), fun ⟨cs, q1, q2⟩ => ⟨cs, eM.trans q1, q2⟩, fun _ _ => rfl, fun b h1 h2 => by rw [hac.size] at h2; omega⟩
     (.kit (x := x) (.r0 hg') ⟨us, v, r1, r2, r3, r4.trans ?_, fun p hp hpp => ?_⟩) ⟨fun e he z hz => ?_, fun e he z hz => ?_, fun e he => (hev e he).2.2.2⟩ ?_ (fun h => by omega) (hwg.of_block eW) (fun _ ht _ => (same 0).retag ht) (.inr ⟨hst.symm, hfl.symm, Tr.ofNat_sub _⟩)
    ·exact view_keep hac.size hac.os hac.tape hac.output fun b _ hk => hac.block b fun e => hk (by rw [e]; exact (hB.gk_off hO _).2.1)
    ·have hp0 : 0 < p := by omega
     exact (hac.cells _ (by omega)).trans (r5 p hp (.inl hp0))
    ·obtain ⟨⟨a', q1, q2⟩, q3, q4⟩ := htouch e he z hz;exact .inl ⟨⟨a', q1, .inl q2⟩, q3, fun e => absurd e q4⟩
    ·obtain ⟨⟨a', q1, q2⟩, _, _⟩ := htouch e he z hz;rw [q1]
     show a'.block < _
     rw [q2, hac.size];exact Nat.lt_of_lt_of_le hO.wg hB.s0
    ·rw [hde]; exact deafBehind_idle (fun e he => ⟨(hev e he).2.1, (hev e he).2.2.1⟩) 0
  | k1 hk =>
   rcases Go.Conc.Goes.cases hk with hstop | ⟨m', rfl, hstep⟩
   ·obtain ⟨_, g', hgo, m₂, hk'⟩ := hstop w (RW.refl w);exact book hgo (.refl c.Wg w) hwg (by intro e he; simp at he; subst he; exact .inl rfl) (by intro jx e he; exact .inl (by have := Array.mem_of_getElem? he; simp at this; subst this; rfl)) (.d1 hk') rfl (by omega)
     (hmode.counted hi (by omega) (.inr rfl) _ _) (.inl ⟨by omega, by simp [cnt, hst]⟩)
   ·obtain ⟨g', w', es, hgo, ⟨rfl, rfl⟩, hg'⟩ := hstep w (RW.refl w);exact idle hgo (.k1 hg') rfl (by omega)
  | d1 hk =>
   rcases Go.Conc.Goes.cases hk with hstop | ⟨m', rfl, hstep⟩
   ·obtain ⟨_, hall⟩ := hstop w (RW.refl w);have hc1 : cnt (D i) = 1 := by simp [cnt, hst]
    have hV1 : 1 <= Vc j D := by have := le_sumTo (f := fun x => cnt (D x)) hi; simp only [Vc]; omega
    have bk2 : ∀ e ∈ #[rd (stA c.Wg), wr (stA c.Wg)], Bk c.Wg e := by intro e he; simp at he; rcases he with rfl | rfl <;> exact bk_cell _ _ rfl
    have df2 : ∀ jx e, (#[rd (stA c.Wg), wr (stA c.Wg)] : Array Event)[jx]? = some e -> (MemAct.ofEvent e).touch? = none \/ 0 < deafBehind 1 ((#[rd (stA c.Wg), wr (stA c.Wg)] : Array Event).extract 0 jx) := by
     intro jx e he
     match jx, he with
     | 0, _ => exact .inr (by simp [deafBehind])
     | 1, _ => exact .inr (by simp [deafBehind, rd])
     | jx + 2, he => simp at he
    have hq0 : ∀ q, cnt (⟨1, q, 1⟩ : WD) = 0 := fun _ => rfl
    have opq : OpenSt j D -> OpenSt j (upd D i ⟨1, 0, 1⟩) := fun h a ha => by
     by_cases e : a = i
     ·subst e; rw [upd_same]; simp
     ·rw [upd_ne D _ e]; exact h a ha
    have hVu := Vc_upd D (⟨1, 0, 1⟩ : WD) hi
    have hq00 := hq0 0
    cases hmode with
    | opn h1 h2 h3 =>
     obtain ⟨v, hv⟩ : ∃ v, Vc j D + pend tag = v + 1 := ⟨Vc j D + pend tag - 1, by omega⟩
     rw [hv] at hwg;have hw1 : WgAt c.L.tWg c.Wg w (((v : Nat) + 1) * KK + ((0 : Nat) : Int)) 0 := by simpa using hwg
     obtain ⟨g', hgo, _, hq⟩ := hall v 0 (by omega) (by omega) hw1
     obtain ⟨q, hq⟩ := hq (by omega)
     have hv' : Vc j (upd D i ⟨1, 0, 1⟩) + pend tag = v := by omega
     refine book hgo (aside_setCell w (stA c.Wg) _) (hwg.setSt _) bk2 df2 (.quit hq) rfl (by omega) ?_ (.inl ⟨by omega, by simp [cnt]⟩)
     have e : ((v : Nat) : Int) * KK + ((0 : Nat) : Int) = ((Vc j (upd D i ⟨1, 0, 1⟩) + pend tag : Nat) : Int) * KK := by rw [hv']; simp
     rw [e];exact .opn h1 (opq h2) (fun vs ev => by have := h3 vs ev; omega)
    | reg h1 h2 h3 =>
     obtain ⟨v, hv⟩ : ∃ v, Vc j D = v + 1 := ⟨Vc j D - 1, by omega⟩
     rw [hv] at hwg;have hw1 : WgAt c.L.tWg c.Wg w (((v : Nat) + 1) * KK + ((1 : Nat) : Int)) 0 := by simpa using hwg
     obtain ⟨g', hgo, hl, hq⟩ := hall v 1 (by omega) (by omega) hw1
     by_cases hv0 : v = 0
     ·subst hv0;obtain ⟨m₂, hk'⟩ := hl ⟨rfl, rfl⟩;refine book hgo (aside_setCell w (stA c.Wg) _) (hwg.setSt _) bk2 df2 (.d2 hk') rfl (by omega) ?_ (.inl ⟨by omega, by simp [cnt]⟩)
      have hoth : ∀ a, a < j -> a ≠ i -> (D a).stage = 1 := fun a ha e => by
       have c0 := others_uncounted hi hv hc1 a ha e
       have := h2 a ha
       simp only [cnt] at c0;split at c0 <;> omega
      have := Go.ConcN.Mode.last (j := j) (D := upd D i ⟨4, 0, 1⟩) (tag := tag) i h1 hi (by rw [upd_same]; simp) (fun a ha e => by rw [upd_ne D _ e]; exact hoth a ha e)
      rw [upd_same] at this;simpa using this
     ·obtain ⟨q, hq⟩ := hq (by omega)
      have hv' : Vc j (upd D i ⟨1, 0, 1⟩) = v := by omega
      refine book hgo (aside_setCell w (stA c.Wg) _) (hwg.setSt _) bk2 df2 (.quit hq) rfl (by omega) ?_ (.inl ⟨by omega, by simp [cnt]⟩)
      have e : ((v : Nat) : Int) * KK + ((1 : Nat) : Int) = ((Vc j (upd D i ⟨1, 0, 1⟩) : Nat) : Int) * KK + 1 := by rw [hv']; simp
      rw [e];exact .reg h1 (opq h2) (by omega)
    | last L _ h2 h3 h4 =>
     by_cases e : i = L
     ·subst e; omega
     ·have := h4 i hi e; omega
    | sema h2 => have := h2 i hi; omega
    | fin _ h2 => have := h2 i hi; omega
   ·obtain ⟨g', w', es, hgo, ⟨rfl, rfl⟩, hg'⟩ := hstep w (RW.refl w);exact idle hgo (.d1 hg') rfl (by omega)
  | d2 hk =>
   rcases Go.Conc.Goes.cases hk with hstop | ⟨m', rfl, hstep⟩
   ·obtain ⟨_, hx⟩ := hstop w (RW.refl w);obtain ⟨hW3, hoth, rfl, rfl⟩ := hmode.isLast hi (by omega)
    simp only [hst] at hwg;obtain ⟨g', hgo, m₂, hk'⟩ := hx (by simpa using hwg)
    refine book hgo (.refl c.Wg w) hwg (by intro e he; simp at he; subst he; exact bk_cell _ _ rfl) (by intro jx e he; match jx, he with | 0, _ => exact .inr (by simp [deafBehind]) | jx + 1, he => simp at he) (.d3 hk') rfl (by omega) ?_ (.inl ⟨by omega, by simp [cnt]⟩)
    have := Go.ConcN.Mode.last (j := j) (D := upd D i ⟨3, 0, 1⟩) (tag := tag) i hW3 hi (by rw [upd_same]; simp) (fun a ha e => by rw [upd_ne D _ e]; exact hoth a ha e)
    rw [upd_same] at this;simpa using this
   ·obtain ⟨g', w', es, hgo, ⟨rfl, rfl⟩, hg'⟩ := hstep w (RW.refl w);exact idle hgo (.d2 hg') rfl (by omega)
  | d3 hk =>
   rcases Go.Conc.Goes.cases hk with hstop | ⟨m', rfl, hstep⟩
   ·obtain ⟨_, hx⟩ := hstop w (RW.refl w);obtain ⟨hW3, hoth, rfl, rfl⟩ := hmode.isLast hi (by omega)
    simp only [hst] at hwg;obtain ⟨g', hgo, m₂, hk'⟩ := hx (by simpa using hwg)
    refine book hgo (aside_setCell w (stA c.Wg) _) (hwg.setSt 0) (by intro e he; simp at he; subst he; exact bk_cell _ _ rfl) (by intro jx e he; match jx, he with | 0, _ => exact .inr (by simp [deafBehind]) | jx + 1, he => simp at he) (.d4 hk') rfl (by omega) ?_ (.inl ⟨by omega, by simp [cnt]⟩)
    have := Go.ConcN.Mode.last (j := j) (D := upd D i ⟨2, 0, 1⟩) (tag := tag) i hW3 hi (by rw [upd_same]; simp) (fun a ha e => by rw [upd_ne D _ e]; exact hoth a ha e)
    rw [upd_same] at this;simpa using this
   ·obtain ⟨g', w', es, hgo, ⟨rfl, rfl⟩, hg'⟩ := hstep w (RW.refl w);exact idle hgo (.d3 hg') rfl (by omega)
  | d4 hk =>
   rcases Go.Conc.Goes.cases hk with hstop | ⟨m', rfl, hstep⟩
   ·obtain ⟨_, hmw, hx⟩ := hstop w (RW.refl w);obtain ⟨hW3, hoth, rfl, rfl⟩ := hmode.isLast hi (by omega)
    simp only [hst] at hwg;obtain ⟨g', hgo, q, hq⟩ := hx (by simpa using hwg)
    have hrun' : g'.status = .running := by
     cases q with
     | zero => exact absurd hq.2 (by decide)
     | succ q => exact hq.elim (fun x => absurd x.2 (by decide)) (fun x => x.1)
    refine bookG (t' := .leaf) hgo (aside_setCell w (smA c.Wg) _) (hwg.setSm 1) (es := semEvents (smA c.Wg)) ?_ ?_ (.quit hq) (by simp [deafBehind, semEvents]) (by omega) ?_ (.inl ⟨by omega, by simp [cnt]⟩)
    ·intro e he;simp [semEvents] at he
     rcases he with rfl | rfl | rfl | rfl
     ·exact .inl rfl
     ·exact bk_cell _ _ rfl
     ·exact bk_cell _ _ rfl
     ·exact .inr (.inl rfl)
    ·intro jx e he
     match jx, he with
     | 0, he => simp [semEvents] at he; subst he; exact .inl rfl
     | 1, _ => exact .inr (by simp [deafBehind, semEvents])
     | 2, _ => exact .inr (by simp [deafBehind, semEvents])
     | 3, he => simp [semEvents] at he; subst he; exact .inl rfl
     | jx + 4, he => simp [semEvents] at he
    ·intro tag' ht hw;have hnb := hw hmw hrun'
     have e3 : tag' = .w3 := by
      rcases ht with rfl | ⟨_, rfl⟩
      ·cases tag' <;> first | rfl | exact hW3.elim | exact absurd rfl hnb
      ·rfl
     subst e3;simp only [if_true];exact .sema fun a ha => by
      by_cases e : a = i
      ·subst e; rw [upd_same]
      ·rw [upd_ne D _ e]; exact hoth a ha e
   ·obtain ⟨g', w', es, hgo, ⟨rfl, rfl⟩, hg'⟩ := hstep w (RW.refl w);exact idle hgo (.d4 hg') rfl (by omega)
  | quit hk =>
   cases m with
   | zero => rw [hk.1] at hrun; cases hrun
   | succ q' =>
    rcases hk with ⟨hf, _⟩ | ⟨_, g', es, hmute, hstep, hq⟩
    ·rw [hf] at hrun; cases hrun
    ·have hbk : ∀ e ∈ es, Bk c.Wg e := fun e he => bk_of_mute (hmute e he)
     have hno : ∀ jx e, es[jx]? = some e -> (MemAct.ofEvent e).touch? = none \/ 0 < deafBehind dd (es.extract 0 jx) := fun jx e he => .inl (touch_mute (hmute e (Array.mem_of_getElem? he)))
     exact book (hstep w) (.refl c.Wg w) hwg hbk hno (.quit hq) rfl (by omega) (same _) (.inr ⟨rfl, rfl⟩)
end Cw
end Go.SX
