/- SX, part 46: goroutine 0's steps in a crowd. -/
import Derived.Test.YtdblbibjggeikaaGreatDoorC1
set_option linter.unusedSectionVars false
set_option linter.unusedVariables false
set_option linter.unusedSimpArgs false
namespace Go.SX
open Go Go.Conc
open Go.ConcN (ShN WgLive PayAt CTag WD upd upd_same upd_ne sumTo sumTo_upd sumTo_upd_out get_map_set get_map_set_same Vc Vc_le Vc_upd cnt phi pend isOpen isW3 isFin OpenSt AllQuit bk_cell deafBehind_idle allQuit_of)
open Go.ConcR (KK WgAt stA smA rd wr Bk ofEvent_loc_mark)
variable [Level]
namespace Cw
variable [Go.ConcR.Payload]
variable {c : Cw} {ob ob' : Nat -> Ow} {w w' : World} {i d d0 j k : Nat} {gs : Array Goroutine} {sl : Option (Nat × Nat)} {t : Trace} {D : Nat -> WD} {ts : List Tr} {fl : Nat -> Bool} {q : Nat -> Nat} {tag tag' : CTag} {t0 t0' : Tr} {a : Goroutine} {st sm : Int}
theorem Inv.main (hO : c.Ok) (ha : gs[0]? = some a) (h : c.Cm ob j gs w t D ts fl q d0) {a' : Goroutine} {es : Array Event} {st' sm' : Int}
  (hgo : stepG c.P true a w = .go a' w' es) (he : c.Eff 0 ob ob' w w') (hms' : c.MS tag' j t0' (deafBehind d0 es) a' w' ob') (hsay : c.Says ob' j w'.heap.size 0 es) (hwg : WgAt c.L.tWg c.Wg w' st' sm') (hmode : Go.ConcN.Mode j D tag' st' sm')
  (hlt : phi c.n (Vc j D) tag' < phi c.n (Vc j D) tag \/ (phi c.n (Vc j D) tag' = phi c.n (Vc j D) tag /\ Tr.Sub t0' t0)) :
  ∃ m₁ ops μ', runT c.P (crowd gs w sl) 0 = (.next m₁, ops) /\ Lt3 μ' (phi c.n (Vc j D) tag + Wsum j D fl + sumTo c.l0 q, (ts, t0)) /\ c.Inv μ' m₁ (t ++ ops) := by
 have hl0 := hO.l0
 have hrun := runT_crowd_go (P := c.P) (sl := sl) (i := 0) ha (by simpa using hgo)
 refine ⟨_, _, (phi c.n (Vc j D) tag' + Wsum j D fl + sumTo c.l0 q, (ts, t0')), hrun, ?_, _, w', sl, j, D, ts, fl, q, ob', tag', t0', deafBehind d0 es, a', st', sm', rfl, get_map_set_same _ _ _ (by rw [h.size]; omega), hms', h.step0 hO he hsay.fine hsay.low hsay.norel, hwg, hmode, rfl⟩
 rcases hlt with h1 | ⟨h1, h2⟩
 ·exact Prod.Lex.left _ _ (by omega)
 ·rw [h1]; exact Prod.Lex.right _ (Prod.Lex.right _ h2)
theorem Inv.book0 (hO : c.Ok) (ha : gs[0]? = some a) (h : c.Cm ob j gs w t D ts fl q d0) {a' : Goroutine} {es : Array Event} {st' sm' : Int}
  (hgo : stepG c.P true a w = .go a' w' es) (hAs : Aside c.Wg w w') (hms' : c.MS tag' j t0' (deafBehind d0 es) a' w' ob) (hbk : ∀ e ∈ es, Bk c.Wg e) (hwg : WgAt c.L.tWg c.Wg w' st' sm') (hmode : Go.ConcN.Mode j D tag' st' sm')
  (hlt : phi c.n (Vc j D) tag' < phi c.n (Vc j D) tag) :
  ∃ m₁ ops μ', runT c.P (crowd gs w sl) 0 = (.next m₁, ops) /\ Lt3 μ' (phi c.n (Vc j D) tag + Wsum j D fl + sumTo c.l0 q, (ts, t0)) /\ c.Inv μ' m₁ (t ++ ops) :=
 Inv.main hO ha h hgo (Eff.of_aside hO hAs ⟨_, _, hwg⟩) hms' (Says.book hO h.base hAs.size hbk) hwg hmode (.inl hlt)
theorem Says.said (hO : c.Ok) (hB : c.Base ob w) {es : Array Event} (h : SaidOn c.Wg es) : c.Says ob j w.heap.size 0 es /\ Quite es := by
 have key : ∀ e ∈ es, ∀ x, (MemAct.ofEvent e).touch? = some x -> ∃ a, x.loc = .cell a /\ a.block = c.Wg /\ x.kind = .said := fun e he x hx => by
  obtain ⟨a, hl, ha⟩ := h e he;obtain ⟨loc, wr, sy⟩ := e;simp only at hl
  rcases hl with rfl | rfl
  ·simp only [MemAct.ofEvent, MemAct.touch?, Option.some.injEq] at hx;subst hx;exact ⟨a, rfl, ha, rfl⟩
  ·simp only [MemAct.ofEvent, MemAct.touch?, Option.some.injEq] at hx;subst hx;exact ⟨a, rfl, ha, rfl⟩
 refine ⟨⟨fun e he x hx => ?_, fun e he x hx => ?_, fun e he hl => ?_⟩, ⟨fun e he => ?_⟩⟩
 ·obtain ⟨a, h1, h2, h3⟩ := key e he x hx;exact .inl ⟨⟨a, h1, .inl h2⟩, by rw [h3]; simp, fun _ => rfl⟩
 ·obtain ⟨a, h1, h2, _⟩ := key e he x hx;rw [h1]
  show a.block < _
  rw [h2];exact Nat.lt_of_lt_of_le hO.wg hB.s0
 ·obtain ⟨a, h1 | h1, _⟩ := h e he <;> rw [h1] at hl <;> cases hl
 ·obtain ⟨a, h1 | h1, _⟩ := h e he <;> rw [h1] <;> simp
theorem Eff.same (ob : Nat -> Ow) (w : World) : c.Eff k ob ob w w :=
 ⟨Nat.le_refl _, rfl, rfl, rfl, fun _ _ _ _ _ _ => rfl, id, id, fun _ _ => rfl, id, fun _ _ => rfl, fun b h1 h2 => by omega⟩
theorem Inv.lib (hO : c.Ok) (ha : gs[0]? = some a) (h : c.Cm ob j gs w t D ts fl q d0) (hwg : WgAt c.L.tWg c.Wg w st sm) (hmode : Go.ConcN.Mode j D tag st sm) {Stop : Goroutine -> World -> Prop} {f : Int -> World -> Tr}
  (hl : c.GL Stop (.node f) a w) (hms : ∀ a' t', c.GL Stop t' a' w -> c.MS tag j t' d0 a' w ob) :
  ∃ m₁ ops μ', runT c.P (crowd gs w sl) 0 = (.next m₁, ops) /\ Lt3 μ' (phi c.n (Vc j D) tag + Wsum j D fl + sumTo c.l0 q, (ts, .node f)) /\ c.Inv μ' m₁ (t ++ ops) := by
 obtain ⟨_, g', es, h1, h2⟩ := hl;obtain ⟨h3, h4⟩ := h1 w fun x => x
 obtain ⟨s1, s2⟩ := Says.said (j := j) hO h.base h4;refine Inv.main hO ha h h3 (Eff.same ob w) (tag' := tag) (t0' := f 0 w) ?_ s1 hwg hmode (.inr ⟨rfl, .mk f 0 w⟩)
 rw [deafBehind_idle s2.dis];exact hms _ _ (h2 w fun x => x)
theorem Inv.way (hO : c.Ok) (ha : gs[0]? = some a) (h : c.Cm ob j gs w t D ts fl q d0) (hwg : WgAt c.L.tWg c.Wg w st sm) (hmode : Go.ConcN.Mode j D tag st sm) {Stop : Goroutine -> World -> Prop} {f : Int -> World -> Tr} {v : World}
  (hl : WayT c.P true Stop (.node f) a v) (hg : Grow v (view ob 0 w)) (hms : ∀ a' t' w' ob', WayT c.P true Stop t' a' (view ob' 0 w') -> c.MS tag j t' d0 a' w' ob') :
  ∃ m₁ ops μ', runT c.P (crowd gs w sl) 0 = (.next m₁, ops) /\ Lt3 μ' (phi c.n (Vc j D) tag + Wsum j D fl + sumTo c.l0 q, (ts, .node f)) /\ c.Inv μ' m₁ (t ++ ops) := by
 obtain ⟨g', w', es, t', ob', hgo, hsub, hw', he, hsay, hq, hW⟩ := way_step hO h.base h.vol hl hg j;refine Inv.main hO ha h hgo he (tag' := tag) (t0' := t') ?_ hsay (hwg.of_block hW) hmode (.inr ⟨rfl, hsub⟩)
 rw [deafBehind_idle hq.dis];exact hms _ _ _ _ hw'
def Finis (c : Cw) (m : Machine) (t : Trace) : Prop :=
 ∃ (gs : Array Goroutine) (w : World) (sl : Option (Nat × Nat)) (q : Nat -> Nat) (ob : Nat -> Ow) (a : Goroutine),
  m = crowd gs w sl /\ gs[0]? = some a /\ LibW c.P c.L.tWg c.Wg (Was c.Kg) a w /\ Leavers c.P t gs q /\ Gone (fun l => c.Shun l \/ ShN c.Wg l) w.heap.size t /\ (∀ op ∈ t, op.g < gs.size) /\ c.Base ob w /\ c.Pay w /\ c.VolOk w /\ c.Live w /\ ∀ i, i < c.n -> ∃ x, c.Res i x 1 w ob
theorem quit_of {i s d : Nat} {b : Bool} {tr : Tr} {g : Goroutine} (h : c.WS i b tr s d g w ob) (hs : s = 1) : ∃ q, QuitsD c.P q d g /\ ∃ x, c.Res i x 1 w ob := by
 cases h with
 | run _ _ => cases hs
 | kit h1 h2 =>
  rename_i m x;subst hs;exact ⟨m, h1.quits rfl, x, h2⟩
theorem Cm.finish (hO : c.Ok) (ha : gs[0]? = some a) (h : c.Cm ob c.n gs w t D ts fl q 0) (hall : AllQuit c.n D) (hwg : WgAt c.L.tWg c.Wg w st sm) {a' : Goroutine} (hgo : stepG c.P true a w = .go a' w #[Go.ConcR.mk (.acquire (stA c.Wg))]) (hk : LibW c.P c.L.tWg c.Wg (Was c.Kg) a' w) :
  ∃ m₁ ops, runT c.P (crowd gs w sl) 0 = (.next m₁, ops) /\ c.Finis m₁ (t ++ ops) := by
 classical
 have hl0 := hO.l0
 have hrun := runT_crowd_go (P := c.P) (sl := sl) (i := 0) ha (by simpa using hgo)
 have hel : ∀ e ∈ #[Go.ConcR.mk (.acquire (stA c.Wg))], e = Go.ConcR.mk (.acquire (stA c.Wg)) := by simp
 have hsay : c.Says ob c.n w.heap.size 0 #[Go.ConcR.mk (.acquire (stA c.Wg))] := ⟨fun e he x hx => (by rw [hel e he] at hx; cases hx), fun e he x hx => (by rw [hel e he] at hx; cases hx), fun e he => (by rw [hel e he]; simp [Go.ConcR.mk])⟩
 have h' := h.step0 hO (g := a) (g' := a') (fn := a.frame.fn) (pos := a.frame.place) (Eff.same ob w) hsay.fine hsay.low hsay.norel
 have e1 : MemOp.ofEvents 0 a.frame.fn a.frame.place #[Go.ConcR.mk (.acquire (stA c.Wg))] = #[{ g := 0, fn := a.frame.fn, pos := a.frame.place, act := .mark (.acquire (stA c.Wg)) }] := by rw [ofEvents_eq]; simp [Go.ConcR.ofEvent_mk]
 have hd0 : deafBehind 0 #[Go.ConcR.mk (.acquire (stA c.Wg))] = 0 := rfl
 rw [hd0] at h';have hy : (t ++ MemOp.ofEvents 0 a.frame.fn a.frame.place #[Go.ConcR.mk (.acquire (stA c.Wg))])[t.size]? = some { g := 0, fn := a.frame.fn, pos := a.frame.place, act := .mark (.acquire (stA c.Wg)) } := by rw [e1]; simp
 have hgone := h'.ct.join (q := t.size) (T0 := c.T0) (Wg := c.Wg) (fun k k1 k2 => by
   obtain ⟨r, hT, hr⟩ := h.rel (k - c.l0) (by omega) (by rw [hall _ (by omega)]; omega)
   rw [show c.l0 + (k - c.l0) = k by omega] at hr
   exact ⟨r, ⟨hT, hr.appNot fun op hop => by rw [ofEvents_g op hop]; omega⟩, g?_lt hr.by_.g⟩)
  h'.norel (by simp [Trace.act?, hy]) (by simp [Trace.g?, hy]) ⟨0, by simp [Trace.g?, hy], by rw [deaf_old (Nat.le_refl _)]; exact h.deaf0⟩ h'.deaf0
 have hq : ∀ i, ∃ r, ∀ g, 0 < i -> ((gs.map (woken c.P a a' w)).setIfInBounds 0 a')[i]? = some g -> QuitsD c.P r (Deaf (t ++ MemOp.ofEvents 0 a.frame.fn a.frame.place #[Go.ConcR.mk (.acquire (stA c.Wg))]) i) g := fun i => by
  rcases Nat.lt_or_ge i c.l0 with hlt | hge
  ·exact ⟨q i, fun g hp hg => h'.old i g hp hlt hg⟩
  ·rcases Nat.lt_or_ge i (c.l0 + c.n) with hlt | hge'
   ·obtain ⟨g, tr, h1, h2, h3⟩ := h'.wk (i - c.l0) (by omega)
    obtain ⟨r, hr, _⟩ := quit_of h3 (hall _ (by omega))
    refine ⟨r, fun g' _ hg' => ?_⟩
    rw [show c.l0 + (i - c.l0) = i by omega] at h1
    rw [h1] at hg';cases hg'
    have := h'.deafW (i - c.l0) (by omega)
    rw [show c.l0 + (i - c.l0) = i by omega] at this
    rw [this];exact hr
   ·refine ⟨0, fun g _ hg => ?_⟩
    have := (Array.getElem?_eq_some_iff.1 hg).1
    rw [h'.size] at this;omega
 refine ⟨_, _, hrun, _, w, sl, fun i => Classical.choose (hq i), ob, a', rfl, get_map_set_same _ _ _ (by rw [h.size]; omega), hk, ⟨fun i g hp hg => Classical.choose_spec (hq i) g hp hg, fun i hi => ?_⟩, hgone, ?_, h'.base, h'.pay, h'.vol, ⟨_, _, hwg⟩, fun i hi => ?_⟩
 ·rw [h'.size] at hi;exact Go.ConcN.Deaf_absent fun x op hx e => by have := h'.ct.gs op (Array.mem_of_getElem? hx); omega
 ·rw [h'.size]; exact h'.ct.gs
 ·obtain ⟨g, tr, h1, h2, h3⟩ := h'.wk i hi;exact (quit_of h3 (hall _ hi)).elim fun _ x => x.2
set_option maxHeartbeats 1600000 in
theorem Inv.step_main (hO : c.Ok) (ha : gs[0]? = some a) (hms : c.MS tag j t0 d0 a w ob) (h : c.Cm ob j gs w t D ts fl q d0) (hwg : WgAt c.L.tWg c.Wg w st sm) (hmode : Go.ConcN.Mode j D tag st sm) (hrun : a.status = .running)
  (hHd : ∀ i, i < c.n -> ∀ g, c.Hd i g -> ∀ v, Grow c.u0 v -> Way0 c.P true (c.AtAdd i) g v) (hHn : ∀ g, c.Hd c.n g -> ∀ v, Grow c.u0 v -> Way0 c.P true c.AtWait g v) :
  (∃ μ', Lt3 μ' (phi c.n (Vc j D) tag + Wsum j D fl + sumTo c.l0 q, (ts, t0)) /\ c.Inv μ' (crowd gs w sl) t) \/
  (∃ m₁ ops μ', runT c.P (crowd gs w sl) 0 = (.next m₁, ops) /\ Lt3 μ' (phi c.n (Vc j D) tag + Wsum j D fl + sumTo c.l0 q, (ts, t0)) /\ c.Inv μ' m₁ (t ++ ops)) \/
  (∃ m₁ ops, runT c.P (crowd gs w sl) 0 = (.next m₁, ops) /\ c.Finis m₁ (t ++ ops)) := by
 have hVj := Vc_le j D
 have hl0 := hO.l0
 have hn := hO.n
 have hb := hms.bound
 have hlive : c.Live w := ⟨_, _, hwg⟩
 have turn : ∀ {tag' : CTag} {t0' : Tr}, c.MS tag' j t0' d0 a w ob -> isOpen tag -> isOpen tag' -> pend tag' = pend tag -> (∀ vs, tag' ≠ .w2 vs) -> phi c.n (Vc j D) tag' < phi c.n (Vc j D) tag ->
   (∃ μ', Lt3 μ' (phi c.n (Vc j D) tag + Wsum j D fl + sumTo c.l0 q, (ts, t0)) /\ c.Inv μ' (crowd gs w sl) t) := fun {tag' t0'} hms' o1 o2 hp hw2 hlt =>
  ⟨(phi c.n (Vc j D) tag' + Wsum j D fl + sumTo c.l0 q, (ts, t0')), Prod.Lex.left _ _ (by omega), gs, w, sl, j, D, ts, fl, q, ob, tag', t0', d0, a, st, sm, rfl, ha, hms', h, hwg, hmode.reopen o1 o2 hp (fun vs e => absurd e (hw2 vs)), rfl⟩
 have bk1 : ∀ e : Event, Bk c.Wg e -> ∀ e' ∈ #[e], Bk c.Wg e' := fun e he e' he' => by simp at he'; subst he'; exact he
 have bk2 : ∀ e ∈ #[rd (stA c.Wg), wr (stA c.Wg)], Bk c.Wg e := by intro e he; simp at he; rcases he with rfl | rfl <;> exact bk_cell _ _ rfl
 cases hms with
 | toAdd hj hw hg =>
  cases t0 with
  | leaf =>
   obtain ⟨_, Fin, h1, h2⟩ := hw _ hg;obtain ⟨t', ht⟩ := (h1 w hlive).tree;exact .inl (turn (.kd Fin hj ht h2 (Grow.refl _)) trivial trivial rfl (by simp) (by simp only [phi]; omega))
  | node f => exact .inr (.inl (Inv.way hO ha h hwg hmode hw hg fun a' t' w' ob' x => .toAdd hj x (Grow.refl _)))
 | kd Fin hj hl hk hg =>
  cases t0 with
  | leaf =>
   obtain ⟨_, a', hgo, hk'⟩ := hl w fun x => x
   obtain ⟨t', ht⟩ := hk'.tree;exact .inr (.inl (Inv.book0 hO ha h hgo (.refl c.Wg w) (.a1 Fin hj ht hk hg) (bk1 _ (.inl rfl)) hwg (hmode.reopen trivial trivial rfl (by simp)) (by simp only [phi]; omega)))
  | node f => exact .inr (.inl (Inv.lib hO ha h hwg hmode hl fun a' t' x => .kd Fin hj x hk hg))
 | a1 Fin hj hl hk hg =>
  cases t0 with
  | leaf =>
   obtain ⟨_, hall⟩ := hl w fun x => x
   obtain ⟨ho, rfl, rfl, _⟩ := hmode.open_inv trivial;obtain ⟨a', hgo, hk'⟩ := hall (Vc j D) (by omega) (by simpa [pend] using hwg)
   obtain ⟨t', ht⟩ := hk'.tree;have hAs : Aside c.Wg w (w.setCell (stA c.Wg) (.int .u64 ((Vc j D + 1) * KK))) := aside_setCell w (stA c.Wg) _
   refine .inr (.inl (Inv.book0 hO ha h hgo hAs (.ke Fin hj ht hk (hg.trans (view_aside hO h.base hAs 0))) bk2 (hwg.setSt _) ?_ (by simp only [phi]; omega)))
   have e : (((Vc j D : Nat) : Int) + 1) * KK = ((Vc j D + pend (.sp (c.n - j) 3) : Nat) : Int) * KK := by simp [pend]
   rw [e];exact .opn trivial ho (by simp)
  | node f => exact .inr (.inl (Inv.lib hO ha h hwg hmode hl fun a' t' x => .a1 Fin hj x hk hg))
 | ke Fin hj hl hk hg =>
  cases t0 with
  | leaf =>
   obtain ⟨_, a', hgo, hk'⟩ := hl w fun x => x
   obtain ⟨t', ht⟩ := hk'.tree;exact .inr (.inl (Inv.book0 hO ha h hgo (.refl c.Wg w) (.back Fin hj ht hk hg) (bk1 _ (.inr (.inl rfl))) hwg (hmode.reopen trivial trivial rfl (by simp)) (by simp only [phi]; omega)))
  | node f => exact .inr (.inl (Inv.lib hO ha h hwg hmode hl fun a' t' x => .ke Fin hj x hk hg))
 | back Fin hj hl hk hg =>
  cases t0 with
  | leaf =>
   obtain ⟨t', ht⟩ := (hk a (hl w fun x => x) _ hg).tree hO.both
   exact .inl (turn (.toGo hj ht (Grow.refl _)) trivial trivial rfl (by simp) (by simp only [phi]; omega))
  | node f => exact .inr (.inl (Inv.lib hO ha h hwg hmode hl fun a' t' x => .back Fin hj x hk hg))
 | toGo hj hw hg =>
  cases t0 with
  | leaf =>
   obtain ⟨_, a', child, hsp, hwk, hnx⟩ := hw _ hg;obtain ⟨tc, htc⟩ := hwk.tree hO.both;have hrun' := runT_crowd_spawn (P := c.P) (sl := sl) (i := 0) ha (by simpa using hsp w)
   rw [h.size] at hrun';have hnone : ∀ b, b < w.heap.size -> ob b ≠ .of (c.l0 + j) := fun b hb e => by rcases h.who b hb _ e with x | ⟨_, x⟩ <;> omega
   have hcm' := h.spawn hO (a' := a') (child := child) (tr := tc) (x := { g := 0, fn := a.frame.fn, pos := a.frame.place, act := .go (c.l0 + j) }) (y := { g := c.l0 + j, fn := child.frame.fn, pos := a.frame.place, act := .start }) ⟨rfl, rfl⟩ ⟨rfl, rfl⟩
    (.run htc (by rw [view_child (by omega) hnone]; exact Grow.refl _))
   obtain ⟨ho, rfl, rfl, _⟩ := hmode.open_inv trivial;have eV : Vc (j + 1) (upd D j ⟨7, 0, 0⟩) = Vc j D + 1 := by
    simp only [Vc, sumTo, upd_same];rw [sumTo_upd_out D _ cnt (Nat.le_refl _)]; rfl
   have eS : Wsum (j + 1) (upd D j ⟨7, 0, 0⟩) (upd fl j true) = Wsum j D fl + 8 := by
    unfold Wsum;simp only [sumTo, upd_same];rw [Go.ConcN.sumTo_congr (g := fun i => (D i).stage + fw (fl i)) fun i hi => by rw [upd_ne D _ (by omega), upd_ne fl _ (by omega)]]
    rfl
   have ho' : OpenSt (j + 1) (upd D j ⟨7, 0, 0⟩) := fun i hi => by
    by_cases e : i = j
    ·subst e; rw [upd_same]; simp
    ·rw [upd_ne D _ e]; exact ho i (by omega)
   have ha' : ((gs.setIfInBounds 0 a').push child)[0]? = some a' := by
    rw [Array.getElem?_push_lt (show 0 < (gs.setIfInBounds 0 a').size by simp [h.size]; omega), <- Array.getElem?_eq_getElem, Array.getElem?_setIfInBounds_self_of_lt (by rw [h.size]; omega)]
   have hu0 : Grow c.u0 (view (handed ob (c.l0 + j)) 0 w) := hcm'.base.grow hO 0
   have hst : ((Vc j D + pend (.sp (c.n - j) 1) : Nat) : Int) * KK = ((Vc (j + 1) (upd D j ⟨7, 0, 0⟩) + pend (.sp (c.n - (j + 1)) 6) : Nat) : Int) * KK := by rw [eV]; simp [pend]
   have hnext : ∃ t', c.MS (.sp (c.n - (j + 1)) 6) (j + 1) t' 0 a' w (handed ob (c.l0 + j)) := by
    rcases Nat.lt_or_ge (j + 1) c.n with hlt | hge
    ·obtain ⟨t', ht⟩ := (hHd (j + 1) hlt a' hnx _ hu0).tree hO.both;exact ⟨t', .toAdd hlt ht (Grow.refl _)⟩
    ·obtain e : j + 1 = c.n := by omega
     rw [e] at hnx ⊢;rw [Nat.sub_self];obtain ⟨t', ht⟩ := (hHn a' hnx _ hu0).tree hO.both;exact ⟨t', .toWait ht (Grow.refl _)⟩
   obtain ⟨t', hms'⟩ := hnext;refine .inr (.inl ⟨_, _, (phi c.n (Vc (j + 1) (upd D j ⟨7, 0, 0⟩)) (.sp (c.n - (j + 1)) 6) + Wsum (j + 1) (upd D j ⟨7, 0, 0⟩) (upd fl j true) + sumTo c.l0 q, (ts ++ [tc], t')), hrun', Prod.Lex.left _ _ ?_,
    _, w, sl, j + 1, _, _, _, q, handed ob (c.l0 + j), .sp (c.n - (j + 1)) 6, t', 0, a', _, _, rfl, ha', hms', ?_, hwg, ?_, rfl⟩)
   ·rw [eS];simp only [phi];omega
   ·have et : ∀ x y : MemOp, ((t ++ ((#[] : Trace).push x).push y)) = t ++ #[x, y] := fun x y => by simp
    simpa [MemOp.ofEvents] using hcm'
   ·rw [hst];exact .opn trivial ho' (by simp)
  | node f => exact .inr (.inl (Inv.way hO ha h hwg hmode hw hg fun a' t' w' ob' x => .toGo hj x (Grow.refl _)))
 | toWait hw hg =>
  cases t0 with
  | leaf =>
   obtain ⟨_, A, hA, h1⟩ := hw _ hg;obtain ⟨t', ht⟩ := (h1 w hlive).tree;exact .inl (turn (.wkd A hA ht) trivial trivial rfl (by simp) (by simp only [phi]; omega))
  | node f => exact .inr (.inl (Inv.way hO ha h hwg hmode hw hg fun a' t' w' ob' x => .toWait x (Grow.refl _)))
 | wkd A hA hl =>
  cases t0 with
  | leaf =>
   obtain ⟨_, a', hgo, hk'⟩ := hl w fun x => x
   obtain ⟨t', ht⟩ := hk'.tree;exact .inr (.inl (Inv.book0 hO ha h hgo (.refl c.Wg w) (.anch A hA ht) (bk1 _ (.inl rfl)) hwg (hmode.reopen trivial trivial rfl (by simp)) (by simp only [phi]; omega)))
  | node f => exact .inr (.inl (Inv.lib hO ha h hwg hmode hl fun a' t' x => .wkd A hA x))
 | anch A hA hl =>
  cases t0 with
  | leaf =>
   obtain ⟨_, hk'⟩ := hA _ _ (hl w fun x => x) hlive
   obtain ⟨t', ht⟩ := hk'.tree;exact .inl (turn (.w1 A hA ht) trivial trivial rfl (by simp) (by simp only [phi]; omega))
  | node f => exact .inr (.inl (Inv.lib hO ha h hwg hmode hl fun a' t' x => .anch A hA x))
 | w1 A hA hl =>
  cases t0 with
  | leaf =>
   obtain ⟨_, hall⟩ := hl w fun x => x
   obtain ⟨ho, rfl, rfl, _⟩ := hmode.open_inv trivial;obtain ⟨a', hgo, h0, hne⟩ := hall (Vc c.n D) (by omega) (by simpa [pend] using hwg)
   by_cases hv : Vc c.n D = 0
   ·obtain ⟨t', ht⟩ := (h0 hv).tree;refine .inr (.inl (Inv.book0 hO ha h hgo (.refl c.Wg w) (tag' := .ke) (.wke ht) (bk1 _ (bk_cell _ _ rfl)) hwg ?_ (by simp only [phi]; omega)))
    have e : ((Vc c.n D + pend .w1 : Nat) : Int) * KK = 0 := by rw [hv]; simp [pend]
    rw [e];exact .fin trivial (allQuit_of ho hv)
   ·obtain ⟨t', ht⟩ := (hne hv).tree;exact .inr (.inl (Inv.book0 hO ha h hgo (.refl c.Wg w) (tag' := .w2 (Vc c.n D)) (.w2 A hA ht) (bk1 _ (bk_cell _ _ rfl)) hwg (hmode.reopen trivial trivial rfl (fun vs e => by cases e; omega)) (by simp only [phi]; omega)))
  | node f => exact .inr (.inl (Inv.lib hO ha h hwg hmode hl fun a' t' x => .w1 A hA x))
 | w2 A hA hl =>
  rename_i vs;cases t0 with
  | leaf =>
   obtain ⟨_, hall⟩ := hl w fun x => x
   obtain ⟨ho, rfl, rfl, hvs⟩ := hmode.open_inv trivial;obtain ⟨hv1, hv2⟩ := hvs vs rfl;obtain ⟨hit, miss⟩ := hall (Vc c.n D) (by omega) (by simpa [pend] using hwg)
   by_cases hv : Vc c.n D = vs
   ·obtain ⟨a', hgo, hk'⟩ := hit hv;obtain ⟨t', ht⟩ := hk'.tree;refine .inr (.inl (Inv.book0 hO ha h hgo (aside_setCell w (stA c.Wg) _) (tag' := .w3) (.w3 ht) bk2 (hwg.setSt _) (.reg trivial ho (by omega)) (by simp only [phi]; omega)))
   ·obtain ⟨a', hgo, hk'⟩ := miss hv;obtain ⟨t', ht⟩ := hk'.tree;refine .inr (.inl (Inv.book0 hO ha h hgo (.refl c.Wg w) (tag' := .anch) (.anch A hA ht) (bk1 _ (bk_cell _ _ rfl)) hwg (hmode.reopen trivial trivial rfl (by simp)) (by simp only [phi]; omega)))
  | node f => exact .inr (.inl (Inv.lib hO ha h hwg hmode hl fun a' t' x => .w2 A hA x))
 | w3 hl =>
  rename_i t3;cases t3 with
  | leaf =>
   obtain ⟨_, hoff, hblk, hup⟩ := hl w fun x => x
   have block : sm = 0 -> (∀ tag', tag' = .blk -> Go.ConcN.Mode c.n D tag' st sm) -> (∃ m₁ ops μ', runT c.P (crowd gs w sl) 0 = (.next m₁, ops) /\ Lt3 μ' (phi c.n (Vc c.n D) .w3 + Wsum c.n D fl + sumTo c.l0 q, (ts, Tr.ext .leaf)) /\ c.Inv μ' m₁ (t ++ ops)) := fun e hm => by
    subst e;refine Inv.main hO ha h (hblk ⟨st, hwg⟩) (Eff.same ob w) (tag' := .blk) (t0' := .leaf) (.blk hl) ⟨by simp, by simp, by simp⟩ hwg (hm _ rfl) (.inr ⟨rfl, .mk (fun _ _ => .leaf) 0 w⟩)
   cases hmode with
   | opn h1 _ _ => exact h1.elim
   | reg h1 h2 h3 => exact .inr (.inl (block rfl fun tag' e => by subst e; exact .reg trivial h2 h3))
   | last L h1 h2 h3 h4 => exact .inr (.inl (block rfl fun tag' e => by subst e; exact .last L trivial h2 h3 h4))
   | sema h2 =>
    obtain ⟨a', hgo, hk'⟩ := hup hwg;obtain ⟨t', ht⟩ := hk'.tree;refine .inr (.inl (Inv.book0 hO ha h hgo (aside_setCell w (smA c.Wg) _) (tag' := .w4) (.w4 ht) ?_ (hwg.setSm 0) (.fin trivial h2) (by simp only [phi]; omega)))
    intro e he;simp [semEvents] at he
    rcases he with rfl | rfl | rfl | rfl
    ·exact .inl rfl
    ·exact bk_cell _ _ rfl
    ·exact bk_cell _ _ rfl
    ·exact .inr (.inl rfl)
   | fin h1 _ => exact h1.elim
  | node f =>
   obtain ⟨_, g', es, h1, h2⟩ := hl;obtain ⟨h3, h4⟩ := h1 w fun x => x
   obtain ⟨s1, s2⟩ := Says.said (j := c.n) hO h.base h4;refine .inr (.inl (Inv.main hO ha h h3 (Eff.same ob w) (tag' := .w3) (t0' := (f 0 w).ext) ?_ s1 hwg hmode (.inr ⟨rfl, Tr.ext_sub f 0 w⟩)))
   rw [deafBehind_idle s2.dis];exact .w3 (h2 w fun x => x)
 | blk _ => cases hrun
 | w4 hl =>
  cases t0 with
  | leaf =>
   obtain ⟨_, hx⟩ := hl w fun x => x
   obtain ⟨h2, rfl, rfl⟩ := hmode.fin_inv trivial;obtain ⟨a', hgo, hk'⟩ := hx hwg;obtain ⟨t', ht⟩ := hk'.tree;exact .inr (.inl (Inv.book0 hO ha h hgo (.refl c.Wg w) (tag' := .ke) (.wke ht) (bk1 _ (bk_cell _ _ rfl)) hwg (.fin trivial h2) (by simp only [phi]; omega)))
  | node f => exact .inr (.inl (Inv.lib hO ha h hwg hmode hl fun a' t' x => .w4 x))
 | wke hl =>
  cases t0 with
  | leaf =>
   obtain ⟨_, a', hgo, hk'⟩ := hl w fun x => x
   obtain ⟨h2, rfl, rfl⟩ := hmode.fin_inv trivial;obtain ⟨t', ht⟩ := hk'.tree;exact .inr (.inl (Inv.book0 hO ha h hgo (.refl c.Wg w) (tag' := .acq) (.acq ht) (bk1 _ (.inr (.inl rfl))) hwg (.fin trivial h2) (by simp only [phi]; omega)))
  | node f => exact .inr (.inl (Inv.lib hO ha h hwg hmode hl fun a' t' x => .wke x))
 | acq hl =>
  cases t0 with
  | leaf =>
   obtain ⟨_, a', hgo, hk'⟩ := hl w fun x => x
   obtain ⟨hall, rfl, rfl⟩ := hmode.fin_inv trivial;exact .inr (.inr (Cm.finish hO ha h hall hwg hgo hk'))
  | node f => exact .inr (.inl (Inv.lib hO ha h hwg hmode hl fun a' t' x => .acq x))
end Cw
end Go.SX
namespace Go.SX
open Go Go.Conc
open Go.ConcN (ShN WgLive PayAt CTag WD upd upd_same upd_ne sumTo sumTo_upd sumTo_upd_out get_map_set get_map_set_same Vc Vc_le Vc_upd cnt phi pend isOpen isW3 isFin OpenSt AllQuit bk_cell deafBehind_idle allQuit_of exists_counted)
open Go.ConcR (KK WgAt stA smA rd wr Bk ofEvent_loc_mark)
variable [Level]
namespace Cw
variable [Go.ConcR.Payload]
variable {c : Cw} {ob ob' : Nat -> Ow} {w w' : World} {i d d0 j k : Nat} {gs : Array Goroutine} {sl : Option (Nat × Nat)} {t : Trace} {D : Nat -> WD} {ts : List Tr} {fl : Nat -> Bool} {q : Nat -> Nat} {tag tag' : CTag} {t0 t0' : Tr} {a : Goroutine} {st sm : Int}
theorem WS.running {b : Bool} {tr : Tr} {s : Nat} {g : Goroutine} (h : c.WS i b tr s d g w ob) (hs : s ≠ 1) : g.status = .running := by
 cases h with
 | run h1 _ => exact h1.running fun _ _ x => x.1
 | kit h1 _ => exact h1.running_of hs
theorem Inv.someone (hO : c.Ok) (ha : gs[0]? = some a) (hms : c.MS tag j t0 d0 a w ob) (h : c.Cm ob j gs w t D ts fl q d0) (hwg : WgAt c.L.tWg c.Wg w st sm) (hmode : Go.ConcN.Mode j D tag st sm) : ∃ (i : Nat) (g : Goroutine), gs[i]? = some g /\ g.status = .running := by
 rcases hms.status hO ⟨_, _, hwg⟩ with ⟨hs, _⟩ | ⟨_, rfl⟩
 ·exact ⟨0, a, ha, hs⟩
 ·cases hmode with
  | opn h1 _ _ => exact h1.elim
  | reg _ _ h3 =>
   obtain ⟨i, hi, h5⟩ := exists_counted h3;obtain ⟨g, _, hg, _, hs⟩ := h.wk i hi;exact ⟨c.l0 + i, g, hg, hs.running (by omega)⟩
  | last L _ h2 h3 _ =>
   obtain ⟨g, _, hg, _, hs⟩ := h.wk L h2;exact ⟨c.l0 + L, g, hg, hs.running (by omega)⟩
  | fin h1 _ => exact h1.elim
theorem Inv.awake (hO : c.Ok) (ha : gs[0]? = some a) (hms : c.MS tag j t0 d0 a w ob) (h : c.Cm ob j gs w t D ts fl q d0) (hwg : WgAt c.L.tWg c.Wg w st sm) : ∀ g ∈ gs, Go.Conc.awake g := by
 intro g hg tm;obtain ⟨i, hi⟩ := Array.mem_iff_getElem?.1 hg;rcases Nat.eq_zero_or_pos i with rfl | hp
 ·rw [ha] at hi; cases hi;rcases hms.status hO ⟨_, _, hwg⟩ with ⟨hs, _⟩ | ⟨hs, _⟩ <;> rw [hs] <;> simp
 ·rcases Nat.lt_or_ge i c.l0 with hlt | hge
  ·rcases (h.old i g hp hlt hi).status with hs | hs <;> rw [hs] <;> simp
  ·have hlt : i < c.l0 + j := by have := (Array.getElem?_eq_some_iff.1 hi).1; rw [h.size] at this; exact this
   obtain ⟨g', _, hg', _, hs⟩ := h.wk (i - c.l0) (by omega)
   rw [show c.l0 + (i - c.l0) = i by omega] at hg'
   rw [hi] at hg'; cases hg';rcases hs.status with hs | hs <;> rw [hs] <;> simp
theorem Inv.run (hO : c.Ok) (hHd : ∀ i, i < c.n -> ∀ g, c.Hd i g -> ∀ v, Grow c.u0 v -> Way0 c.P true (c.AtAdd i) g v) (hHn : ∀ g, c.Hd c.n g -> ∀ v, Grow c.u0 v -> Way0 c.P true c.AtWait g v)
  {Post : Value -> World -> Prop} (hK : ∀ m t, c.Finis m t -> Ends c.P Post m t) : ∀ (μ : Mu) (m : Machine) (t : Trace), c.Inv μ m t ->
   Ends c.P Post m t /\ ∀ g, m.gs[0]? = some g -> g.status = .running -> ∃ m₁ ops, runT c.P m 0 = (.next m₁, ops) /\ Ends c.P Post m₁ (t ++ ops) := by
 intro μ
 induction μ using Lt3.wf.induction with
 | _ μ ih =>
  have main : ∀ (m : Machine) (t : Trace), c.Inv μ m t -> ∀ g, m.gs[0]? = some g -> g.status = .running -> ∃ m₁ ops, runT c.P m 0 = (.next m₁, ops) /\ Ends c.P Post m₁ (t ++ ops) := by
   rintro m t ⟨gs, w, sl, j, D, ts, fl, q, ob, tag, t0, d0, a, st, sm, rfl, ha, hms, h, hwg, hmode, rfl⟩ g hg hrun
   obtain rfl : a = g := by
    have : gs[0]? = some g := hg
    rw [ha] at this;exact smI this
   rcases Inv.step_main (sl := sl) hO ha hms h hwg hmode hrun hHd hHn with ⟨μ', hlt, hI⟩ | ⟨m₁, ops, μ', h1, hlt, hI⟩ | ⟨m₁, ops, h1, hF⟩
   ·exact (ih μ' hlt _ _ hI).2 a hg hrun
   ·exact ⟨m₁, ops, h1, (ih μ' hlt _ _ hI).1⟩
   ·exact ⟨m₁, ops, h1, hK _ _ hF⟩
  intro m t hInv;refine ⟨?_, main m t hInv⟩
  obtain ⟨gs, w, sl, j, D, ts, fl, q, ob, tag, t0, d0, a, st, sm, rfl, ha, hms, h, hwg, hmode, hμ⟩ := hInv;obtain ⟨i, g, d, sl', hg, hrun, hst⟩ := crowd_pick (P := c.P) (w := w) (sl := sl) (Inv.awake hO ha hms h hwg) (Inv.someone hO ha hms h hwg hmode);have hB := h.base
  have hms' := hms.eff hO hB (Eff.at ob 1 w d) (by omega)
  have h' := h.at hO d
  have hwg' : WgAt c.L.tWg c.Wg (w.at d) st sm := hwg
  rcases Nat.eq_zero_or_pos i with rfl | hp
  ·obtain ⟨m₁, ops, h1, h2⟩ := main (crowd gs (w.at d) sl') t ⟨gs, w.at d, sl', j, D, ts, fl, q, ob, tag, t0, d0, a, st, sm, rfl, ha, hms', h', hwg', hmode, hμ⟩ g hg hrun;exact Ends.step (hst.trans h1) h2
  ·rcases Nat.lt_or_ge i c.l0 with hlt | hge
   ·have hq := h'.old i g hp hlt hg
    have hi0 : (i == 0) = false := by simp; omega
    cases hqi : q i with
    | zero => rw [hqi] at hq; rw [hq.1] at hrun; cases hrun
    | succ r =>
     rw [hqi] at hq;rcases hq with ⟨hf, _⟩ | ⟨_, g', es, hm, hstp, hq'⟩
     ·rw [hf] at hrun; cases hrun
     have hrunT := runT_crowd_go (P := c.P) (sl := sl') (i := i) hg (by rw [hi0]; exact hstp (w.at d))
     obtain ⟨tag', t0', hms2, htag, _⟩ := hms'.wokenBy hO h'.base ⟨_, _, hwg'⟩ (Eff.same (k := 1) ob (w.at d)) (by omega) g g'
     have hcm := h'.stepOld hO hp hlt (g := g) (g' := g') (fn := g.frame.fn) (pos := g.frame.place) hm hq'
     refine Ends.step (hst.trans hrunT) (ih (phi c.n (Vc j D) tag' + Wsum j D fl + sumTo c.l0 (upd q i r), (ts, t0')) (hμ ▸ Prod.Lex.left _ _ ?_) _ _ ⟨_, w.at d, sl', j, D, ts, fl, upd q i r, ob, tag', t0', d0, woken c.P g g' (w.at d) a, st, sm, rfl, by rw [get_map_set _ _ _ _ (by omega), ha]; rfl, hms2, hcm, hwg', hmode.retag htag, rfl⟩).1
     rw [Go.ConcN.phi_retag c.n _ htag];have : sumTo c.l0 (upd q i r) + (r + 1) = sumTo c.l0 q + r := by
      have := sumTo_upd q r id hlt
      simpa [hqi] using this
     omega
   ·have hlt : i < c.l0 + j := by have := (Array.getElem?_eq_some_iff.1 hg).1; rw [h.size] at this; exact this
    obtain ⟨k, rfl⟩ : ∃ k, i = c.l0 + k := ⟨i - c.l0, by omega⟩
    obtain ⟨m₁, ops, μ', h1, hlt', hI⟩ := Inv.step_worker (sl := sl') hO ha hms' h' hwg' hmode (by omega) hg hrun
    rw [<- hμ] at hlt';exact Ends.step (hst.trans h1) (ih μ' hlt' _ _ hI).1
end Cw
end Go.SX
