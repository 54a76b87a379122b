/- SX, part 52: goroutine 0's last step beside leavers; a law's function that starts goroutines returns true. -/
import Derived.Test.YtdblbibjggeikaaGreatDoorC3
import Derived.Test.YtdblbibjggeikaaGreatDoorB7
import Derived.Conc.LeavingOf
import Derived.Conc.Beside
import Derived.JoinedCond
import Derived.Deep.DeepHandedRow
import Derived.SevenTiedAt
set_option linter.unusedSectionVars false
set_option linter.unusedVariables false
set_option linter.unusedSimpArgs false
namespace Go.SX
open Go Go.Conc Go.RowKit
open Go.ConcN (sumTo upd sumTo_upd upd_ne upd_same)
variable {P : Program}
theorem solo_end [Level] {Shun : Loc -> Prop} {Post : Value -> World -> Prop} {M : Nat -> Kd} {g : Goroutine} {v : Value} (I : World -> Prop) (hI : ∀ w d, I w -> I (w.at d)) (hr : g.status = .running)
  (hend : ∀ w : World, I w -> stepG P true g w = .ended (.done v) w #[] /\ Post v w) :
  ∀ (N : Nat) {w : World} {gs : Array Goroutine} {sl : Option (Nat × Nat)} {t : Trace} {q : Nat -> Nat}, sumTo gs.size q <= N -> I w -> Solo P Shun gs w t q M g -> Ends P Post (crowd gs w sl) t := by
 have last : ∀ {w : World} {gs : Array Goroutine} {sl sl' : Option (Nat × Nat)} {t : Trace} {q : Nat -> Nat} {d : Nat}, I w -> Solo P Shun gs w t q M g -> Go.stepT P (crowd gs w sl) = runT P (crowd gs (w.at d) sl') 0 -> Ends P Post (crowd gs w sl) t := by
  intro w gs sl sl' t q d hg hs hst;obtain ⟨h1, h2⟩ := hend _ (hI _ d hg);have hrunT := runT_many_ended (P := P) (sl := sl') (i := 0) hs.g0 (show stepG P (0 == 0) g (w.at d) = _ from h1)
  have he : MemOp.ofEvents 0 g.frame.fn g.frame.place #[] = #[] := by simp [MemOp.ofEvents]
  rw [he] at hrunT;have hstep : Go.stepT P (crowd gs w sl) = (.ended (.done v) (w.at d), #[]) := hst.trans hrunT
  refine ⟨0, crowd gs w sl, .done v, w.at d, t, ?_, rfl, ?_, v, rfl, h2, hs.past.clean, hs.past.over, ⟨fun x hx => ?_, rfl⟩, fun j x hx hj => ?_⟩
  ·simp [runNT, hstep]
  ·unfold Go.step;rw [hstep]
  ·obtain ⟨j, hj⟩ := List.mem_iff_getElem?.1 hx;rw [List.getElem?_drop] at hj
   exact ⟨_, (hs.leave.old (1 + j) x (by omega) (by simpa [crowd] using hj)).leaves⟩
  ·have hq := hs.leave.old j x (by omega) hx
   exact ⟨q j, hq.hears _⟩
 intro N
 induction N with
 | zero =>
  intro w gs sl t q hN hg hs;obtain ⟨i, x, d, sl', hi, hx, hst⟩ := crowd_pick (P := P) (w := w) (sl := sl) (hs.awake hr) ⟨0, g, hs.g0, hr⟩;rcases Nat.eq_zero_or_pos i with rfl | hpos
  ·exact last hg hs hst
  ·have hlt : i < gs.size := (Array.getElem?_eq_some_iff.1 hi).1
   have hq := hs.leave.old i x hpos hi
   have : q i <= sumTo gs.size q := Go.ConcN.le_sumTo hlt
   rw [show q i = 0 by omega] at hq
   rw [hq.1] at hx; cases hx
 | succ N ih =>
  intro w gs sl t q hN hg hs;obtain ⟨i, x, d, sl', hi, hx, hst⟩ := crowd_pick (P := P) (w := w) (sl := sl) (hs.awake hr) ⟨0, g, hs.g0, hr⟩;rcases Nat.eq_zero_or_pos i with rfl | hpos
  ·exact last hg hs hst
  ·have hlt : i < gs.size := (Array.getElem?_eq_some_iff.1 hi).1
   have hq := hs.leave.old i x hpos hi
   have hi0 : (i == 0) = false := by simp; omega
   cases hqi : q i with
   | zero => rw [hqi] at hq; rw [hq.1] at hx; cases hx
   | succ k =>
    rw [hqi] at hq;rcases hq with ⟨hf, _⟩ | ⟨_, g', es, hm, hstp, hq'⟩
    ·rw [hf] at hx; cases hx
    have hrunT := runT_crowd_go (P := P) (sl := sl') (i := i) hi (by rw [hi0]; exact hstp (w.at d))
    have hsz : ((gs.map (woken P x g' (w.at d))).setIfInBounds i g').size = gs.size := by simp
    have hsum : sumTo gs.size (upd q i k) + (k + 1) = sumTo gs.size q + k := by
     have := sumTo_upd q k id hlt
     simpa [hqi] using this
    refine Ends.step (hst.trans hrunT) (ih (q := upd q i k) (by rw [hsz]; omega) (hI _ d hg) ⟨?_, hs.leave.slip hpos hlt _ _ _ _ hq', hs.past.mute (by omega) hm, by rw [hsz]; exact num_app hs.num hlt ofEvents_g, hs.shun, hs.fit⟩)
    have hne : i ≠ 0 := by omega
    rw [Array.getElem?_setIfInBounds_ne hne, Array.getElem?_map, hs.g0]
    simp [woken_run hr]
theorem stepG_last {f : FuncId} {fn : Func} {fr : Frame} {t : Tmp} {w : World} (hfn : fr.fn = f) (hn : fr.kind = .normal) (hm : fr.mode = .returning) (hd : fr.defers = []) (hf : P.funcs[f]? = some fn) (hi : P.inits.idxOf? f = none) (hr : fn.results = #[.tmp t]) :
  stepG P true (G fr []) w = .ended (.done (fr.tmps.getD t undef)) w #[] := by
 obtain ⟨fn', tmps, todo, defers, mode, kind, ro⟩ := fr;simp only at hfn hn hm hd
 subst hfn hn hm hd;have h1 := results_tmp hr tmps P w
 have h2 := events_results_tmp (P := P) (w := w) hr tmps #[]
 simp [G, stepG, unwind, doReturn, hf, hi, h1, h2, GStep.after, Go.seen]
def seen0 (W : World) : Nat -> Kd := fun k => match W.heap[k]? with
 | some (.cells ..) => .own
 | some _ => .off
 | none => .own
theorem seen0_cells {W : World} {k : Nat} {c : Array Value} {e : TypeId} {fz : Nat × Nat} (h : W.heap[k]? = some (.cells c e fz)) : seen0 W k = .own /\ (ghost (seen0 W) W).heap[k]? = some (.cells c e fz) := by
 have h1 : seen0 W k = .own := by unfold seen0; rw [h]
 exact ⟨h1, by rw [ghost_get, h, h1]; rfl⟩
theorem seen0_fit (W : World) : Fit (seen0 W) W := fun k hk => by unfold seen0; rw [Array.getElem?_eq_none hk]
theorem gone_nil (B : Nat) : Gone (fun _ => False) B #[] :=
 ⟨past_nil.clean, past_nil.known, past_nil.over, past_nil.hears, fun op hop => by simp at hop⟩
@[reducible] def lone0 : Level := ⟨false, fun _ => False⟩
theorem ends_of_entry {f : FuncId} {fn : Func} {c : Code} {t : Tmp} {G0 : GlobT} {T : List V1 -> Heap -> Tree (SV × Heap)} {vs : List V1} {l : Bool} {hl' : Heap} (h : @EntryOk lone0 P G0 f T) (hf : P.funcs[f]? = some fn) (hb : fn.body = some c)
  (hn : (fn.name == "runtime.NumGoroutine") = false) (hi : P.inits.idxOf? f = none) (hres : fn.results = #[.tmp t]) (hv : (T vs []).val = some (.one (.c (.bool l true)), hl')) (W : World)
  (hG : RepH G0 (envOf (ghost (seen0 W) W))) (us : Array Value) (hr : RelVs (envOf (ghost (seen0 W) W)) vs us.toList) {Post : Value -> World -> Prop} (hP : ∀ W', Below W.heap.size W W' -> Post (.bool true) W') :
  Ends P Post (solo (G (Frame.enter P f us .normal) []) W) #[] := by
 letI : Level := lone0
 rcases h vs [] _ _ hv (envOf (ghost (seen0 W) W)) us rfl hG hr with ⟨_, hc⟩
 rcases hc with ⟨_, hE⟩ | ⟨v, w', hq, _⟩
 ·have way := hE true (fun g' w' => ∃ fr, g' = G fr [] /\ Leaves P f (fun u w' => ∃ β' R', RepH G0 ⟨β', hl', w', R'⟩ /\ Ext (envOf (ghost (seen0 W) W)) ⟨β', hl', w', R'⟩ /\ RelS ⟨β', hl', w', R'⟩ (.one (.c (.bool l true))) u) fr w') []
   (fun fr w' hl => Way.stop fun w₁ g₁ => ⟨fr, rfl, by
    obtain ⟨h1, h2, h3, h4, fn', h5, h6⟩ := hl;exact ⟨h1, h2, h3, h4, fn', h5, fun w₂ g₂ => h6 w₂ (g₁.trans g₂)⟩⟩) (.inl rfl)
  have hsolo : Solo P (fun _ => False) #[G (Frame.enter P f us .normal) []] W #[] (fun _ => 0) (seen0 W) (G (Frame.enter P f us .normal) []) :=
   ⟨rfl, leavers_one P _, gone_nil _, fun op hop => by simp at hop, fun a ha => ha.elim, seen0_fit W⟩
  refine Way0.solo (fun a ha => ha) way (Grow.refl _) hsolo fun Shun' M' w' gs' sl' t' q' g' hS hH hs' => ?_
  obtain ⟨fr, rfl, h1, h2, h3, h4, fn', h5, h6⟩ := hS;obtain rfl : fn' = fn := smI (h5.symm.trans hf);obtain ⟨u, h7, β', R', h8, h9, h10⟩ := h6 _ (Grow.refl _);rw [results_tmp hres] at h7;obtain rfl : fr.tmps.getD t undef = u := by injection h7
  have hu : fr.tmps.getD t undef = .bool true := h10
  have hbel : Below W.heap.size W w' := by
   refine ⟨h9.os, h9.tape, h9.output, hH.size, fun k hk => ?_⟩
   by_cases hm : seen0 W k = .own
   ·have hk0 := h9.keep k (by show k < (ghost (seen0 W) W).heap.size; rw [ghost_size]; exact hk) (fun b hb => by cases hb)
    cases ho : W.heap[k]? with
    | none => rw [Array.getElem?_eq_none_iff] at ho; omega
    | some o =>
     cases o with
     | cells c e fz =>
      rw [show (envOf (ghost (seen0 W) W)).w.heap[k]? = some (.cells c e fz) from (seen0_cells ho).2] at hk0
      obtain ⟨fz', q1, q2⟩ := gh_cells hk0;rcases q2 with ⟨_, rfl⟩ | ⟨q2, _⟩
      ·exact q1
      ·rw [hH.lock k q2] at hm; cases hm
     | _ => unfold seen0 at hm; rw [ho] at hm; cases hm
   ·exact (hH.off k hk hm).2
  refine solo_end (v := .bool true) (fun w => Below W.heap.size W w) (fun w d h => ⟨h.os, h.tape, h.output, h.size, h.block⟩) rfl (fun w hw => ⟨?_, hP w hw⟩) _ (Nat.le_refl _) hbel hs'
  rw [stepG_last h1 h2 h3 h4 hf hi hres, hu]
 ·exfalso;have hn' : ¬ fn.name = "runtime.NumGoroutine" := by simpa using hn
  simp [callFunc, hf, hn', hb] at hq
end Go.SX
namespace Go.SX
open Go Go.Conc
variable {P : Program}
section
variable [Level]
theorem subF_seen (W : World) : SubF (envOf W) (envOf (ghost (seen0 W) W)) := fun k hk => ⟨by show k < (ghost (seen0 W) W).heap.size; rw [ghost_size]; exact hk, fun c e fz h => ⟨fz, (seen0_cells h).2⟩⟩
theorem argV_subF {E E' : Env} (s : SubF E E') (t : DTy) (hf : t.rf = false) (x : t.den) (v : Value) (h : RelV E (argV t x) v) : RelV E' (argV t x) v := by
 cases t with
 | int k => exact h
 | bool => exact h
 | str => exact h
 | sl t => exact RoSl.onSubF s (fun a us q => RoT.subF s t a us hf q) h
 | ws k n => exact h
 | unit => exact h
 | pair a b =>
  obtain ⟨cs, h1, h2⟩ := h;exact ⟨cs, h1, toF_rel _ _ _ (RoT.subF s (.pair a b) x _ hf (toF_rel_inv _ _ _ h2))⟩
 | ref => cases hf
 | vp => exact h
theorem rep_seen {G0 : GlobT} {W : World} (hG : ∀ g t d, G0 g = some ⟨t, d⟩ -> RelRp (envOf W) t d 0 0 (.pointer (some ⟨g, 0, none⟩)) /\ t.rf = false) : RepH G0 (envOf (ghost (seen0 W) W)) where
 ro := fun k hk => ⟨hk, fun b hb => by cases hb⟩
 inj := fun b b' k hb => by cases hb
 blk := fun b => trivial
 glob := fun g t d hg => ⟨RelRp.subF (subF_seen W) (hG g t d hg).2 (hG g t d hg).1, (hG g t d hg).2⟩
end
theorem returnsInLeaving_of_row {H : Type} {enc : TypeId × Value -> H} {a : Assume} {C : Checked} {os : Os} {f : FuncId} {fn : Func} {s : OpenSpec} {F : Stop.Interp} {conds : List PathCond} {apart fresh handsOn again : Bool} {laid : List (String × DataW Unit)}
  (own : ownKnob C.prog.godebug = none) (started : os.Started) (hfn : C.prog.funcs[f]? = some fn)
  (witness : ∃ (w : World) (tape : Tape) (i : Input), w.os = os /\ (w.forCall tape i).Shaped C.prog /\ i.vars = [] /\ Input.okWide C.prog (w.forCall tape i) .any w.heap.size f i /\
   s.preRow enc C.prog fn conds apart laid (w.forCall tape i).memory i.args /\ a.holds C.prog (lone (Frame.enter C.prog f i.args .normal) [] (w.forCall tape i)))
  (runs : ∀ (W : World) (base : Nat) (args : Array Value) (ds gs : List (DataW H)) (before : List MemPlace),
   (∀ (j : Nat) t v, fn.params[j]? = some t -> args[j]? = some v -> Value.okWide C.prog W .any base t v) ->
   DataW.Whole enc C.prog fn.params.toList s.vars apart W args.toList ds gs before ->
   (∀ k, s.cond = some k -> k H (ds ++ gs) = true) ->
   laidMetH C.prog laid W ->
   Ends C.prog (fun v W' => (s.at F).post enc C.prog fn apart fresh handsOn again W args v W') (solo (G (Frame.enter C.prog f args .normal) []) W) #[]) :
  ReturnsInLeavingWide a C os f .any (s.preRow enc C.prog fn conds apart laid) ((s.at F).post enc C.prog fn apart fresh handsOn again) := by
 refine returnsInLeavingWide_of_good own started witness fun w tape i _ _ _ hok hpre _ => ?_
 obtain ⟨_, _, _, fn', hfn', _, _, _, _, hval⟩ := hok;obtain rfl : fn' = fn := smI (hfn'.symm.trans hfn);obtain ⟨ds, gs, before, hw, _, hk⟩ := OpenSpec.pre_parts hpre.1.1;obtain ⟨M, last, o, w', t', h1, h2, h3, h4⟩ := runs (w.forCall tape i) w.heap.size i.args ds gs before hval (DataW.Whole.of_heap (w' := w.forCall tape i) (by rfl) hw) hk (hpre.1.2.of_heap (by rfl))
 exact ⟨M, last, o, w', t', h1, h2, h3, h4.mono fun v hp => ChangeSpec.post_blind hp⟩
theorem row_leaving {p : Pinned} {s : OpenSpec} {c : OpenClaim} (f : FuncId) (fn : Func)
  (hn : c.program = p.name) (hs : c.sum = p.sum) (hsp : c.spec = s.name)
  (hstart : c.start = .entering) (hout : c.outside = []) (htold : c.inits = [] /\ c.under = none /\ c.initsInPlace = [] /\ c.initsUnfollowed = false /\ c.initsRecurse = false /\ c.initsNamed = [] /\ c.initsPassed = [])
  (hnb : c.noBlocks = false) (hlv : c.leaving = true) (hfo : c.followed = none) (hnar : c.narrowed = s.cond.isSome) (hstill : c.still = false)
  (hfn : p.checked.prog.funcNamed c.func = some f) (hf : p.checked.prog.funcs[f]? = some fn) (closed : joinedFacts p.checked.prog f fn s.bare c = true)
  (hinst : fn.isInstance p.checked.prog c.origin c.targs) (hwrap : fn.isWrapper p.checked.prog c.wrapper c.mainSum)
  (h : ∀ os : Os, os.Started -> ∀ (H : Type) (enc : TypeId × Value -> H), (∀ a b, enc a = enc b -> a = b) -> ∀ F : Stop.Interp,
   ReturnsInLeavingWide c.assume p.checked os f .any (c.pre enc p.checked.prog fn s) ((s.at F).post enc p.checked.prog fn c.apart c.fresh c.handsOn c.again)) : c.holds p s := by
 simp only [joinedFacts, Bool.and_eq_true, beq_iff_eq, Array.all_eq_true_iff_forall_mem, List.all_eq_true, decide_eq_true_eq] at closed;obtain ⟨⟨⟨⟨⟨⟨⟨⟨⟨⟨⟨⟨⟨⟨⟨⟨⟨⟨⟨⟨⟨⟨⟨⟨⟨⟨⟨⟨⟨⟨⟨c1, c2⟩, c3⟩, c4⟩, c5⟩, c6⟩, c7⟩, c8⟩, c9⟩, c10⟩, c11⟩, c12⟩, c13⟩, c14⟩, c15⟩, c16⟩, c17⟩, c18⟩, c19⟩, c20⟩, c21⟩, c22⟩, c23⟩, c24⟩, c25⟩, c26⟩, c27⟩, c28⟩, c29⟩, c30⟩, c31⟩, c32⟩ := closed;have quiet : ∀ os : Os, Stop.quiet p.checked.prog os := fun os k hk => by rw [c9] at hk; cases hk
 obtain ⟨t1, t2, t3, t4, t5, t6, t7⟩ := htold;have fits : c.startFits p.checked.prog := by unfold OpenClaim.startFits; rw [hstart]; exact c26
 have told : c.startTold p.checked.prog := by unfold OpenClaim.startTold; rw [hstart]; exact ⟨t1, t2, t3, t4, t5, t6, t7⟩
 have named : p.checked.prog.funcs[f]? = some fn -> namedTie p.checked.prog c.namedList s.bare.vars = true := fun _ => by unfold OpenClaim.namedList; rw [hfo]; exact c5
 refine ⟨c1, hn, hs, hsp, c2, c3, fits, told, f, fn, hfn, hf, ⟨c4, c20⟩, (fun hb => by rw [hnb] at hb; cases hb), named hf, hinst, hwrap,
  c6.trans c7.symm, ⟨c8.trans c9.symm, by unfold Program.envWorded; rw [c9]; rfl, c25⟩, c10, c11, c12, c13, c14, ⟨c15, c31, c32⟩, ⟨c16, c21⟩, ⟨c17, c22, c29, c30⟩, ⟨c23, c27, c28, c18⟩, (by rw [hout, hnar]; cases hsh : c.shortTexts with | none => simp | some _ => rw [hsh] at c24; cases c24), fun n hv => varReadable_some (c19 n hv),
  ⟨_, by unfold OpenClaim.world; rw [hout, hstart]; exact WideRow.started_initial, quiet _⟩, [], by unfold OpenClaim.lists; rw [hfo], fun os st _ H enc inj => ?_⟩
 have st' : os.Started := by unfold OpenClaim.world at st; rw [hout, hstart] at st; exact st
 rw [OpenClaim.post_not_still hstill];unfold OpenClaim.form;rw [hstart, c6];intro F;rw [show c.okInput = Input.okWide by unfold OpenClaim.okInput; rw [hnb], show c.atReturn p.checked.prog = leavingAtReturn p.checked.prog by unfold OpenClaim.atReturn; rw [hlv], show c.always p.checked.prog [] = nothingAlways by unfold OpenClaim.always; rw [hfo]]
 show ReturnsInOpen _ _ _ _ _ _ _ _ (s.post enc p.checked.prog fn F c.outside c.apart c.fresh c.handsOn c.again) _ _
 rw [show s.post enc p.checked.prog fn F c.outside c.apart c.fresh c.handsOn c.again = (s.at F).post enc p.checked.prog fn c.apart c.fresh c.handsOn c.again by rw [hout]; rfl]
 exact h os st' H enc inj F c26
theorem card_goes (Lk : Looks) {p : Pinned} {s : OpenSpec} {c : OpenClaim} (kinds : List LaidKind) (tests : Bool) (har : Bool × String) (lk : Bool) (hc : c.holds p s) (hw : c.wfByText s = true) (htie : c.laidByTextAt Lk p kinds tests)
  (hst : c.start = .entering) (hnb : c.noBlocks = false /\ c.again = false) (hm : p.checked.prog.mainIs = some (har.1, har.2.toList)) (hn : (!har.1 && har.2.isEmpty && !lk) = false)
  (hl : ∀ f fn, p.checked.prog.funcNamed c.func = some f -> p.checked.prog.funcs[f]? = some fn -> lk = p.checked.prog.looks [] /\ ∀ (j : Nat) t, fn.params[j]? = some t -> p.checked.prog.wantsStandIn t = false)
  (hg : true = c.goesBy p.checked.prog) :
  Claim7.holds p (.plain s) { stood := { row := c, standIns := [], harness := har, looks := lk }, kinds := [], alts := [], goes := true, laidByText := true, laidKinds := kinds, laidTests := tests, laidLooks := Lk } := by
 have h6 : Claim7.isSixth { stood := { row := c, standIns := [], harness := har, looks := lk }, kinds := [] } = false := by simpa [Claim7.isSixth] using hn
 have h1 := Claim7.tied_new_at Lk kinds tests (Claim7.new_of_sixth hc har lk hst hnb hm h6 hl) hw
 exact ⟨h1, (fun D hD => by cases hD), htie, (fun h => by cases h), hg⟩
end Go.SX
