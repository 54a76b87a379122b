/- SX, part 48: a crowd as one great step of goroutine 0's. -/
import Derived.Test.YtdblbibjggeikaaGreatDoorC2
import Derived.Test.YtdblbibjggeikaaGreatDoorB8
import Derived.Test.YtdblbibjggeikaaGreatDoorB5
import Derived.Conc.WgGenN2
import Derived.Conc.AppendEvents
set_option linter.unusedSectionVars false
set_option linter.unusedVariables false
set_option linter.unusedSimpArgs false
namespace Go.SX
open Go Go.Conc
open Go.ConcN (ShN WgLive PayAt CTag WD upd sumTo Vc cnt pend OpenSt)
open Go.ConcR (KK WgAt stA smA)
theorem LibW.solo [Level] {P : Program} {ty : TypeId} {Wg : Nat} {Fin : Goroutine -> Prop} {g : Goroutine} {w : World} (h : LibW P ty Wg (Was Fin) g w) (F : World -> Prop) (hF : ∀ w d, F w -> F (w.at d)) (hl : WgLive ty Wg w) (hFw : F w) (hlow : ∀ w, F w -> Wg < w.heap.size)
  {Shun : Loc -> Prop} (hSh : ∀ l, ShN Wg l -> Shun l) (hrun : ∀ g, Fin g -> g.status = .running) : ∀ {Post : Value -> World -> Prop} {M : Nat -> Kd} {gs : Array Goroutine} {sl : Option (Nat × Nat)} {t : Trace} {q : Nat -> Nat}, Solo P Shun gs w t q M g ->
   (∀ gs' w' sl' t' q' g', Fin g' -> F w' -> Solo P Shun gs' w' t' q' M g' -> Ends P Post (crowd gs' w' sl') t') -> Ends P Post (crowd gs w sl) t := by
 induction h with
 | stop h => exact fun hs hk => hk _ _ _ _ _ _ (h _ fun x => x) hFw hs
 | step g' es hr hstep hk0 ih =>
  rename_i g w;intro Post M gs sl t q hs hk;refine solo_step (fun w₁ => WgLive ty Wg w₁ /\ F w₁) (fun w d h => ⟨h.1, hF _ d h.2⟩) hr (fun w₁ gs sl t q hg hs => ?_) _ (Nat.le_refl _) ⟨hl, hFw⟩ hs
  have hr1 : RL ty Wg w w₁ := fun _ => hg.1
  obtain ⟨h1, h2⟩ := hstep w₁ hr1;have hlt : 0 < gs.size := (Array.getElem?_eq_some_iff.1 hs.g0).1
  refine ⟨_, _, runT_crowd_go (P := P) (sl := sl) (i := 0) hs.g0 (show stepG P (0 == 0) g w₁ = _ from h1), ih w₁ hr1 hg.1 hg.2 ⟨by simp [hlt], hs.leave.step0 hlt _ _ _ _ _ _, hs.past.own fun e he => ?_, by simpa using num_app hs.num hlt ofEvents_g, hs.shun, hs.fit⟩ hk⟩
  obtain ⟨a, hl, ha⟩ := h2 e he;have hb : a.block < w₁.heap.size := by rw [ha]; exact hlow _ hg.2
  obtain ⟨loc, wr, sy⟩ := e;simp only at hl
  rcases hl with rfl | rfl
  ·exact ⟨fun x hx _ => by simp only [MemAct.ofEvent, MemAct.touch?, Option.some.injEq] at hx; subst hx; simp, by simp, by simp, hb⟩
  ·exact ⟨fun x hx _ => by simp only [MemAct.ofEvent, MemAct.touch?, Option.some.injEq] at hx; subst hx; simp, by simp, by simp, hb⟩
structure Froze (Wg C mt : Nat) (v v' : World) : Prop where
 os : v'.os = v.os
 tape : v'.tape = v.tape
 output : v'.output = v.output
 size : v.heap.size <= v'.heap.size
 blk : ∀ b c e fz, v.heap[b]? = some (.cells c e fz) -> b ≠ Wg -> b ≠ C -> b ≠ mt -> v'.heap[b]? = some (.cells c e (0, c.size))
structure Kept3 (Wg C mt : Nat) (v v' : World) : Prop where
 os : v'.os = v.os
 tape : v'.tape = v.tape
 output : v'.output = v.output
 size : v.heap.size <= v'.heap.size
 blk : ∀ b o, v.heap[b]? = some o -> b ≠ Wg -> b ≠ C -> b ≠ mt -> v'.heap[b]? = some o
def Part (v v' : World) : Prop := ∀ (b : Nat) (c : Array Value) (e : TypeId) (fz : Nat × Nat), v.heap[b]? = some (.cells c e fz) -> ∃ fz' : Nat × Nat, v'.heap[b]? = some (.cells c e fz')
theorem gh_show {M : Nat -> Kd} {w : World} {b : Nat} {c : Array Value} {e : TypeId} {fz : Nat × Nat} (hw : w.heap[b]? = some (.cells c e fz)) (hM : M b = .own) : (ghost M w).heap[b]? = some (.cells c e fz) := by
 rw [ghost_get, hw, hM]; rfl
theorem gh_lock {M : Nat -> Kd} {w : World} {b : Nat} {c : Array Value} {e : TypeId} {fz : Nat × Nat} (hw : w.heap[b]? = some (.cells c e fz)) (hM : M b = .lock) : (ghost M w).heap[b]? = some (.cells c e (0, c.size)) := by
 rw [ghost_get, hw, hM]; rfl
def obOf (Wg C mt : Nat) (M : Nat -> Kd) : Nat -> Ow := fun b => if b = C then .off else if b = Wg \/ b = mt then .vol else match M b with
 | .off => .off
 | _ => .sh
namespace Cw
variable [Go.ConcR.Payload] [lv : Level]
def found (c : Cw) (w : World) (M : Nat -> Kd) (l0 T0 : Nat) (Shun : Loc -> Prop) : Cw := { c with w0 := w, T0 := T0, l0 := l0, Shun := Shun, ob0 := obOf c.Wg c.C c.mt M }
structure In (c : Cw) (v : World) : Prop where
 n0 : 0 < c.n
 n : c.n < 2147483648
 ez : 0 < c.ez
 sz : c.n * c.ez <= c.sz
 nM : 0 < c.nM
 cw : c.C ≠ c.Wg
 mc : c.mt ≠ c.C
 mw : c.mt ≠ c.Wg
 wg : WgAt c.L.tWg c.Wg v 0 0
 pay : c.Pay v
 vol : c.VolOk v
structure After (c : Cw) (v v' : World) : Prop where
 kept : Kept3 c.Wg c.C c.mt v v'
 pay : c.Pay v'
 vol : c.VolOk v'
 res : ∀ i, i < c.n -> ∃ us vi, us.length = c.ez /\ c.R i us vi /\ Part vi v' /\ ∀ k, k < c.ez -> v'.cell? ⟨c.C, c.ez * i + k, none⟩ = us[k]?
def outM (c : Cw) (s0 : Nat) (M : Nat -> Kd) : Nat -> Kd := fun b => if s0 <= b then .own else if b = c.Wg then .off else if b = c.C \/ b = c.mt then .own else M b
theorem own_of {M : Nat -> Kd} {v w : World} {b : Nat} {cs : Array Value} {e : TypeId} (hg : Grow v (ghost M w)) (h : v.heap[b]? = some (.cells cs e (0, 0))) (hs : 0 < cs.size) : M b = .own /\ w.heap[b]? = some (.cells cs e (0, 0)) := by
 have hlt : b < v.heap.size := (Array.getElem?_eq_some_iff.1 h).1
 rw [<- hg.heap b hlt] at h;obtain ⟨fz', h1, h2⟩ := gh_cells h;rcases h2 with ⟨h2, rfl⟩ | ⟨_, h2⟩
 ·exact ⟨h2, h1⟩
 ·simp only [Prod.mk.injEq, true_and] at h2;omega
theorem Base.at {c : Cw} {ob : Nat -> Ow} {w : World} (h : c.Base ob w) (d : Nat) : c.Base ob (w.at d) := ⟨h.s0, h.os, h.tape, h.output, h.ob0, h.new, h.base⟩
theorem big {c : Cw} {v : World} {g : Goroutine} (hb : lv.both = true) (hv : ∀ a, lv.vol a ↔ a.block = c.mt /\ a.spot = none /\ a.off < c.nM) (hin : c.In v) (h0 : c.Hd 0 g)
  (hHd : ∀ v', Froze c.Wg c.C c.mt v v' -> ∀ i, i < c.n -> ∀ g, c.Hd i g -> Way0 c.P true (c.AtAdd i) g v') (hHn : ∀ v', Froze c.Wg c.C c.mt v v' -> ∀ g, c.Hd c.n g -> Way0 c.P true c.AtWait g v') (hKg : ∀ g, c.Kg g -> g.status = .running) :
  Big c.P g v fun g' v' => c.Kg g' /\ c.After v v' := by
 intro Post Shun M w gs sl t q hg hs hk;have hwg := hin.wg
 obtain ⟨cs, hp1, hp2⟩ := hin.pay;obtain ⟨ms, hm1, hm2, hm3⟩ := hin.vol;obtain ⟨oW, wW⟩ := own_of hg (cs := #[.int .u64 0, .int .u32 0]) hwg (by simp)
 obtain ⟨oC, wC⟩ := own_of hg hp1 (by rw [hp2]; exact Nat.lt_of_lt_of_le (Nat.mul_pos hin.n0 hin.ez) hin.sz)
 obtain ⟨oM, wM⟩ := own_of hg hm1 (by rw [hm2]; exact hin.nM)
 have hgs : 0 < gs.size := (Array.getElem?_eq_some_iff.1 hs.g0).1
 let c' : Cw := c.found w M gs.size t.size Shun
 have hob : ∀ b, b ≠ c.Wg -> b ≠ c.C -> b ≠ c.mt -> c'.ob0 b = (match M b with | .off => Ow.off | _ => Ow.sh) := fun b h1 h2 h3 => by
  show obOf c.Wg c.C c.mt M b = _
  unfold obOf;rw [if_neg h2, if_neg (fun h => h.elim h1 h3)]
 have hobW : c'.ob0 c.Wg = .vol := by show obOf c.Wg c.C c.mt M c.Wg = _; unfold obOf; rw [if_neg (Ne.symm hin.cw), if_pos (.inl rfl)]
 have hobM : c'.ob0 c.mt = .vol := by show obOf c.Wg c.C c.mt M c.mt = _; unfold obOf; rw [if_neg hin.mc, if_pos (.inr rfl)]
 have hobC : c'.ob0 c.C = .off := by show obOf c.Wg c.C c.mt M c.C = _; unfold obOf; rw [if_pos rfl]
 have hO : c'.Ok := by
  refine ⟨hb, hgs, hin.ez, hin.sz, hin.n, (Array.getElem?_eq_some_iff.1 wW).1, (Array.getElem?_eq_some_iff.1 wC).1, (Array.getElem?_eq_some_iff.1 wM).1, hin.cw, hin.mc, hin.mw, hobW, hobM, hobC, fun b k => ?_, fun a ha => ?_, hv⟩
  ·show obOf c.Wg c.C c.mt M b ≠ _
   unfold obOf;split
   ·simp
   ·split
    ·simp
    ·split <;> simp
  ·have hoff := hs.shun a ha
   have h1 : a.block ≠ c.Wg := fun e => by rw [e, oW] at hoff; cases hoff
   have h2 : a.block ≠ c.C := fun e => by rw [e, oC] at hoff; cases hoff
   have h3 : a.block ≠ c.mt := fun e => by rw [e, oM] at hoff; cases hoff
   exact ⟨by rw [hob _ h1 h2 h3, hoff], h2⟩
 have hBase : c'.Base c'.ob0 w := ⟨Nat.le_refl _, rfl, rfl, rfl, fun _ _ => rfl, fun b h1 h2 => absurd h2 (Nat.not_lt.2 h1), fun _ _ _ _ _ => rfl⟩
 have hfro : ∀ v', Grow c'.u0 v' -> Froze c.Wg c.C c.mt v v' := fun v' hv' => by
  have hsz : c'.u0.heap.size = w.heap.size := by show (ghost _ _).heap.size = _; rw [ghost_size]; rfl
  have hsv : v.heap.size <= w.heap.size := by have := hg.size; rwa [ghost_size] at this
  refine ⟨hv'.os.trans hg.os, hv'.tape.trans hg.tape, hv'.output.trans hg.output, Nat.le_trans hsv (by rw [<- hsz]; exact hv'.size), fun b cc e fz hbv h1 h2 h3 => ?_⟩
  have hlt : b < v.heap.size := (Array.getElem?_eq_some_iff.1 hbv).1
  rw [<- hg.heap b hlt] at hbv;obtain ⟨fz', q1, q2⟩ := gh_cells hbv;rw [hv'.heap b (by rw [hsz]; omega)]
  refine gh_lock (M := gk c'.ob0 w.heap.size 0) q1 ?_
  unfold gk;rw [if_neg (by omega), hob b h1 h2 h3]
  rcases q2 with ⟨q2, _⟩ | ⟨q2, _⟩ <;> rw [q2]
 obtain ⟨t0, ht0⟩ := (hHd _ (hfro _ (Grow.refl _)) 0 hin.n0 g h0).tree hb;have hCm : c'.Cm c'.ob0 0 gs w t (fun _ => ⟨0, 0, 0⟩) [] (fun _ => false) q 0 := by
  refine ⟨rfl, rfl, fun i g hp _ hgi => hs.leave.old i g hp hgi, fun i hi => absurd hi (Nat.not_lt_zero _), ?_, Nat.le_refl _, fun i hi e => ?_, hs.past.hears, fun i hi => absurd hi (Nat.not_lt_zero _), fun i hi => absurd hi (Nat.not_lt_zero _), ⟨cs, wC, hp2⟩, ⟨ms, wM, hm2, hm3⟩, hBase, fun b _ k hbk => absurd hbk (hO.ob b k)⟩
  ·refine CrT.begin hs.past hgs hs.num (fun l ⟨a, ha, hb⟩ => ?_) (fun l ⟨a, ha, hb, hw⟩ => ?_) (fun l ⟨a, ha, hb, hw⟩ => ?_)
   ·subst ha;refine ⟨rfl, fun hsh => ?_⟩
    have hoff := hs.shun a hsh
    rcases hb with hb | hb
    ·rw [show a.block = c.Wg from hb, oW] at hoff; cases hoff
    ·rw [show a.block = c.mt from hb, oM] at hoff; cases hoff
   ·subst ha;refine ⟨rfl, fun hsh => ?_⟩
    unfold ow at hw;split at hw
    ·rename_i hC;have hoff := hs.shun a hsh
     rw [show a.block = c.C from hC, oC] at hoff
     cases hoff
    ·exact hO.ob _ _ hw
   ·subst ha;refine ⟨rfl, fun hsh => ?_⟩
    rw [(hO.shun a hsh).1] at hw;cases hw
  ·unfold Trace.act? at e;rw [Array.getElem?_eq_none hi] at e
   cases e
 have hMode : Go.ConcN.Mode 0 (fun _ => (⟨0, 0, 0⟩ : WD)) (.sp (c'.n - 0) 6) 0 0 := by
  have := Go.ConcN.Mode.opn (j := 0) (D := fun _ => (⟨0, 0, 0⟩ : WD)) (tag := .sp (c'.n - 0) 6) trivial (fun i hi => absurd hi (Nat.not_lt_zero _)) (by simp)
  simpa [Vc, sumTo, pend] using this
 have hInv : ∃ μ, c'.Inv μ (crowd gs w sl) t := ⟨_, gs, w, sl, 0, _, [], _, q, c'.ob0, _, t0, 0, g, 0, 0, rfl, hs.g0, .toAdd (c := c') (v := c'.u0) hin.n0 ht0 (Grow.refl _), hCm, wW, hMode, rfl⟩
 obtain ⟨μ, hInv⟩ := hInv
 ·refine (Inv.run (c := c') hO (fun i hi g hgi v' hv' => hHd v' (hfro v' hv') i hi g hgi) (fun g hgn v' hv' => hHn v' (hfro v' hv') g hgn) (Post := Post) (fun m t' hF => ?_) _ _ _ hInv).1
  obtain ⟨gs', w', sl', q', ob, a, rfl, ha, hlib, hleave, hgone, hnum, hB, hP, hV, hL, hR⟩ := hF;have hs0 : w.heap.size <= w'.heap.size := hB.s0
  have hlow : ∀ b, b < w.heap.size -> ob b = c'.ob0 b := fun b hb => hB.ob0 b hb
  let F : World -> Prop := fun w' => c'.Base ob w' /\ c'.Pay w' /\ c'.VolOk w' /\ ∀ i, i < c.n -> ∃ x, c'.Res i x 1 w' ob
  refine LibW.solo hlib F (fun w₁ d ⟨f1, f2, f3, f4⟩ => ⟨f1.at d, f2, f3, fun i hi => ?_⟩) hL ⟨hB, hP, hV, hR⟩ (fun w₁ h => Nat.lt_of_lt_of_le hO.wg h.1.s0) (fun l hl => .inr hl) hKg (M := c.outM w.heap.size M) ⟨ha, hleave, hgone, hnum, fun a' ha' => ?_, fun b hb => ?_⟩ fun gs₂ w₂ sl₂ t₂ q₂ g₂ hk₂ hF₂ hs₂ => ?_
  ·obtain ⟨x, hx⟩ := f4 i hi;exact ⟨x, hx.eff hO f1 (Eff.at ob 0 w₁ d) (by have := hO.l0; omega)⟩
  ·unfold outM;rcases ha' with ha' | ⟨b, hb, hbw⟩
   ·have hoff := hs.shun a' ha'
    have h1 : a'.block ≠ c.Wg := fun e => by rw [e, oW] at hoff; cases hoff
    have h2 : a'.block ≠ c.C := fun e => by rw [e, oC] at hoff; cases hoff
    have h3 : a'.block ≠ c.mt := fun e => by rw [e, oM] at hoff; cases hoff
    have h4 : ¬ w.heap.size <= a'.block := fun h4 => by rw [hs.fit _ h4] at hoff; cases hoff
    rw [if_neg h4, if_neg h1, if_neg (fun h => h.elim h2 h3)]
    exact hoff
   ·cases hb
    have : a'.block < w.heap.size := by rw [hbw]; exact hO.wg
    rw [if_neg (by omega), if_pos (show a'.block = c.Wg from hbw)]
  ·unfold outM;rw [if_pos (Nat.le_trans hs0 hb)]
  ·obtain ⟨f1, f2, f3, f4⟩ := hF₂;have hs2 : w.heap.size <= w₂.heap.size := f1.s0
   have hlt2 : ∀ {b : Nat}, b < w.heap.size -> b ≠ c.Wg -> b ≠ c.C -> b ≠ c.mt -> c.outM w.heap.size M b = M b /\ w₂.heap[b]? = w.heap[b]? := fun {b} hb h1 h2 h3 => by
    refine ⟨?_, f1.base b hb h1 h2 h3⟩
    unfold outM;rw [if_neg (by omega), if_neg h1, if_neg (fun h => h.elim h2 h3)]
   have mC : c.outM w.heap.size M c.C = .own := by
    have := hO.cc
    unfold outM;rw [if_neg (show ¬ w.heap.size <= c.C from Nat.not_le.2 this), if_neg hin.cw, if_pos (.inl rfl)]
   have mM : c.outM w.heap.size M c.mt = .own := by
    have := hO.mt
    unfold outM;rw [if_neg (show ¬ w.heap.size <= c.mt from Nat.not_le.2 this), if_neg hin.mw, if_pos (.inr rfl)]
   have hheld : Held M w (c.outM w.heap.size M) w₂ := ⟨hs2, fun b hb hm => hlt2 hb (fun e => hm (by rw [e]; exact oW)) (fun e => hm (by rw [e]; exact oC)) (fun e => hm (by rw [e]; exact oM)), fun b hb => by
    unfold outM at hb;split at hb
    ·cases hb
    ·split at hb
     ·cases hb
     ·split at hb
      ·cases hb
      ·exact hb⟩
   refine hk _ _ _ _ _ _ _ _ ⟨hk₂, ⟨⟨?_, ?_, ?_, ?_, fun b o hbv h1 h2 h3 => ?_⟩, ?_, ?_, fun i hi => ?_⟩⟩ hheld hs₂
   ·exact f1.os.trans hg.os
   ·exact f1.tape.trans hg.tape
   ·exact f1.output.trans hg.output
   ·rw [ghost_size];have := hg.size
    rw [ghost_size] at this;omega
   ·have hlt : b < v.heap.size := (Array.getElem?_eq_some_iff.1 hbv).1
    have hsv : v.heap.size <= w.heap.size := by have := hg.size; rwa [ghost_size] at this
    obtain ⟨z1, z2⟩ := hlt2 (show b < w.heap.size by omega) h1 h2 h3
    rw [ghost_get, z1, z2, <- ghost_get, hg.heap b hlt];exact hbv
   ·obtain ⟨cs', z1, z2⟩ := f2;exact ⟨cs', gh_show z1 mC, z2⟩
   ·obtain ⟨cs', z1, z2, z3⟩ := f3;exact ⟨cs', gh_show z1 mM, z2, z3⟩
   ·obtain ⟨x, us, vi, r1, r2, r3, r4, r5⟩ := f4 i hi;refine ⟨us, vi, r1, r3, fun b cc e fz hbv => ?_, fun k hk => ?_⟩
    ·have hlt : b < vi.heap.size := (Array.getElem?_eq_some_iff.1 hbv).1
     rw [<- r4.heap b hlt] at hbv;obtain ⟨fz', y1, y2⟩ := gh_cells hbv;rcases Nat.lt_or_ge b w.heap.size with hb | hb
     ·have hgk : gk ob w₂.heap.size (c'.l0 + i) b = (match c'.ob0 b with | .of k' => if k' = c'.l0 + i then Kd.own else .off | .sh => .lock | .vol => .off | .off => .off) := by
       unfold gk;rw [if_neg (by omega), hlow b hb]
       rfl
      rw [hgk] at y2;have h1 : b ≠ c.Wg := fun e => by rw [e, hobW] at y2; simp at y2
      have h2 : b ≠ c.C := fun e => by rw [e, hobC] at y2; simp at y2
      have h3 : b ≠ c.mt := fun e => by rw [e, hobM] at y2; simp at y2
      obtain ⟨z1, z2⟩ := hlt2 hb h1 h2 h3;have hMb : M b ≠ .off := fun e => by rw [hob b h1 h2 h3, e] at y2; simp at y2
      cases hM : M b with
      | own => exact ⟨_, gh_show y1 (z1.trans hM)⟩
      | lock => exact ⟨_, gh_lock y1 (z1.trans hM)⟩
      | off => exact absurd hM hMb
     ·exact ⟨_, gh_show y1 (by unfold outM; rw [if_pos hb])⟩
    ·rw [<- r5 k hk (.inr (by omega))]
     obtain ⟨cs', z1, z2⟩ := f2
     show (ghost _ w₂).cell? _ = w₂.cell? ⟨c.C, c.ez * i + k, none⟩
     have e1 := gh_show z1 mC
     have z1' : w₂.heap[c.C]? = some (.cells cs' Go.ConcR.Payload.ety) := z1
     have e1' : (ghost (c.outM w.heap.size M) w₂).heap[c.C]? = some (.cells cs' Go.ConcR.Payload.ety) := e1
     simp [World.cell?, z1', e1']
end Cw
end Go.SX
namespace Go.SX
open Go Go.Conc
open Go.ConcN (WgLive PayAt Has RW DWs AtR0 EvW AsideCell)
open Go.ConcN.Gen
open Go.ConcR (KK WgAt stA smA rd wr mk Payload DC0)
open Go.Conc.Lib Go.RowKit Go.ConcR.Gen
variable {P : Program} [Level]
section
variable {main : Bool} {Stop : Goroutine -> World -> Prop} {b : Frame} {a : Act} {k : List Item} {cs : List Frame} {w : World} {ops : Array Oper} {i : Nat} {rest : List Nat} {o : Oper} {f : FuncId} {as : Array Operand} {ats : Array TypeId}
theorem exec_call (hop : o.op = .call { callee := .value (.func f), args := as, argTypes := ats }) : execOp a.eval o = callFunc f (as.map a.eval) := by
 have ef : a.eval (.func f) = .func (.func f) #[] #[] := rfl
 unfold execOp;simp [hop, resolve, Deferred.ofValue, ef, invoke]
theorem way_call {fn : Func} {c : Code} (ho : ops[i]? = some o) (hw : Region.wanted o (yielded ops a.tmps) = true) (hb : b.kind ≠ .early) (hop : o.op = .call { callee := .value (.func f), args := as, argTypes := ats })
  (hf : P.funcs[f]? = some fn) (hbd : fn.body = some c) (hn : (fn.name == "runtime.NumGoroutine") = false)
  (hk : ∀ w₁, Grow w w₁ -> Way P main Stop (G (Frame.enter P f (as.map a.eval) .normal) (b.at a (.inRegion ops (i :: rest) :: k) :: cs)) w₁) : Way P main Stop (G (b.at a (.inRegion ops (i :: rest) :: k)) cs) w := by
 have h1 : ¬ fn.name = "runtime.NumGoroutine" := by simpa using hn
 have hr : ∀ w₁ : World, (execOp a.eval o).run P w₁ = .ok (.enter f (as.map a.eval)) w₁ := fun w₁ => by
  rw [exec_call hop];simp [callFunc, hf, h1, hbd]
 refine Way.go rfl (fun w₁ g => ?_) (fun w₁ g => ⟨_, _, _, stepG_enter ho hw hb (hr w₁), hk w₁ g⟩)
 refine lock_oper ho hw hb ?_ (.inr (.inr ⟨_, _, _, hr w₁⟩))
 rw [exec_call hop];exact o_callFunc hf hbd hn
theorem way_defer (ho : ops[i]? = some o) (hw : Region.wanted o (yielded ops a.tmps) = true) (hb : b.kind ≠ .early) (hop : o.op = .defer { callee := .value (.func f), args := as, argTypes := ats })
  (hk : Way P main Stop (G (b.at (Act.put ⟨a.tmps, dcall f (as.map a.eval) :: a.defers⟩ o.dst undef) (.inRegion ops rest :: k)) cs) w) : Way P main Stop (G (b.at a (.inRegion ops (i :: rest) :: k)) cs) w :=
 Way.ctl rfl (fun _ => stepG_defer ho hw hb hop) hk
end
section
variable [Payload] {c : Cw} {b : Frame} {a : Act} {k : List Item} {cs : List Frame} {ops : Array Oper} {i : Nat} {rest : List Nat}
theorem atAdd (H : Go.Conc.Lib.WgLib c.P c.L) {j : Nat} {v : World} (hk : ∀ v', Grow v v' -> Way0 c.P true (c.AtGo j) (G (b.at (a.put ((ops[i]?).bind (·.dst)) (.tuple #[])) (.inRegion ops rest :: k)) cs) v') :
  c.AtAdd j (G (Frame.enter c.P c.L.add #[.pointer (some ⟨c.Wg, 0, none⟩), .int .i64 1] .normal) (b.at a (.inRegion ops (i :: rest) :: k) :: cs)) v :=
 ⟨rfl, fun g => g = G (b.at (a.put ((ops[i]?).bind (·.dst)) (.tuple #[])) (.inRegion ops rest :: k)) cs, fun w hl => add_script (Fin := fun g => g = G (b.at (a.put ((ops[i]?).bind (·.dst)) (.tuple #[])) (.inRegion ops rest :: k)) cs) H rfl w hl, fun g2 hg2 v' hv' => by subst hg2; exact hk v' hv'⟩
theorem atWait (H : Go.Conc.Lib.WgLib c.P c.L) {v : World} (hK : c.Kg (G (b.at (a.put ((ops[i]?).bind (·.dst)) (.tuple #[])) (.inRegion ops rest :: k)) cs)) :
  c.AtWait (G (Frame.enter c.P c.L.wait #[.pointer (some ⟨c.Wg, 0, none⟩)] .normal) (b.at a (.inRegion ops (i :: rest) :: k) :: cs)) v :=
 ⟨rfl, Anch0 c.L c.Wg (b.at a (.inRegion ops (i :: rest) :: k)) cs, fun g w hA hl => wait_round H hK g w hA hl, fun w hl => wait_start H w hl⟩
theorem atGo {j : Nat} {v : World} {o : Oper} {f : FuncId} {u : Operand} {us : Array Value} {ats : Array TypeId} (ho : ops[i]? = some o) (hw : Region.wanted o (yielded ops a.tmps) = true) (hb : b.kind ≠ .early)
  (hop : o.op = .go { callee := .value u, args := #[], argTypes := ats }) (hu : a.eval u = .func (.func f) #[] us)
  (hW : Way0 c.P false (c.AtPut j) (born c.P { target := .fn (.func f) us, args := #[] }) v) (hH : c.Hd (j + 1) (G (b.at (a.put o.dst undef) (.inRegion ops rest :: k)) cs)) :
  c.AtGo j (G (b.at a (.inRegion ops (i :: rest) :: k)) cs) v := by
 have hr : ∀ w : World, (execOp a.eval o).run c.P w = .ok (.spawn { target := .fn (.func f) us, args := #[] }) w := fun w => by
  unfold execOp;simp [hop, resolve, Deferred.ofValue, hu]
 have he : ∀ w : World, (execOp a.eval o).events c.P w #[] = #[] := fun w => by
  unfold execOp;simp [hop, resolve, Deferred.ofValue, hu]
 refine ⟨rfl, _, _, fun w => ?_, hW, hH⟩
 rw [stepG_spawn ho hw hb (hr w) rfl];unfold listed;rw [he, seen_none]
end
def botF (P : Program) : Frame := { (default : Frame) with fn := P.funcs.size, defers := [], mode := .panicking [goexitEntry] }
theorem way_born {Stop : Goroutine → World → Prop} {f : FuncId} {fn : Func} {c : Code} {us : Array Value} {w : World} (hf : P.funcs[f]? = some fn) (hbd : fn.body = some c) (hn : (fn.name == "runtime.NumGoroutine") = false)
  (hk : Way P false Stop (G ((baseD f).at { tmps := us ++ Array.replicate (fn.ntmps - us.size) undef, defers := [] } [.code c]) [botF P]) w) : Way P false Stop (born P { target := .fn (.func f) us, args := #[] }) w := by
 have h1 : ¬ fn.name = "runtime.NumGoroutine" := by simpa using hn
 refine Way.ctl rfl (fun w₁ => ?_) hk
 rw [<- enter_atD us hf hbd];simp [born, stepG, unwind, callDeferred, invoke, callFunc, hf, h1, hbd, GStep.after, seen_none, G, botF]
theorem putAt_cells : ∀ (us : List Value) (w : World) (C o : Nat), putAt w C o us = w.setCells C o us
 | [], _, _, _ => rfl
 | u :: us, w, C, o => putAt_cells us (w.setCell ⟨C, o, none⟩ u) C (o + 1)
theorem putEs_store (C o : Nat) (t : TypeId) : ∀ (vs : List Value) (i : Nat) (cur : Array Value) (w : World) (es : Array Event), w.heap[C]? = some (.cells cur t (0, 0)) -> o + i + vs.length <= cur.size -> (∀ v ∈ vs, v.oneCell' = true) ->
  (storeCells ⟨C, o, none⟩ vs i).events P w es = es ++ putEs C (o + i) vs.length
 | [], _, _, _, es, _, _, _ => by simp [storeCells, putEs]
 | v :: rest, i, cur, w, es, hg, hl, h1 => by
  have hi : o + i < cur.size := by simp at hl; omega
  have hadd : (⟨C, o, none⟩ : Addr).add i = ⟨C, o + i, none⟩ := by unfold Addr.add; split <;> simp_all
  have hcell : w.cell? ⟨C, o + i, none⟩ = some cur[o + i] := by simp [World.cell?, hg, hi]
  have hfro : w.frozen? ⟨C, o + i, none⟩ = false := by simp [World.frozen?, hg]
  have hst : (store ((⟨C, o, none⟩ : Addr).add i) v).run P w = .ok () (w.setRow C (cur.setIfInBounds (o + i) v)) := by
   rw [hadd, run_store P w _ v _ (h1 v (by simp)), hcell]
   simp [hfro, setCell_eq_setRow w C (o + i) cur t (0, 0) v hg]
  have hev : (store ((⟨C, o, none⟩ : Addr).add i) v).events P w es = es.push ⟨.cell ⟨C, o + i, none⟩, true, false⟩ := by
   rw [hadd, events_store P w es _ v _ (h1 v (by simp)), hcell]
   simp only [hfro, Bool.false_eq_true, if_false];rfl
  simp only [storeCells, Sem.events_bind, hst, Result.evThen_ok, hev];rw [putEs_store C o t rest (i + 1) (cur.setIfInBounds (o + i) v) (w.setRow C (cur.setIfInBounds (o + i) v)) _ (setRow_heap w C cur _ t _ hg) (by simp at hl ⊢; omega) (fun x hx => h1 x (by simp [hx]))]
  simp only [List.length_cons, putEs];rw [Array.push_eq_append, Array.append_assoc, show o + (i + 1) = o + i + 1 by omega]
theorem quitsTail {f : FuncId} {fn : Func} (hf : P.funcs[f]? = some fn) (hres : fn.results = #[]) (T : Array Value) (td : List Item) : QuitsD P 2 0 (G { (baseD f).at ⟨T, []⟩ td with mode := .returning } [botF P]) := by
 refine QuitsD.ctl (g' := G (botF P) []) rfl (fun w => ?_) ?_
 ·simp [G, stepG, unwind, doReturn, results, Frame.at, baseD, botF, hf, hres, seen_none, GStep.after, goexitEntry]
 refine QuitsD.ctl (g' := { G (botF P) [] with status := .finished }) rfl (fun w => ?_) ⟨rfl, rfl⟩
 simp [G, stepG, unwind, botF, goexitEntry, Frame.catches]
 rfl
section
variable [Payload] {c : Cw} {a : Act} {ops : Array Oper} {L : Nat}
set_option maxRecDepth 100000 in
theorem put_tail (H : Go.Conc.Lib.WgLib c.P c.L) {f : FuncId} {fn : Func} {i : Nat} {x0 : Value} (hf : c.P.funcs[f]? = some fn) (hres : fn.results = #[]) (T : Array Value) (w : World)
  (hK : WgLive c.L.tWg c.Wg w /\ Has c.C (c.ez * i) x0 w) :
  Goes c.P false (Go.ConcN.RW c.L.tWg c.Wg c.C c.N 0 (c.ez * i)) (Go.ConcN.DWs c.Wg Cw.no Cw.no c.C c.N (c.ez * i + 1)) (Go.ConcN.AtR0 c.P c.L.tWg c.Wg c.C c.N 0 (c.ez * i + 1) x0) 26
   (G ((baseD f).at ⟨T, [dcall c.L.done #[.pointer (some ⟨c.Wg, 0, none⟩)]]⟩ [.inRegion ops []]) [botF c.P]) w := by
 u_c stepG_region_end Go.ConcN.Gen.kn_rely hK
 u_c stepG_end Go.ConcN.Gen.kn_rely hK
 u_in Go.ConcN.Gen.kn_rely hK
 rw [stepG_unwind_enter rfl H.f_done (nm_done c.L) rfl];simp only [goes_go];refine ⟨by u_nil, ?_⟩
 exact doneN (L := c.L) (k := c.ez * i + 1) H rfl (quitsTail hf hres T []) _ hK
set_option maxRecDepth 100000 in
set_option maxHeartbeats 1000000 in
theorem atPut (H : Go.Conc.Lib.WgLib c.P c.L) {f : FuncId} {fn : Func} {i : Nat} {v : World} {o : Oper} {T : TypeId} {x y : Operand} {us : List Value} (hf : c.P.funcs[f]? = some fn) (hres : fn.results = #[]) (hq : (c.P.funcs[f]?).any (·.norace) = false)
  (hd : a.defers = [dcall c.L.done #[.pointer (some ⟨c.Wg, 0, none⟩)]]) (ho : ops[L]? = some o) (hw : Region.wanted o (yielded ops a.tmps) = true) (hdst : o.dst = none) (hop : o.op = .store T x y)
  (hx : a.eval x = .pointer (some ⟨c.C, c.ez * i, none⟩)) (hy : (a.eval y).cells.toList = us) (hlen : us.length = c.ez) (hez : 0 < c.ez) (hT : c.P.cellsOf T = c.ez) (hs : ∀ u ∈ us, single u) (hi : i < c.n) (hsz0 : c.n * c.ez <= c.sz) (hcw : c.C ≠ c.Wg) (hR : c.R i us v) :
  c.AtPut i (G ((baseD f).at a [.inRegion ops [L]]) [botF c.P]) v := by
 obtain ⟨x0, hx0⟩ : ∃ x0, us[0]? = some x0 := ⟨us[0]'(by omega), List.getElem?_eq_getElem (by omega)⟩
 refine ⟨rfl, us, x0, hlen, hx0, hR, fun w hl hp => ?_⟩
 have hp' := hp
 obtain ⟨cs, hC, hsz⟩ := hp';have hroom : c.ez * i + us.length <= cs.size := by
  rw [hsz, hlen];have : c.ez * i + c.ez = c.ez * (i + 1) := by rw [Nat.mul_add, Nat.mul_one]
  rw [this]; exact Nat.le_trans (Nat.mul_le_mul_left _ hi) (by rw [Nat.mul_comm]; exact hsz0)
 have hT' : c.P.cellsOf T = us.length := hT.trans hlen.symm
 have hrun := run_storeVar (P := c.P) (T := T) (v := a.eval y) hy hT' (by omega) hs hC hroom (noFz0 _)
 have hr : (execOp a.eval o).run c.P w = .ok .skip (putAt w c.C (c.ez * i) us) := by
  rw [putAt_cells];unfold execOp;simp only [hop, hx];have := run_storeAt (P := c.P) hrun
  simp [this]
 have hev : (execOp a.eval o).events c.P w #[] = putEs c.C (c.ez * i) c.ez := by
  unfold execOp;simp only [hop, hx];have hcs := putEs_store (P := c.P) c.C (c.ez * i) Payload.ety us 0 cs w #[] hC (by omega) (single_all hs)
  have hszv : (a.eval y).cells.size = c.P.cellsOf T := by rw [hT', <- hy, Array.length_toList]
  have hszr : (sizeOf T).run c.P w = .ok (c.P.cellsOf T) w := run_sizeOf_pos (by omega) w
  simp only [Sem.events_bind, Instr.storeAt, Instr.sureAddr, storeVar, hszr, hszv, hy];have hrc : (storeCells ⟨c.C, c.ez * i, none⟩ us).run c.P w = .ok () (w.setCells c.C (c.ez * i) us) := by
   obtain ⟨s1, s2⟩ := cells_there hC hroom (noFz0 _);have := run_storeCells_cells (P := c.P) c.C (c.ez * i) us 0 w (by simpa using s1) (by simpa using s2) (single_all hs)
   simpa using this
  simp only [Sem.run_bind, hszr, Result.andThen_ok, ne_eq, not_true, if_false, Result.evThen_ok, hrc, hcs, Array.empty_append, Nat.add_zero, hlen, events_sizeOf];simp [hszr, hrc, hcs, hlen]
 have hst : stepG c.P false (G ((baseD f).at a [.inRegion ops [L]]) [botF c.P]) w = .go (G ((baseD f).at (a.put o.dst undef) [.inRegion ops []]) [botF c.P]) (putAt w c.C (c.ez * i) us) (putEs c.C (c.ez * i) c.ez) := by
  rw [stepG_none ho hw (by simp [baseD]) hr]
  unfold listed;rw [show (baseD f).fn = f from rfl, hev, seen_eq hq fun e he g => by obtain ⟨q, _, rfl⟩ := putEs_mem he; simp]
 refine ⟨_, 26, hst, ?_⟩
 have hpo := putAt_ok (us := us) (w := w) (C := c.C) (o := c.ez * i)
 have hK : WgLive c.L.tWg c.Wg (putAt w c.C (c.ez * i) us) /\ Has c.C (c.ez * i) x0 (putAt w c.C (c.ez * i) us) := by
  refine ⟨?_, ?_⟩
  ·obtain ⟨st, sm, hl⟩ := hl;exact ⟨st, sm, hl.of_block (hpo.block c.Wg (Ne.symm hcw))⟩
  ·have := hpo.cell 0 (by omega) ⟨cs[c.ez * i]'(by omega), by simp [World.cell?, hC, show c.ez * i < cs.size by omega]⟩
   unfold Has;rw [<- hx0, <- this, Nat.add_zero]
 have hda : a.put o.dst undef = ⟨a.tmps, [dcall c.L.done #[.pointer (some ⟨c.Wg, 0, none⟩)]]⟩ := by
  rw [hdst, <- hd]; rfl
 rw [hda];exact put_tail H hf hres _ _ hK
end
end Go.SX
namespace Go.SX
open Go Go.Conc
variable {P : Program} {GL : GlobT} {E E' E0 : Env} {S : Tab} [Level]
section
variable {main : Bool} {Stop : Goroutine -> World -> Prop} {b : Frame} {kk : List Item} {cs : List Frame}
theorem way_pieceT (hsp : SpecOk P S) (hm : P.follows .mixedOrders = true) (hb : b.kind ≠ .early) (h0 : E0.H = []) (x : Ext E0 E) {un : Code -> Bool} {ds : List Deferred} {n : Nat} {is k : List Item} {s s' : St} {a : Act} {cs0 bs : List Bool} {keep unl ids : List Nat}
  (h : pieceT keep unl ids cs0 (runK S P un n is s) = some (bs, k, s')) (he : bs = cs0) (hids : idsOk 0 ids = true) (hs : Rp S.gl E s a ds)
  (hk : ∀ E' a', Ext E0 E' -> Rp S.gl E' s' a' ds -> Way P main Stop (G (b.at a' (k ++ kk)) cs) E'.w) : Way P main Stop (G (b.at a (is ++ kk)) cs) E.w := by
 unfold pieceT at h;split at h
 ·rename_i bs' k' s1 hp;simp only [Option.some.injEq, Prod.mk.injEq] at h;obtain ⟨rfl, rfl, rfl⟩ := h;refine way_piece hsp hm hb hp he hs fun E' a' x' hs' => ?_
  obtain ⟨h1, h2⟩ := idsOk_spec hids;have hc : Rp S.gl (cutE E' ids) (s1.cut keep ids) a' ds := ⟨cut_rep hs'.h h1, by show ids.map _ = ids.map _; rw [hs'.eq], cut_t hs'.t, hs'.d⟩
  exact hk (cutE E' ids) a' (cut_ext (x.trans x') h2 (by rw [h0]; exact Nat.le_refl _)) ⟨hc.h, hc.eq, unlT_rel hc.t, hc.d⟩
 ·cases h
theorem way_alloc {a : Act} {k : List Item} {w : World} {ops : Array Oper} {i : Nat} {rest : List Nat} {o : Oper} {T : TypeId} {z : Value} (ho : ops[i]? = some o) (hw : Region.wanted o (yielded ops a.tmps) = true) (hb : b.kind ≠ .early) (hop : o.op = .alloc T)
  (hz : ∀ w, (zeroValue T).run P w = .ok z w)
  (hk : ∀ w₁, Grow w w₁ -> Way P main Stop (G (b.at (a.put o.dst (.pointer (some ⟨w₁.heap.size, 0, none⟩))) (.inRegion ops rest :: k)) cs) (w₁.alloc (.cells z.cells T))) : Way P main Stop (G (b.at a (.inRegion ops (i :: rest) :: k)) cs) w := by
 have hr : ∀ w₁ : World, (execOp a.eval o).run P w₁ = .ok (.value (.pointer (some ⟨w₁.heap.size, 0, none⟩))) (w₁.alloc (.cells z.cells T)) := fun w₁ => by
  unfold execOp;have h3 : (newVar T z).run P w₁ = .ok ⟨w₁.heap.size, 0, none⟩ (w₁.alloc (.cells z.cells T)) := rfl
  simp [hop, Instr.alloc, hz, h3]
 refine Way.go rfl (fun w₁ g => ?_) (fun w₁ g => ⟨_, _, _, stepG_value ho hw hb (hr w₁), hk w₁ g⟩)
 refine lock_oper ho hw hb ?_ (.inl ⟨_, _, hr w₁⟩)
 unfold execOp;simp only [hop];exact v_obl b_alloc.obl
end
theorem grow_alloc (w : World) (o : Obj) : Grow w (w.alloc o) := ⟨rfl, rfl, rfl, by show w.heap.size <= (w.heap.push o).size; simp, fun k hk => by show (w.heap.push o)[k]? = _; rw [Array.getElem?_push, if_neg (by omega)]⟩
def SubF (E E' : Env) : Prop := ∀ k, E.R k -> E'.R k /\ ∀ c e fz, E.w.heap[k]? = some (.cells c e fz) -> ∃ fz', E'.w.heap[k]? = some (.cells c e fz')
theorem RoSl.onSubF {sz : Nat} {α : Type} {Q Q' : α -> List Value -> Prop} {xs : List α} {len : Nat} {v : Value} (s : SubF E E') (hq : ∀ a us, Q a us -> Q' a us) (h : RoSl E sz Q xs len v) : RoSl E' sz Q' xs len v := by
 obtain ⟨a, cap, h1, h2, h3, h4, h5, h6⟩ := h;refine ⟨a, cap, h1, h2, h3, h4, h5, fun hne => ?_⟩
 obtain ⟨k, off, c, e, fz, g1, g2, g3, g4⟩ := h6 hne;obtain ⟨fz', g5⟩ := (s k g2).2 c e fz g3;exact ⟨k, off, c, e, fz', g1, (s k g2).1, g5, g4.mono hq⟩
theorem RoT.subF (s : SubF E E') : ∀ (t : DTy) (d : t.den) (vs : List Value), t.rf = false -> RoT E t d vs -> RoT E' t d vs
 | .unit, _, _, _, h => h
 | .int _, _, _, _, h => h
 | .bool, _, _, _, h => h
 | .str, _, _, _, h => h
 | .ws _ _, _, _, _, h => h
 | .pair a b, d, vs, hf, h => by
  have hf : (a.rf || b.rf) = false := hf
  rw [Bool.or_eq_false_iff] at hf;obtain ⟨v1, v2, h1, h2, h3⟩ := h;exact ⟨v1, v2, h1, RoT.subF s a _ _ hf.1 h2, RoT.subF s b _ _ hf.2 h3⟩
 | .sl t, d, vs, hf, h => by
  obtain ⟨v, h1, h2⟩ := h;exact ⟨v, h1, RoSl.onSubF s (fun a us => RoT.subF s t a us hf) h2⟩
 | .ref, _, _, hf, _ => by cases hf
 | .vp, _, _, _, h => h
theorem RelRp.subF {t : DTy} {d : t.den} {o k : Nat} {v : Value} (s : SubF E E') (hf : t.rf = false) (h : RelRp E t d o k v) : RelRp E' t d o k v := by
 obtain ⟨kb, off, c, e, fz, us, h1, h2, h3, h4, h5, h6⟩ := h;obtain ⟨fz', g5⟩ := (s kb h2).2 c e fz h3;exact ⟨kb, off, c, e, fz', us, h1, (s kb h2).1, g5, RoT.subF s t d us hf h4, h5, h6⟩
theorem ro_rep (hE : RepH GL E) {w : World} {R : Nat -> Prop} (hs : SubF E ⟨fun _ => none, [], w, R⟩) (hR : ∀ k, R k -> k < w.heap.size) : RepH GL ⟨fun _ => none, [], w, R⟩ where
 ro := fun k hk => ⟨hR k hk, fun b hb => by cases hb⟩
 inj := fun b b' k hb => by cases hb
 blk := fun b => trivial
 glob := fun g t d hg => ⟨RelRp.subF hs (hE.glob g t d hg).2 (hE.glob g t d hg).1, (hE.glob g t d hg).2⟩
theorem rp_var {t : DTy} {d : t.den} {k : Nat} {cs : Array Value} {e : TypeId} {fz : Nat × Nat} (hR : E.R k) (hw : E.w.heap[k]? = some (.cells cs e fz)) (hd : RoT E t d cs.toList) : RelRp E t d 0 0 (.pointer (some ⟨k, 0, none⟩)) := by
 refine ⟨k, 0, cs, e, fz, cs.toList, rfl, hR, hw, hd, RoT.len hd, fun j hj => ?_⟩
 rw [Nat.zero_add, Array.getElem?_toList]
end Go.SX
namespace Go.SX
open Go
variable {P : Program} {S : Tab} [Level]
end Go.SX
