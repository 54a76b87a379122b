/- PartyMoves: the ways through the loop over moves, behind Poly and Share. -/
import Derived.Test.YtdblbibjggeikaaGreatDoorG8
set_option linter.unusedSectionVars false
set_option linter.unusedVariables false
set_option linter.unusedSimpArgs false
namespace Go.Sc
open Go Go.SX Go.Proofs
variable [Level] [Lone]
def shTw (x : PaA) (e : List Int) : List Int := shTx x e (2 + x.p).toNat
def dhTw (y : DpA) (e : List Int) : List Int := dhTx y e (limbs (val y.z ^ (2 + y.p).toNat % ell))
def eqB (a b : List Int) : Bool := (a == b && true) == true
section
variable (ms : List MV.den) (n i : Nat) (l : Bool) (x : PaA) (k : Nat) (l0 r0 r1 : List (List Int)) (y : DpA)
theorem mb_p : pieceT kpM [22] (List.range 10) [true, true, false, true, true, true, true, true, false] (pmR pmK6 (pmTB ms n l 2 x k l0 r0 r1 y 1 i)) =
  some (pmI i n ++ [mvA ms i, okF x k x.nl k k && true, true, true, true, true, false], pmK6, pmTB ms n false 2 x k l0 r0 r1 y 1 (iw ((i : Int) + 1))) := by kernel_rfl
theorem mb_x : pieceT kpM [22] (List.range 10) [true, true, true, true, true, true, true, true, true, true, true, false] (pmR pmK6 (pmTB ms n l 2 x k l0 r0 r1 y 1 i)) =
  some (pmI i n ++ [mvA ms i, okF x k x.nl k k, shOk x k, decide (val (mvXi ms i) % ell = 0), decide (val (leL (mvXi ms i)) = 0), true, true, true, true, false], pmK6, pmTB ms n false 2 x k l0 r0 r1 y 1 (iw ((i : Int) + 1))) := by kernel_rfl
theorem mb_s : pieceT kpM [22] (List.range 10) [true, true, true, true, true, false, false, true, true, true, true, true, true, true, true, false, true] (pmR pmK6 (pmTB ms n l 2 x k l0 r0 r1 y 1 i)) =
  some (pmI i n ++ [mvA ms i, okF x k x.nl k k, shOk x k, decide (val (mvXi ms i) % ell = 0), decide (val (leL (mvXi ms i)) = 0), dlOk y y.z && decide (val y.a < ell), decide (x.p = y.p) == true,
   eqB (shTw x (mvXi ms i)) (dhTw y (leL (mvXi ms i))), eqB (shMu x (mvXi ms i)) (dhMu y (leL (mvXi ms i))), eqB (limbs (inn (shL (mvXi ms i) k x l0) (shRt (mvXi ms i) k r0 r1) k % ell)) (limbs (inn (mpL (dhL y (leL (mvXi ms i))) y.b.toNat) (mpL (dhQ y (leL (mvXi ms i))) y.b.toNat) y.b.toNat % ell)),
   snB (shL (mvXi ms i) k x l0) (mpL (dhL y (leL (mvXi ms i))) y.b.toNat) k y.b.toNat, true, snB (shRt (mvXi ms i) k r0 r1) (mpL (dhQ y (leL (mvXi ms i))) y.b.toNat) k y.b.toNat, false,
   decide (((shL (mvXi ms i) k x l0).length = k /\ (shRt (mvXi ms i) k r0 r1).length = k) /\ k <= 1048500 /\ k <= 1048500)], pmK6, pmTB ms n true 3 x k l0 r0 r1 y 2 (iw ((i : Int) + 1))) := by kernel_rfl
theorem mb_e (ph q : Int) : endT Tryz.prog Tryz.f4 [] [false] (pmR pmK6 (pmTB ms n l ph x k l0 r0 r1 y q i)) = some ([decide ((i : Int) < n)], .one (.c (.bool true true)), []) := by kernel_rfl
theorem mc_p : pieceT kpM [22] (List.range 10) [true, true, false, true, true, true, true, true, false] (pmR pmK6 (pmTB ms n l 3 x k l0 r0 r1 y 2 i)) =
  some (pmI i n ++ [mvA ms i, okF x k x.nl k k && true, true, true, true, true, false], pmK6, pmTB ms n false 3 x k l0 r0 r1 y 2 (iw ((i : Int) + 1))) := by kernel_rfl
theorem mc_l : pieceT kpM [22] (List.range 10) [true, true, true, true, true, true, true, true, true, false] (pmR pmK6 (pmTB ms n l 3 x k l0 r0 r1 y 2 i)) =
  some (pmI i n ++ [mvA ms i, okF x k x.nl k k && true, true, true, true, true, true, false], pmK6, pmTB ms n false 3 x k l0 r0 r1 y 2 (iw ((i : Int) + 1))) := by kernel_rfl
end
def Cl (a b : Int) : Prop := a % ell = b % ell
theorem Cl.refl (a : Int) : Cl a a := rfl
theorem Cl.symm {a b : Int} (h : Cl a b) : Cl b a := Eq.symm h
theorem Cl.trans {a b c : Int} (h : Cl a b) (g : Cl b c) : Cl a c := Eq.trans h g
theorem Cl.add {a b c d : Int} (h : Cl a b) (g : Cl c d) : Cl (a + c) (b + d) := by
 unfold Cl at *;rw [Int.add_emod, h, g, <- Int.add_emod]
theorem Cl.mul {a b c d : Int} (h : Cl a b) (g : Cl c d) : Cl (a * c) (b * d) := by
 unfold Cl at *;rw [Int.mul_emod, h, g, <- Int.mul_emod]
theorem Cl.sum {f g : Nat -> Int} {n : Nat} (h : ∀ i, i < n -> Cl (f i) (g i)) : Cl (sumN f n) (sumN g n) := sumN_mod h
theorem cg_mod (x : Int) : Cl (x % ell) x := Int.emod_emod_of_dvd _ (Int.dvd_refl _)
theorem cg_val (x : Int) : Cl (val (limbs (x % ell))) x := by rw [val_mod]; exact cg_mod x
theorem cg_le (x : List Int) : Cl (val (leL x)) (val x) := cg_val _
theorem Cl.limbs {x y : Int} (h : Cl x y) : Go.Sc.limbs (x % ell) = limbs (y % ell) := congrArg _ h
theorem leL_mod (x : Int) : leL (limbs (x % ell)) = limbs (x % ell) := by
 unfold leL;exact (cg_val x).limbs
theorem val_leL (x : List Int) : val (leL x) = val x % ell := val_mod _
theorem leL_lt (x : List Int) : val (leL x) < ell := by rw [val_leL]; exact (mod_bound _).2
theorem inn_cg {xs ys xs' ys' : List (List Int)} {n : Nat} (h : ∀ i, i < n -> Cl (val (xs.getD i zL)) (val (xs'.getD i zL))) (g : ∀ i, i < n -> Cl (val (ys.getD i zL)) (val (ys'.getD i zL))) : Cl (inn xs ys n) (inn xs' ys' n) :=
 Cl.sum fun i hi => (h i hi).mul (g i hi)
theorem comS_cg {B D v d B' D' v' d' : List Int} (h1 : Cl (val B) (val B')) (h2 : Cl (val D) (val D')) (h3 : Cl (val v) (val v')) (h4 : Cl (val d) (val d')) : Cl (comS B D v d) (comS B' D' v' d') :=
 (h3.mul h1).add (h4.mul h2)
theorem val_one (x : Int) : val [x, 0, 0, 0] = x := by rw [val4]; omega
theorem lnB_mk {a k : List Int} (h : leL a = k) : lnB a 2 k = true := by
 unfold lnB;rw [if_neg (by decide), h, beq_self_eq_true]; rfl
theorem lnB_cl {x y : Int} (h : Cl x y) : lnB (limbs (x % ell)) 2 (limbs (y % ell)) = true := lnB_mk ((leL_mod x).trans h.limbs)
structure Twp (x : PaA) (y : DpA) : Prop where
 B : Cl (val x.B) (val y.s.B)
 D : Cl (val x.D) (val y.s.D)
 b : x.b = y.b
 p : x.p = y.p
 v : x.v = y.v
 d : Cl (val x.d) (val y.d)
 a : Cl (val x.a) (val y.a)
 r : Cl (val x.r) (val y.r)
 t1 : Cl (val x.t1) (val y.t1)
 t2 : Cl (val x.t2) (val y.t2)
 sl : ∀ i, i < x.b.toNat -> x.SL.getD i zL = y.sl.getD i zL
 sr : ∀ i, i < x.b.toNat -> x.SR.getD i zL = y.sr.getD i zL
 nl : x.nl = x.b.toNat
 nr : x.nr = x.b.toNat
 ml : y.nl = x.b.toNat
 mr : y.nr = x.b.toNat
 bb : 1 <= x.b /\ x.b <= 64
 pp : 0 <= x.p /\ x.p <= 16
 n1 : y.s.n1 = 2
 n2 : y.s.n2 = 2
 az : val y.a < ell
structure Twz (x : PaA) (y : DpA) : Prop extends Twp x y where
 hy : x.y = y.y
 hz : x.z = y.z
 zz : val y.z < ell
theorem Twp.poly {x : PaA} {y : DpA} (h : Twp x y) (Y Z : List Int) : Twz (poX x Y Z) (dyX y (leL Y) (leL Z)) :=
 ⟨⟨h.B, h.D, h.b, h.p, h.v, h.d, h.a, h.r, h.t1, h.t2, h.sl, h.sr, h.nl, h.nr, h.ml, h.mr, h.bb, h.pp, h.n1, h.n2, h.az⟩, rfl, rfl, leL_lt Z⟩
section
variable {x : PaA} {y : DpA} (h : Twz x y)
include h
theorem Twz.dl : dlOk y y.z = true := by
 have hb := h.b
 have hp := h.p
 exact deT ⟨by rw [<- hb]; exact h.bb, by rw [<- hp]; exact h.pp, by rw [<- hb]; exact h.ml, by rw [<- hb]; exact h.mr, h.zz⟩
theorem Twz.l0 : poA x = mpL (dg0 y y.z) x.b.toNat :=
 List.map_congr_left fun i hi => by
  have hi := List.mem_range.1 hi
  show poL ((pbEs x.v x.b.toNat).getD (0 + i) zL) x.z = poL (pbE y.v i) y.z
  rw [Nat.zero_add, show (pbEs x.v x.b.toNat).getD i zL = pbE x.v i from map_range_getD (pbE x.v) _ i zL hi, h.v, h.hz]
theorem Twz.l1 {i : Nat} (hi : i < x.b.toNat) : x.SL.getD i zL = dg1 y i := h.sl i hi
theorem Twz.ys {i : Nat} (hi : i < x.b.toNat) : (poYs x).getD (0 + i) zL = dgY y y.y i := by
 rw [Nat.zero_add, show (poYs x).getD i zL = ppY x.y (x.p * x.b).toNat i from map_range_getD (ppY x.y (x.p * x.b).toNat) _ i zL hi, h.hy, h.p, h.b]; rfl
theorem Twz.r1 : poD x = mpL (dg3 y y.y) x.b.toNat :=
 List.map_congr_left fun i hi => by
  have hi := List.mem_range.1 hi
  show poR1 ((poYs x).getD (0 + i) zL) (x.SR.getD (0 + i) zL) = mulL (dgY y y.y i) (y.sr.getD i zL)
  rw [h.ys hi, Nat.zero_add, h.sr i hi]; rfl
theorem Twz.r0 : poC x = mpL (dg2 y y.y y.z) x.b.toNat :=
 List.map_congr_left fun i hi => by
  have hi := List.mem_range.1 hi
  show poR0 ((poYs x).getD (0 + i) zL) ((pbFs x.v x.b.toNat).getD (0 + i) zL) ((poZs x).getD (0 + i) zL) x.z = dlR0 (dgY y y.y i) (dgW y y.z i) (pbE y.v i) y.z
  have e1 : (pbFs x.v x.b.toNat).getD (0 + i) zL = pbF y.v i := by
   rw [Nat.zero_add, show (pbFs x.v x.b.toNat).getD i zL = pbF x.v i from map_range_getD (pbF x.v) _ i zL hi, h.v]
  have e2 : (poZs x).getD (0 + i) zL = ppZ y.z (2 + y.p).toNat i := by
   rw [Nat.zero_add, show (poZs x).getD i zL = ppZ x.z (2 + x.p).toNat i from map_range_getD (ppZ x.z (2 + x.p).toNat) _ i zL hi, h.hz, h.p]
  rw [h.ys hi, e1, e2, h.hz];unfold poR0 dlR0 dlPr;refine (Cl.add (.refl _) ?_).limbs
  unfold ppZ dgW;rw [val_one];exact (cg_val _).trans ((Cl.mul (cg_val _) (.refl _)).symm.trans (cg_val _).symm)
end
theorem cl_mul (a b : List Int) : Cl (val (mulL a b)) (val a * val b) := cg_val _
theorem cl_ad (a b : List Int) : Cl (val (adL a b)) (val a + val b) := cg_val _
theorem mulL_cl {a b c d : List Int} (h : Cl (val a) (val c)) (g : Cl (val b) (val d)) : Cl (val (mulL a b)) (val (mulL c d)) := (cl_mul a b).trans ((h.mul g).trans (cl_mul c d).symm)
theorem adL_cl {a b c d : List Int} (h : Cl (val a) (val c)) (g : Cl (val b) (val d)) : Cl (val (adL a b)) (val (adL c d)) := (cl_ad a b).trans ((h.add g).trans (cl_ad c d).symm)
theorem adL_eq {a b c d : List Int} (h : Cl (val a) (val c)) (g : Cl (val b) (val d)) : adL a b = adL c d := (h.add g).limbs
theorem eqB_rfl {a b : List Int} (h : a = b) : eqB a b = true := by
 unfold eqB;rw [h, beq_self_eq_true]; rfl
section
variable {x : PaA} {y : DpA} (h : Twz x y)
include h
theorem Twz.i1 (r : List (List Int)) : Cl (inn x.SL r x.nl) (inn (mpL (dg1 y) x.b.toNat) r x.b.toNat) := by
 rw [h.nl];refine inn_cg (fun i hi => ?_) fun i hi => .refl _
 rw [h.l1 hi, mpL_get _ hi];exact .refl _
theorem Twz.s1 : lnB (poS1 x) 2 (dyS1 y y.y y.z) = true := by
 unfold poS1 dyS1;refine lnB_cl (comS_cg h.B h.D ?_ h.t1)
 rw [<- h.b, h.l0, h.r0, h.r1]
 show Cl (val (limbs _)) (val (limbs _))
 refine (cg_val _).trans (Cl.trans (Cl.add (.refl _) ?_) (cg_val _).symm)
 exact (cg_val _).trans ((h.i1 _).trans (cg_val _).symm)
theorem Twz.s2 : lnB (poS2 x) 2 (dyS2 y y.y) = true := by
 unfold poS2 dyS2;refine lnB_cl (comS_cg h.B h.D ?_ h.t2)
 rw [<- h.b, h.r1];exact (cg_val _).trans ((h.i1 _).trans (cg_val _).symm)
variable {e e' : List Int} (he : Cl (val e) (val e'))
include he
theorem Twz.tx : eqB (shTw x e) (dhTw y e') = true := by
 refine eqB_rfl (adL_eq (adL_cl (mulL_cl h.t1 he) ?_) (mulL_cl ?_ h.d))
 ·refine (cl_mul _ _).trans (Cl.trans (Cl.mul h.t2 ((cl_mul _ _).trans (he.mul he))) ?_)
  rw [<- Int.mul_assoc];exact (Cl.mul (cl_mul _ _) (.refl _)).symm.trans (cl_mul _ _).symm
 ·rw [h.hz, h.p];exact .refl _
theorem Twz.mu : eqB (shMu x e) (dhMu y e') = true := eqB_rfl (adL_eq h.a (mulL_cl h.r he))
theorem mix_eq {a b p q : List Int} (ha : Cl (val a) (val p)) (hb : Cl (val b) (val q)) : mixE oneL e a b = dhM e' p q := by
 unfold mixE dhM;refine (Cl.add ?_ ?_).limbs
 ·refine (cg_val _).trans ?_
  rw [show oneL = [1, 0, 0, 0] from rfl, val_one, Int.one_mul]
  exact ha
 ·refine (cg_val _).trans (Cl.trans (he.mul hb) ?_)
  rw [Int.mul_comm];exact (cg_val _).symm
theorem Twz.L : shL e x.b.toNat x (poA x) = mpL (dhL y e') x.b.toNat :=
 List.map_congr_left fun i hi => by
  have hi := List.mem_range.1 hi
  show mixE oneL e ((poA x).getD i zL) (x.SL.getD i zL) = dhM e' (dg0 y y.z i) (dg1 y i)
  rw [h.l0, mpL_get _ hi, h.l1 hi];exact mix_eq h he (.refl _) (.refl _)
theorem Twz.R : shRt e x.b.toNat (poC x) (poD x) = mpL (dhQ y e') x.b.toNat :=
 List.map_congr_left fun i hi => by
  have hi := List.mem_range.1 hi
  show mixE oneL e ((poC x).getD i zL) ((poD x).getD i zL) = dhM e' (dg2 y y.y y.z i) (dg3 y y.y i)
  rw [h.r0, h.r1, mpL_get _ hi, mpL_get _ hi];exact mix_eq h he (.refl _) (.refl _)
end
theorem vec_cf {D a : List Int} {l r : List (List Int)} {gs hs : List PL.den} {n f : Nat} {s : DsA} {a' : List Int} {l' r' : List (List Int)} (hD : Cl (val D) (val s.D)) (ha : Cl (val a) (val a'))
  (hl : ∀ i, i < n -> l.getD i zL = l'.getD i zL) (hr : ∀ i, i < n -> r.getD i zL = r'.getD i zL)
  (hg : ∀ i, i < n -> Cl (val (gK gs i)) (val (eL s.gs (f + i))) /\ Cl (val (gK hs i)) (val (eL s.hs (f + i)))) : Cl (vecS D a l r gs hs n n) (vecF s a' l' r' f n) := by
 unfold vecS vecF vecN;rw [sumN_add, Int.add_assoc, Int.mul_comm (val s.D)];refine (ha.mul hD).add ((Cl.sum fun i hi => ?_).add (Cl.sum fun i hi => ?_))
 ·rw [Int.mul_comm (val (eL s.gs (f + i))), hl i hi];exact (Cl.refl _).mul (hg i hi).1
 ·rw [Int.mul_comm (val (eL s.hs (f + i))), hr i hi];exact (Cl.refl _).mul (hg i hi).2
theorem cutP_get {gs : List PL.den} {f b : Int} (h0 : 0 <= f) (hb : 0 <= b) {i : Nat} (hi : i < b.toNat) : gK (cutP gs f (f + b)) i = gK gs (f.toNat + i) := by
 unfold gK cutP;rw [List.getD_eq_getElem?_getD, List.getD_eq_getElem?_getD, List.getElem?_take_of_lt (by omega), List.getElem?_drop]
theorem gK_l (G : List (List Int)) {n i : Nat} (h : i < n) : gK (mqlL G n) i = G.getD i zL := by
 unfold gK mqlL;rw [map_range_getD (mqlE G) n i PL.dflt h];rfl
theorem edK_o (G : List (List Int)) {n i : Nat} (h : i < n) : eK (mqoL G n) i = 2 /\ eL (mqoL G n) i = leL (G.getD i zL) := by
 unfold eK eL mqoL;rw [map_range_getD (mqoE G) n i ED.dflt h];exact ⟨rfl, rfl⟩
theorem twin_get {l : List (List Int)} {n i : Nat} (m : List Int) (hn : n = l.length) (h : i < n) : (lsL (l.take n ++ [m]) n).getD i zL = (mqnL l n).getD i zL := by
 have e1 : (lsL (l.take n ++ [m]) n).getD i zL = lsM ((l.take n ++ [m]).getD i zL) := map_range_getD (fun i => lsM ((l.take n ++ [m]).getD i zL)) n i zL h
 have e2 : (mqnL l n).getD i zL = leL (l.getD i zL) := map_range_getD (mqnE l) n i zL h
 rw [e1, e2];subst hn;rw [List.take_length, List.getD_eq_getElem?_getD, List.getElem?_append_left h, <- List.getD_eq_getElem?_getD]
 rfl
structure PcOk (s : PcA) (t : T6) (nl nr : Nat) : Prop where
 bg : s.ng <= 1048576 /\ s.nh <= 1048576
 l : nl = t.l.length
 r : nr = t.rr.length
 bl : nl <= 1048575 /\ nr <= 1048575
section
variable {s : PcA} {j : Int} {o : OP.den} {t : T6} {nl nr : Nat} (ho : PcOk s t nl nr) (h0 : pmjE (pmJ s j o t nl nr) = 0)
include ho h0
theorem pm_nums : (1 <= s.b /\ s.b <= 64) /\ (0 <= j /\ j <= 16) /\ nl = s.b.toNat /\ nr = s.b.toNat /\ 0 <= j * s.b /\ j * s.b + s.b <= s.ng /\ j * s.b + s.b <= s.nh := by
 have q := pfE_of h0
 obtain ⟨⟨b1, b2⟩, c1, c2⟩ := alw_of q.al;have b1 : 1 <= s.b := b1
 have b2 : s.b <= 64 := b2
 have c2 : s.c <= 16 := c2
 obtain ⟨p1, p2⟩ := q.p;have p1 : 0 <= j := p1
 have p2 : j < s.c := p2
 have g1 : s.b * s.c <= s.ng := q.ng
 have g2 : s.b * s.c <= s.nh := q.nh
 have g3 : (nl : Int) = s.b := q.nl
 have g4 : (nr : Int) = s.b := q.nr
 have hf0 : 0 <= j * s.b := Int.mul_nonneg p1 (by omega)
 have hf1 : j * s.b + s.b <= s.b * s.c := by
  have : (j + 1) * s.b <= s.c * s.b := Int.mul_le_mul_of_nonneg_right (by omega) (by omega)
  rw [Int.add_mul, Int.one_mul, Int.mul_comm s.c] at this;exact this
 exact ⟨⟨b1, b2⟩, ⟨p1, by omega⟩, by omega, by omega, hf0, by omega, by omega⟩
theorem pm_tw : Twp (jx (pmJ s j o t nl nr) (j * s.b)) (djX (pmX s j o t nl nr)) := by
 obtain ⟨b, p, n1, n2, f0, f1, f2⟩ := pm_nums ho h0;refine ⟨(cg_le _).symm, (cg_le _).symm, rfl, rfl, rfl, (cg_le _).symm, (cg_le _).symm, (cg_le _).symm, (cg_le _).symm, (cg_le _).symm, fun i hi => ?_, fun i hi => ?_, n1, n2, n1, n2, b, p, rfl, rfl, leL_lt _⟩
 ·have hi : i < s.b.toNat := hi
  exact twin_get m77 ho.l (by omega)
 ·have hi : i < s.b.toNat := hi
  exact twin_get m78 ho.r (by omega)
theorem pm_gens {i : Nat} (hi : i < s.b.toNat) : Cl (val (gK (jx (pmJ s j o t nl nr) (j * s.b)).gs i)) (val (eL (pmD s).gs ((j * s.b).toNat + i))) /\ Cl (val (gK (jx (pmJ s j o t nl nr) (j * s.b)).hs i)) (val (eL (pmD s).hs ((j * s.b).toNat + i))) := by
 obtain ⟨b, p, n1, n2, f0, f1, f2⟩ := pm_nums ho h0;refine ⟨?_, ?_⟩
 ·rw [show gK (jx (pmJ s j o t nl nr) (j * s.b)).gs i = gK (mqlL s.G s.ng) ((j * s.b).toNat + i) from cutP_get f0 (show 0 <= s.b by omega) hi, gK_l _ (by omega), show eL (pmD s).gs ((j * s.b).toNat + i) = leL (s.G.getD ((j * s.b).toNat + i) zL) from (edK_o s.G (by omega)).2]
  exact (cg_le _).symm
 ·rw [show gK (jx (pmJ s j o t nl nr) (j * s.b)).hs i = gK (mqlL s.H s.nh) ((j * s.b).toNat + i) from cutP_get f0 (show 0 <= s.b by omega) hi, gK_l _ (by omega), show eL (pmD s).hs ((j * s.b).toNat + i) = leL (s.H.getD ((j * s.b).toNat + i) zL) from (edK_o s.H (by omega)).2]
  exact (cg_le _).symm
theorem pm_dj : djB (pmX s j o t nl nr) = true := by
 obtain ⟨b, p, n1, n2, f0, f1, f2⟩ := pm_nums ho h0;have hk : ∀ n, n <= (j * s.b).toNat + s.b.toNat -> kindsB (pmD s) n = true := by
  intro n
  induction n with
  | zero => intro _; rfl
  | succ n ih =>
   intro hn;rw [kindsB, ih (by omega), deT (show eK (pmD s).gs n = 2 from (edK_o _ (show n < s.ng by omega)).1), deT (show eK (pmD s).hs n = 2 from (edK_o _ (show n < s.nh by omega)).1)]
   rfl
 unfold djB dsuB;rw [show kindsB (djX (pmX s j o t nl nr)).s (((djX (pmX s j o t nl nr)).p * (djX (pmX s j o t nl nr)).b).toNat + (djX (pmX s j o t nl nr)).b.toNat) = true from hk _ (Nat.le_refl _)]
 have e : ((djX (pmX s j o t nl nr)).s.n2 = 2 /\ (1 <= (djX (pmX s j o t nl nr)).b /\ (djX (pmX s j o t nl nr)).b <= 64) /\ (0 <= (djX (pmX s j o t nl nr)).p /\ (djX (pmX s j o t nl nr)).p <= 16) /\ (djX (pmX s j o t nl nr)).p * (djX (pmX s j o t nl nr)).b + (djX (pmX s j o t nl nr)).b <= (djX (pmX s j o t nl nr)).s.ng /\ (djX (pmX s j o t nl nr)).p * (djX (pmX s j o t nl nr)).b + (djX (pmX s j o t nl nr)).b <= (djX (pmX s j o t nl nr)).s.nh /\
   (pmX s j o t nl nr).b.toNat = (djX (pmX s j o t nl nr)).b.toNat /\ (pmX s j o t nl nr).b.toNat = (djX (pmX s j o t nl nr)).b.toNat) := ⟨rfl, b, p, f1, f2, rfl, rfl⟩
 rw [deT e, deT (show (pmX s j o t nl nr).s.n1 = 2 /\ (pmX s j o t nl nr).s.n2 = 2 from ⟨rfl, rfl⟩)]; rfl
theorem pm_st : jSt (pmJ s j o t nl nr) = true := by
 have e1 : (mqlL s.G s.ng).length = s.ng := map_range_len (α := PL.den) (mqlE s.G) s.ng
 have e2 : (mqlL s.H s.nh).length = s.nh := map_range_len (α := PL.den) (mqlE s.H) s.nh
 exact deT ⟨ho.bg.1, ho.bg.2, Nat.le_of_eq e1.symm, Nat.le_of_eq e2.symm⟩
omit h0 in
theorem pm_stays : (staB (t.l.take nl ++ [m77]) nl t.l nl m77 && staB (t.rr.take nr ++ [m78]) nr t.rr nr m78) = true := by
 have key : ∀ {l : List (List Int)} {n : Nat} (m : List Int), n = l.length -> n <= 1048575 -> staB (l.take n ++ [m]) n l n m = true := fun {l n} m hn hb => by
  subst hn;refine deT ⟨rfl, hb, ?_, ?_, ?_⟩
  ·rw [List.take_length, List.length_append]; exact Nat.le_refl _
  ·rw [List.take_length, List.take_left' rfl]
  ·rw [List.take_length, List.getD_eq_getElem?_getD, List.getElem?_append_right (Nat.le_refl _), Nat.sub_self]; rfl
 rw [key m77 ho.l ho.bl.1, key m78 ho.r ho.bl.2]; rfl
omit h0 in
theorem pm_twin : pmTw t nl nr = true := by
 have h1 := ho.l
 have h2 := ho.r
 obtain ⟨h3, h4⟩ := ho.bl;exact deT ⟨h3, h4, by omega, by omega⟩
theorem pm_c1_ok : pmC1 s j o t nl nr = List.replicate 8 true := by
 obtain ⟨h3, h4⟩ := ho.bl;unfold pmC1;rw [deT ho.bg.1, deT ho.bg.2, pm_twin ho, deT h0, pm_st ho h0, deT (show nl <= 1048576 by omega), deT (show nr <= 1048576 by omega), pm_dj ho h0, deT (show dpE (pmX s j o t nl nr) = 0 from h0)]
 rfl
theorem pm_c2_ok : pmC2 j t nl nr (jx (pmJ s j o t nl nr) (j * s.b)) (djX (pmX s j o t nl nr)) = List.replicate 8 true ++ [false] := by
 have w := pm_tw ho h0
 obtain ⟨b, p, n1, n2, f0, f1, f2⟩ := pm_nums ho h0;have hV : lnB (jV (jx (pmJ s j o t nl nr) (j * s.b))) 2 (djV (djX (pmX s j o t nl nr))) = true := lnB_cl (comS_cg w.B w.D (.refl _) w.d)
 have hA : lnB (jA (jx (pmJ s j o t nl nr) (j * s.b))) 2 (djA (djX (pmX s j o t nl nr)) (djX (pmX s j o t nl nr)).a (pbEs (djX (pmX s j o t nl nr)).v (djX (pmX s j o t nl nr)).b.toNat) (pbFs (djX (pmX s j o t nl nr)).v (djX (pmX s j o t nl nr)).b.toNat)) = true :=
  lnB_cl (vec_cf w.D w.a (fun _ _ => rfl) (fun _ _ => rfl) fun i hi => pm_gens ho h0 hi)
 have hS : lnB (jSS (jx (pmJ s j o t nl nr) (j * s.b))) 2 (djA (djX (pmX s j o t nl nr)) (djX (pmX s j o t nl nr)).r (djX (pmX s j o t nl nr)).sl (djX (pmX s j o t nl nr)).sr) = true := by
  unfold jSS;rw [w.nl, w.nr];exact lnB_cl (vec_cf w.D w.r w.sl w.sr fun i hi => pm_gens ho h0 hi)
 unfold pmC2;rw [hV, hA, hS, pm_stays ho, deT rfl];rfl
end
section
variable {s : PcA} {j : Int} {o : OP.den} {t : T6} {nl nr : Nat} (ho : PcOk s t nl nr) (h0 : pmjE (pmJ s j o t nl nr) ≠ 0)
include ho h0
theorem pn_ok : pnC s j o t nl nr = pnW := by
 obtain ⟨h3, h4⟩ := ho.bl;unfold pnC;rw [deT ho.bg.1, deT ho.bg.2, pm_twin ho, deF h0, deT (show nl <= 1048576 by omega), deT (show nr <= 1048576 by omega), deF (show ¬ dpE (pmX s j o t nl nr) = 0 from h0), pm_stays ho, bneq' (show pmjE (pmJ s j o t nl nr) = dpE (pmX s j o t nl nr) from rfl)]
 rfl
end
abbrev RPm (k : List Item) (s : St) : Prop := Runs Tryz.prog N7 Tryz.f4 0 k s (.one (.c (.bool false true))) []
theorem RPm.end {k : List Item} {s : St} (h : Runs Tryz.prog N7 Tryz.f4 0 k s (.one (.c (.bool true true))) []) : RPm k s := Runs.weak (v := .one (.c (.bool true true))) (fun _ _ h => h) h
theorem pmI_t {i n : Nat} (h : i < n) : pmI i n = [true, true] := by
 unfold pmI;rw [deT (show (i : Int) < n by omega), deT (show 0 <= (i : Int) /\ (i : Int) < n by omega)]
theorem okF_t (x : PaA) (k : Nat) : okF x k x.nl k k = true := deT ⟨rfl, rfl, rfl⟩
theorem zeB_le (Y Z : List Int) : (zB (leL Y) || zB (leL Z)) = zeB Y Z := by
 unfold zB zeB;rw [val_leL, val_leL];by_cases h : val Y % ell = 0
 ·rw [deT h, Bool.true_or];exact (deT (Or.inl h)).symm
 ·by_cases g : val Z % ell = 0
  ·rw [deT g, Bool.or_true];exact (deT (Or.inr g)).symm
  ·rw [deF h, deF g];exact (deF (fun q : _ \/ _ => q.elim h g)).symm
section
variable (ms : List MV.den) {n : Nat} (hn : n <= 1048576)
include hn
theorem pr_N : ∀ d i, i + d = n -> RPm pmK6 (pmTN ms n i)
 | 0, i, hi => by
  have h := mn_e ms n i
  rw [deF (by omega)] at h
  exact RPm.end (Runs.last okN7 mx h rfl (by rfl))
 | d + 1, i, hi => by
  have ih := pr_N d (i + 1) (by omega)
  cases hA : mvA ms i with
  | true =>
   have h := mn_l ms n i
   rw [pmI_t (by omega), hA, iwk (by omega)] at h
   exact Runs.piece okN7 mx h rfl (by rfl) ih
  | false =>
   have h := mn_p ms n i
   rw [pmI_t (by omega), hA, iwk (by omega)] at h
   exact Runs.piece okN7 mx h rfl (by rfl) ih
theorem pr_C (x : PaA) (k : Nat) (l0 r0 r1 : List (List Int)) (y : DpA) : ∀ d i, i + d = n -> ∀ l, RPm pmK6 (pmTB ms n l 3 x k l0 r0 r1 y 2 i)
 | 0, i, hi, l => by
  have h := mb_e ms n i l x k l0 r0 r1 y 3 2
  rw [deF (by omega)] at h
  exact RPm.end (Runs.last okN7 mx h rfl (by rfl))
 | d + 1, i, hi, l => by
  have ih := pr_C x k l0 r0 r1 y d (i + 1) (by omega)
  cases hA : mvA ms i with
  | true =>
   have h := mc_l ms n i l x k l0 r0 r1 y
   rw [pmI_t (by omega), hA, okF_t, iwk (by omega)] at h
   exact Runs.piece okN7 mx h rfl (by rfl) (ih _)
  | false =>
   have h := mc_p ms n i l x k l0 r0 r1 y
   rw [pmI_t (by omega), hA, okF_t, iwk (by omega)] at h
   exact Runs.piece okN7 mx h rfl (by rfl) (ih _)
theorem sn_mk {xs ys : List (List Int)} {k : Nat} (h : xs = ys) (hk : k <= xs.length) (hb : k <= 1048576) : snB xs ys k k = true := by
 subst h;exact deT ⟨rfl, hb, hk, rfl⟩
theorem pr_B {x : PaA} {y : DpA} (w : Twz x y) : ∀ d i, i + d = n -> ∀ l, RPm pmK6 (pmTB ms n l 2 x x.b.toNat (poA x) (poC x) (poD x) y 1 i)
 | 0, i, hi, l => by
  have h := mb_e ms n i l x x.b.toNat (poA x) (poC x) (poD x) y 2 1
  rw [deF (by omega)] at h
  exact RPm.end (Runs.last okN7 mx h rfl (by rfl))
 | d + 1, i, hi, l => by
  have ih := pr_B w d (i + 1) (by omega)
  have hb := w.bb
  cases hA : mvA ms i with
  | false =>
   have h := mb_p ms n i l x x.b.toNat (poA x) (poC x) (poD x) y
   rw [pmI_t (by omega), hA, okF_t, iwk (by omega)] at h
   exact Runs.piece okN7 mx h rfl (by rfl) (ih _)
  | true =>
   have hs : shOk x x.b.toNat = true := deT ⟨w.nl.symm, by omega, w.pp⟩
   have e : decide (val (leL (mvXi ms i)) = 0) = decide (val (mvXi ms i) % ell = 0) := by rw [val_leL]
   by_cases hx : val (mvXi ms i) % ell = 0
   ·have h := mb_x ms n i l x x.b.toNat (poA x) (poC x) (poD x) y
    rw [pmI_t (by omega), hA, okF_t, hs, e, deT hx, iwk (by omega)] at h
    exact Runs.piece okN7 mx h rfl (by rfl) (ih _)
   ·have he : Cl (val (mvXi ms i)) (val (leL (mvXi ms i))) := (cg_le _).symm
    have hL := w.L he
    have hR := w.R he
    have h := mb_s ms n i l x x.b.toNat (poA x) (poC x) (poD x) y
    rw [<- w.b, w.tx he, w.mu he, hL, hR] at h;rw [pmI_t (by omega), hA, okF_t, hs, e, deF hx, w.dl, deT w.az, deT w.p, eqB_rfl rfl, sn_mk hn rfl (Nat.le_of_eq (mpL_len _ _).symm) (by omega), sn_mk hn rfl (Nat.le_of_eq (mpL_len _ _).symm) (by omega), mpL_len, mpL_len,
     deT (show (x.b.toNat = x.b.toNat /\ x.b.toNat = x.b.toNat) /\ x.b.toNat <= 1048500 /\ x.b.toNat <= 1048500 by omega), iwk (by omega)] at h
    exact Runs.piece okN7 mx h rfl (by rfl) (pr_C ms hn x x.b.toNat (poA x) (poC x) (poD x) y d (i + 1) (by omega) _)
theorem pr_A {x : PaA} {y : DpA} (w : Twp x y) : ∀ d i, i + d = n -> RPm pmK6 (pmTA ms n x y i)
 | 0, i, hi => by
  have h := ma_e ms n i x y
  rw [deF (by omega)] at h
  exact RPm.end (Runs.last okN7 mx h rfl (by rfl))
 | d + 1, i, hi => by
  have ih := pr_A w d (i + 1) (by omega)
  have hb := w.bb
  cases hA : mvA ms i with
  | true =>
   have h := ma_l ms n i x y
   rw [pmI_t (by omega), hA, iwk (by omega)] at h
   exact Runs.piece okN7 mx h rfl (by rfl) ih
  | false =>
   have ho : poOk x = true := deT ⟨w.bb, w.pp, w.nl, w.nr⟩
   cases hz : zeB (mvYi ms i) (mvZi ms i) with
   | true =>
    have h := ma_z ms n i x y
    rw [pmI_t (by omega), hA, ho, zeB_le, hz, iwk (by omega)] at h
    exact Runs.piece okN7 mx h rfl (by rfl) ih
   | false =>
    have u := w.poly (mvYi ms i) (mvZi ms i)
    have h := ma_p ms n i x y
    rw [pmI_t (by omega), hA, ho, zeB_le, hz, show dlOk y (leL (mvZi ms i)) = true from u.dl, deT (show y.s.n1 = 2 /\ y.s.n2 = 2 from ⟨w.n1, w.n2⟩), deT w.p,
     show lnB (poS1 (poX x (mvYi ms i) (mvZi ms i))) 2 (dyS1 y (leL (mvYi ms i)) (leL (mvZi ms i))) = true from u.s1, show lnB (poS2 (poX x (mvYi ms i) (mvZi ms i))) 2 (dyS2 y (leL (mvYi ms i))) = true from u.s2, iwk (by omega)] at h
    exact Runs.piece okN7 mx h rfl (by rfl) (pr_B ms hn u d (i + 1) (by omega) _)
end
section
variable {s : PcA} {j : Int} (ms : List MV.den) {n : Nat} (hn : n <= 1048576) {t : T6} {nl nr : Nat} (ho : PcOk s t nl nr)
include hn ho
theorem pr_w {x : PaA} {y : DpA} (w : Twp x y) (g h : List PL.den) (SL SR : List (List Int)) : RPm pmK2 (pmT2 s ms n t nl nr x y 18 g h SL SR (0 : Nat)) := by
 obtain ⟨b1, b2⟩ := ho.bl;obtain ⟨b3, b4⟩ := ho.bg;refine loopG (st := fun k (a : List (List Int)) => pmT2 s ms n t nl nr x y 18 g h a SR k) (I := fun _ _ => True) (n := nl) (fun k a hk _ => ⟨a.set (0 + k) [999, 0, 0, 0], trivial, fun hr => ?_⟩) (fun a _ => ?_) nl 0 SL (by omega) trivial
 ·have q := pm_c1 s ms n t nl nr x y g h a SR k
  rw [deT (show (k : Int) < nl by omega), inK_t hk, iwk (by omega)] at q
  exact Runs.piece okN7 mx q rfl (by rfl) hr
 have q := pm_c2 s ms n t nl nr x y g h a SR nl
 rw [deF (by omega)] at q
 refine Runs.piece okN7 mx q rfl (by rfl) ?_
 generalize a = SL
 refine loopG (st := fun k (a : List (List Int)) => pmT2 s ms n t nl nr x y 19 g h SL a k) (I := fun _ _ => True) (n := nr) (fun k a hk _ => ⟨a.set (0 + k) [996, 0, 0, 0], trivial, fun hr => ?_⟩) (fun a _ => ?_) nr 0 SR (by omega) trivial
 ·have q := pm_d1 s ms n t nl nr x y g h SL a k
  rw [deT (show (k : Int) < nr by omega), inK_t hk, iwk (by omega)] at q
  exact Runs.piece okN7 mx q rfl (by rfl) hr
 have q := pm_d2 s ms n t nl nr x y g h SL a nr
 rw [deF (by omega)] at q
 refine Runs.piece okN7 mx q rfl (by rfl) ?_
 generalize a = SR
 refine loopG (st := fun k (a : List PL.den) => pmT2 s ms n t nl nr x y 20 a h SL SR k) (I := fun _ _ => True) (n := s.ng) (fun k a hk _ => ⟨a.set (0 + k) ([998, 0, 0, 0], ()), trivial, fun hr => ?_⟩) (fun a _ => ?_) s.ng 0 g (by omega) trivial
 ·have q := pm_e1 s ms n t nl nr x y a h SL SR k
  rw [deT (show (k : Int) < s.ng by omega), inK_t hk, iwk (by omega)] at q
  exact Runs.piece okN7 mx q rfl (by rfl) hr
 have q := pm_e2 s ms n t nl nr x y a h SL SR s.ng
 rw [deF (by omega)] at q
 refine Runs.piece okN7 mx q rfl (by rfl) ?_
 generalize a = g
 refine loopG (st := fun k (a : List PL.den) => pmT2 s ms n t nl nr x y 21 g a SL SR k) (I := fun _ _ => True) (n := s.nh) (fun k a hk _ => ⟨a.set (0 + k) ([997, 0, 0, 0], ()), trivial, fun hr => ?_⟩) (fun a _ => ?_) s.nh 0 h (by omega) trivial
 ·have q := pm_f1 s ms n t nl nr x y g a SL SR k
  rw [deT (show (k : Int) < s.nh by omega), inK_t hk, iwk (by omega)] at q
  exact Runs.piece okN7 mx q rfl (by rfl) hr
 have q := pm_f2 s ms n t nl nr x y g a SL SR s.nh
 rw [deF (by omega)] at q
 exact Runs.piece okN7 mx q rfl (by rfl) (pr_A ms hn w n 0 (by omega))
theorem pr_v (g h : List PL.den) (SL SR : List (List Int)) : RPm pnK2 (pnT2 s ms n t nl nr 18 g h SL SR (0 : Nat)) := by
 obtain ⟨b1, b2⟩ := ho.bl;obtain ⟨b3, b4⟩ := ho.bg;refine loopG (st := fun k (a : List (List Int)) => pnT2 s ms n t nl nr 18 g h a SR k) (I := fun _ _ => True) (n := nl) (fun k a hk _ => ⟨a.set (0 + k) [999, 0, 0, 0], trivial, fun hr => ?_⟩) (fun a _ => ?_) nl 0 SL (by omega) trivial
 ·have q := pn_c1 s ms n t nl nr g h a SR k
  rw [deT (show (k : Int) < nl by omega), inK_t hk, iwk (by omega)] at q
  exact Runs.piece okN7 mx q rfl (by rfl) hr
 have q := pn_c2 s ms n t nl nr g h a SR nl
 rw [deF (by omega)] at q
 refine Runs.piece okN7 mx q rfl (by rfl) ?_
 generalize a = SL
 refine loopG (st := fun k (a : List (List Int)) => pnT2 s ms n t nl nr 19 g h SL a k) (I := fun _ _ => True) (n := nr) (fun k a hk _ => ⟨a.set (0 + k) [996, 0, 0, 0], trivial, fun hr => ?_⟩) (fun a _ => ?_) nr 0 SR (by omega) trivial
 ·have q := pn_d1 s ms n t nl nr g h SL a k
  rw [deT (show (k : Int) < nr by omega), inK_t hk, iwk (by omega)] at q
  exact Runs.piece okN7 mx q rfl (by rfl) hr
 have q := pn_d2 s ms n t nl nr g h SL a nr
 rw [deF (by omega)] at q
 refine Runs.piece okN7 mx q rfl (by rfl) ?_
 generalize a = SR
 refine loopG (st := fun k (a : List PL.den) => pnT2 s ms n t nl nr 20 a h SL SR k) (I := fun _ _ => True) (n := s.ng) (fun k a hk _ => ⟨a.set (0 + k) ([998, 0, 0, 0], ()), trivial, fun hr => ?_⟩) (fun a _ => ?_) s.ng 0 g (by omega) trivial
 ·have q := pn_e1 s ms n t nl nr a h SL SR k
  rw [deT (show (k : Int) < s.ng by omega), inK_t hk, iwk (by omega)] at q
  exact Runs.piece okN7 mx q rfl (by rfl) hr
 have q := pn_e2 s ms n t nl nr a h SL SR s.ng
 rw [deF (by omega)] at q
 refine Runs.piece okN7 mx q rfl (by rfl) ?_
 generalize a = g
 refine loopG (st := fun k (a : List PL.den) => pnT2 s ms n t nl nr 21 g a SL SR k) (I := fun _ _ => True) (n := s.nh) (fun k a hk _ => ⟨a.set (0 + k) ([997, 0, 0, 0], ()), trivial, fun hr => ?_⟩) (fun a _ => ?_) s.nh 0 h (by omega) trivial
 ·have q := pn_f1 s ms n t nl nr g a SL SR k
  rw [deT (show (k : Int) < s.nh by omega), inK_t hk, iwk (by omega)] at q
  exact Runs.piece okN7 mx q rfl (by rfl) hr
 have q := pn_f2 s ms n t nl nr g a SL SR s.nh
 rw [deF (by omega), pnK6_eq] at q
 exact Runs.piece okN7 mx q rfl (by rfl) (pr_N ms hn n 0 (by omega))
end
theorem pm_runs {s : PcA} {j : Int} (ms : List MV.den) {n : Nat} (hn : n <= 1048576) (ho : PcOk s (tpT (atP s j)) (tpN (atP s j)) (tpM (atP s j))) : RPm [.code (cd Tryz.f4)] (pmS s j ms n) := by
 by_cases h0 : pmjE (pmJ s j (atO s j) (tpT (atP s j)) (tpN (atP s j)) (tpM (atP s j))) = 0
 ·have h := pm_a s j ms n
  rw [pm_c1_ok ho h0] at h;refine Runs.piece okN7 mx h rfl (by rfl) ?_
  have h := pm_b s j ms n (tpT (atP s j)) (tpN (atP s j)) (tpM (atP s j)) (jx (pmJ s j (atO s j) (tpT (atP s j)) (tpN (atP s j)) (tpM (atP s j))) (j * s.b)) (djX (pmX s j (atO s j) (tpT (atP s j)) (tpN (atP s j)) (tpM (atP s j))))
  rw [pm_c2_ok ho h0] at h;exact Runs.piece okN7 mx h rfl (by rfl) (pr_w ms hn ho (pm_tw ho h0) _ _ _ _)
 ·have h := pn_a s j ms n
  rw [pn_ok ho h0] at h;exact Runs.piece okN7 mx h rfl (by rfl) (pr_v ms hn ho _ _ _ _)
end Go.Sc
