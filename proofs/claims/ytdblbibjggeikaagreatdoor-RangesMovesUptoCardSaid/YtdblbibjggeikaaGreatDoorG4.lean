/- RangesMoves: its first pieces. -/
import Derived.Test.YtdblbibjggeikaaGreatDoorG3
set_option linter.unusedSectionVars false
set_option linter.unusedVariables false
set_option linter.unusedSimpArgs false
namespace Go.Sc
open Go Go.SX Go.Proofs
variable [Level] [Lone]
abbrev MV : DTy := .pair .bool (.pair WS (.pair WS (.pair WS .unit)))
noncomputable def mvR (k : List Item) (s : St) : Tree Out := runK N6 Tryz.prog noLoops 400 k s
noncomputable def mvS (s : CsA) (ms : List MV.den) (n : Nat) : St := ⟨enterT Tryz.f3 [.g (csF s), .c (.ro MV ms n)], []⟩
def mvZ (s : CsA) : BeA := ⟨s.B, s.D, s.Q, mqlL s.G s.ng, mqlL s.H s.nh, s.ng, s.nh, s.b, s.c, s.vs.take s.nv, (s.vs.take s.nv).length, s.a, s.r, s.t1, s.t2, twM s.sl s.nl 77, (s.sl.take s.nl).length, twM s.sr s.nr 78, (s.sr.take s.nr).length⟩
def mvE (s : CsA) : Int := fitE s.ng s.nh s.b s.c (mqpL s.vs s.nv) s.nv s.nl s.nr
def mvY (s : CsA) : StA := ⟨twM s.sl s.nl 77, (s.sl.take s.nl).length, twM s.sr s.nr 78, (s.sr.take s.nr).length, s.a, s.r, s.t1, s.t2, s.sl, s.nl, s.sr, s.nr⟩
noncomputable def mvO (s : CsA) : Bool := SX.room (s.vs.take s.nv).length (Tryz.prog.bytesOf 89) && SX.room (s.vs.take s.nv).length 1
theorem mv_x (s : CsA) (ms : List MV.den) (n : Nat) : endT Tryz.prog Tryz.f3 [] [true, true, true, false, true, true, true, true, false, true, true, true] (mvR [.code (cd Tryz.f3)] (mvS s ms n)) =
  some ([decide (s.ng <= 1048576 /\ s.nh <= 1048576), decide (s.nl <= 1048575 /\ s.nr <= 1048575), mvO s, decide (beE (mvZ s) = 0), decide (s.nv <= 1048576), decide (s.nl <= 1048576) && decide (s.nr <= 1048576), (beE (mvZ s) != mvE s) == false, styOk (mvY s), false, mvE s != 0, true, true], .one (.c (.bool true true)), []) := by kernel_rfl
def mvD (s : CsA) : DsA := ⟨2, 2, 2, 2, z10, z10, leL s.B, z10, z10, leL s.D, z10, z10, leL s.Q, mqoL (mqlL s.G s.ng) s.ng, s.ng, mqoL (mqlL s.H s.nh) s.nh, s.nh⟩
def mvH (s : CsA) (y z x : List Int) : WhA := ⟨mvD s, s.b, s.c, mqpL s.vs s.nv, s.nv, leL s.a, leL s.r, leL s.t1, leL s.t2, mqnL s.sl s.nl, s.nl, mqnL s.sr s.nr, s.nr, y, z, x⟩
noncomputable def mvQ (f : Nat) (k : List Item) (s : St) : Tree Out := runK N6 Tryz.prog noLoops f k s
def mvG (s : CsA) : Cell := .ro ED (mqoL (mqlL s.G s.ng) s.ng) s.ng
def mvI (s : CsA) : Cell := .ro ED (mqoL (mqlL s.H s.nh) s.nh) s.nh
noncomputable def mvT0 (s : CsA) (ms : List MV.den) (n : Nat) (g h : Blk) (x y : Cell) : St :=
 ⟨slotsOf 268 [(1, one (.ro MV ms n)), (2, pt 0), (4, one (.bool false false)), (5, pt 3), (6, pt 4)], [.vals (csF s), g, h, .vals (seF s (seG s) (seH s)), .vals (rgF s x y)]⟩
noncomputable def mvK0 : List Item := leftT [true] (mvQ 4 [.code (cd Tryz.f3)] (mvS cs0A [] 0))
theorem mv_0 (s : CsA) (ms : List MV.den) (n : Nat) : pieceT [1, 2, 4, 5, 6] [4] [0, 1, 2, 3, 4] [true] (mvQ 4 [.code (cd Tryz.f3)] (mvS s ms n)) =
  some ([decide (s.ng <= 1048576 /\ s.nh <= 1048576)], mvK0, mvT0 s ms n (.arr ED (mqoL (mqlL s.G s.ng) s.ng) 0 []) (.arr ED (mqoL (mqlL s.H s.nh) s.nh) 0 []) (.sl 1 0 s.ng) (.sl 2 0 s.nh)) := by kernel_rfl
def mvW (s : CsA) : List (Nat × Blk) := [(2, .frz ED (mqoL (mqlL s.H s.nh) s.nh)), (1, .frz ED (mqoL (mqlL s.G s.ng) s.ng))]
theorem mv_f (s : CsA) (ms : List MV.den) (n : Nat) : freezeF (getB (mvT0 s ms n (.arr ED (mqoL (mqlL s.G s.ng) s.ng) 0 []) (.arr ED (mqoL (mqlL s.H s.nh) s.nh) 0 []) (.sl 1 0 s.ng) (.sl 2 0 s.nh)).h) (rgF s (.sl 1 0 s.ng) (.sl 2 0 s.nh)) = some (rgF s (mvG s) (mvI s), mvW s) := by kernel_rfl
noncomputable abbrev mvT2 (s : CsA) (ms : List MV.den) (n : Nat) : St := mvT0 s ms n (.frz ED (mqoL (mqlL s.G s.ng) s.ng)) (.frz ED (mqoL (mqlL s.H s.nh) s.nh)) (mvG s) (mvI s)
def kpM : List Nat := [1, 2, 4, 6, 7, 8, 10, 11, 12, 13, 16, 17, 18, 19]
def mvSl (ms : List MV.den) (n : Nat) : List (Nat × SV) := [(1, one (.ro MV ms n)), (2, pt 0), (4, one (.bool false false)), (6, pt 1), (7, pt 4), (8, pt 5), (10, pt 11), (13, pt 12), (17, pt 13), (18, pt 14)]
def mvB (s : CsA) : Heap := [.vals (csF s), .vals (rgF s (mvG s) (mvI s)), .frz WS (twM s.sl s.nl 77), .frz WS (twM s.sr s.nr 78), .vals [.ws .u64 4 s.a, .ws .u64 4 s.r, .ws .u64 4 s.t1, .ws .u64 4 s.t2, .c (.sl 2 0 (s.sl.take s.nl).length), .c (.sl 3 0 (s.sr.take s.nr).length)]]
def mvC (s : CsA) (v : Vw) (L R : Cell) (y z : List Int) : Heap := [gB (mvZ s), .arr WS ((mvZ s).sl.take (mvZ s).nl) 0 [], .arr WS ((mvZ s).sr.take (mvZ s).nr) 0 [], .arr OP ((mvZ s).vs.take (mvZ s).nv) 0 [], .arr WS (bitL (mvZ s) (beN (mvZ s))) 0 [],
 .vals (vwF v L R), .vals [.ws .u64 4 one4], .vals [.ws .u64 4 y], .vals [.ws .u64 4 z]]
noncomputable def mvU (s : CsA) (ms : List MV.den) (n : Nat) (e f ph i : Int) (P : List FCell) (h : Heap) : St :=
 ⟨slotsOf 268 (mvSl ms n ++ [(11, one (.int false .i64 e)), (12, one (.int false .i64 f)), (16, one (.int false .i64 ph)), (19, one (.int false .i64 i))]), mvB s ++ [.vals P] ++ h⟩
noncomputable def mvT1 (s : CsA) (ms : List MV.den) (n : Nat) (l : Bool) (e f : Int) (v : Vw) (y z : List Int) (i : Int) : St :=
 mvU s ms n e f 0 i (prF l 1 (mvZ s) 7 6 (.sl 10 0 (beN (mvZ s))) .nils .nils .nils .nils (beVw (mvZ s)) .nils .nils) (mvC s v .nils .nils y z)
noncomputable def mvK : List Item := leftT [true, true, true, true, true, true, true, false, false, true, true, true, true, true, true, false] (mvR mvK0 (mvT2 cs0A [] 0))
def evW (a b : List Int) : DvA := ⟨⟨2, z10, z10, a⟩, ⟨2, z10, z10, b⟩, ⟨0, z10, z10, zL⟩, ⟨0, z10, z10, zL⟩, zL, zL, zL, zL, zL, zL⟩
theorem mv_a (s : CsA) (ms : List MV.den) (n : Nat) : pieceT kpM [4, 11, 12, 16, 19] [0, 4, 5, 6, 11, 13, 14, 15, 16, 17, 18, 20, 24, 32, 33] [true, true, true, true, true, true, true, false, false, true, true, true, true, true, true, false] (mvR mvK0 (mvT2 s ms n)) =
  some ([decide (s.nl <= 1048575 /\ s.nr <= 1048575), mvO s, decide (beE (mvZ s) = 0), decide (s.nv <= 1048576), decide (s.nl <= 1048576) && decide (s.nr <= 1048576), ((0 : Int) != mvE s) == false, styOk (mvY s), false, mvE s != 0, decide (s.nv <= 1048576), decide (s.nl <= 1048576) && decide (s.nr <= 1048576),
   whB (mvH s one4 one4 one4), decide ((mvZ s).nv = s.nv /\ (mvZ s).nv <= 1048576) && slB (comL (mvZ s) (mvZ s).nv) (whV (mvH s one4 one4 one4) s.nv) (mvZ s).nv, true, vB (beVw (mvZ s)) (evW (whVw (mvH s one4 one4 one4)).A (whVw (mvH s one4 one4 one4)).S), false], mvK,
   mvT1 s ms n true 0 (mvE s) (beVw (mvZ s)) one4 one4 (0 : Nat)) := by kernel_rfl
def Cl (a b : Int) : Prop := a % ell = b % ell
theorem Cl.refl (a : Int) : Cl a a := rfl
theorem Cl.symm {a b : Int} (h : Cl a b) : Cl b a := Eq.symm h
theorem Cl.trans {a b c : Int} (h : Cl a b) (g : Cl b c) : Cl a c := Eq.trans h g
theorem Cl.add {a b c d : Int} (h : Cl a b) (g : Cl c d) : Cl (a + c) (b + d) := by
 unfold Cl at *;rw [Int.add_emod, h, g, <- Int.add_emod]
theorem Cl.sub {a b c d : Int} (h : Cl a b) (g : Cl c d) : Cl (a - c) (b - d) := by
 unfold Cl at *;rw [Int.sub_emod, h, g, <- Int.sub_emod]
theorem Cl.mul {a b c d : Int} (h : Cl a b) (g : Cl c d) : Cl (a * c) (b * d) := by
 unfold Cl at *;rw [Int.mul_emod, h, g, <- Int.mul_emod]
theorem Cl.pow {a b : Int} (h : Cl a b) : ∀ n : Nat, Cl (a ^ n) (b ^ n)
 | 0 => by rw [Int.pow_zero, Int.pow_zero]; exact Cl.refl _
 | n + 1 => by rw [Int.pow_succ, Int.pow_succ]; exact (Cl.pow h n).mul h
theorem Cl.sum {f g : Nat -> Int} {n : Nat} (h : ∀ i, i < n -> Cl (f i) (g i)) : Cl (sumN f n) (sumN g n) := sumN_mod h
theorem cg_mod (x : Int) : Cl (x % ell) x := Int.emod_emod_of_dvd _ (Int.dvd_refl _)
theorem cg_val (x : Int) : Cl (val (limbs (x % ell))) x := by rw [val_mod]; exact cg_mod x
theorem cg_le (x : List Int) : Cl (val (leL x)) (val x) := cg_val _
theorem Cl.limbs {x y : Int} (h : Cl x y) : Go.Sc.limbs (x % ell) = limbs (y % ell) := congrArg _ h
theorem leL_mod (x : Int) : leL (limbs (x % ell)) = limbs (x % ell) := by
 unfold leL;exact (cg_val x).limbs
theorem val_leL (x : List Int) : val (leL x) = val x % ell := val_mod _
theorem leL_lt (x : List Int) : val (leL x) < ell := by rw [val_leL]; exact (mod_bound _).2
theorem edK_o (gs : List PL.den) {n i : Nat} (h : i < n) : eK (mqoL gs n) i = 2 /\ eL (mqoL gs n) i = leL (gK gs i) := by
 unfold eK eL mqoL;rw [map_range_getD (mqoE gs) n i ED.dflt h];exact ⟨rfl, rfl⟩
theorem opVB_p (vs : OpT) {n i : Nat} (h : i < n) : opV (mqpL vs n) i = opV vs i /\ opB (mqpL vs n) i = leL (opB vs i) := by
 have e : (mqpL vs n).getD i OP.dflt = mqpE vs i := map_range_getD (mqpE vs) n i OP.dflt h
 refine ⟨?_, ?_⟩
 ·show ((mqpL vs n).getD i OP.dflt).1 = _
  rw [e]; rfl
 ·show ((mqpL vs n).getD i OP.dflt).2.1 = _
  rw [e]; rfl
theorem nu_p (l : List (List Int)) {n i : Nat} (h : i < n) : (mqnL l n).getD i zL = leL (l.getD i zL) := map_range_getD (mqnE l) n i zL h
theorem nu_cg (l : List (List Int)) {n i : Nat} (h : i < n) : Cl (val (l.getD i zL)) (val (List.getD (α := List Int) (mqnL l n) i zL)) := Eq.trans (cg_le (l.getD i zL)).symm (congrArg (fun x : List Int => val x % ell) (nu_p l h).symm)
theorem twM_get (l : List (List Int)) {n i : Nat} (x : Int) (h : i < n) (hn : n = l.length) : (twM l n x).getD i zL = l.getD i zL := by
 unfold twM;subst hn;rw [List.take_length, List.getD_eq_getElem?_getD, List.getD_eq_getElem?_getD, List.getElem?_append_left h]
theorem twM_mark (l : List (List Int)) {n : Nat} (x : Int) (hn : n = l.length) : (twM l n x).getD n zL = [x, 0, 0, 0] /\ (twM l n x).length = n + 1 /\ (twM l n x).take n = l := by
 unfold twM;subst hn;rw [List.take_length];refine ⟨?_, by rw [List.length_append]; rfl, by rw [List.take_left']; rfl⟩
 rw [List.getD_eq_getElem?_getD, List.getElem?_append_right (Nat.le_refl _), Nat.sub_self]
 rfl
theorem inn_cg {xs ys xs' ys' : List (List Int)} {n : Nat} (h : ∀ i, i < n -> Cl (val (xs.getD i zL)) (val (xs'.getD i zL))) (g : ∀ i, i < n -> Cl (val (ys.getD i zL)) (val (ys'.getD i zL))) : Cl (inn xs ys n) (inn xs' ys' n) :=
 Cl.sum fun i hi => (h i hi).mul (g i hi)
theorem comS_cg {B D v d B' D' v' d' : List Int} (h1 : Cl (val B) (val B')) (h2 : Cl (val D) (val D')) (h3 : Cl (val v) (val v')) (h4 : Cl (val d) (val d')) : Cl (comS B D v d) (comS B' D' v' d') :=
 (h3.mul h1).add (h4.mul h2)
theorem vec_cg {D a : List Int} {l r : List (List Int)} {gs hs : List PL.den} {n : Nat} {s : DsA} {a' : List Int} {l' r' : List (List Int)} (hD : Cl (val D) (val s.D)) (ha : Cl (val a) (val a'))
  (hl : ∀ i, i < n -> Cl (val (l.getD i zL)) (val (l'.getD i zL))) (hr : ∀ i, i < n -> Cl (val (r.getD i zL)) (val (r'.getD i zL)))
  (hg : ∀ i, i < n -> Cl (val (gK gs i)) (val (eL s.gs i))) (hh : ∀ i, i < n -> Cl (val (gK hs i)) (val (eL s.hs i))) : Cl (vecS D a l r gs hs n n) (vecD s a' l' r' n) := by
 unfold vecS vecD vecN;rw [sumN_add, Int.add_assoc, Int.mul_comm (val s.D)];refine (ha.mul hD).add ((Cl.sum fun i hi => ?_).add (Cl.sum fun i hi => ?_))
 ·rw [Int.mul_comm (val (eL s.gs i))];exact (hl i hi).mul (hg i hi)
 ·rw [Int.mul_comm (val (eL s.hs i))];exact (hr i hi).mul (hh i hi)
structure CsOk (s : CsA) : Prop where
 v : s.nv = s.vs.length
 l : s.nl = s.sl.length
 r : s.nr = s.sr.length
 bg : s.ng <= 1048576 /\ s.nh <= 1048576
 bv : s.nv <= 1048576
 bl : s.nl <= 1048575 /\ s.nr <= 1048575
section
variable {s : CsA} (ho : CsOk s)
include ho
theorem take_vs : s.vs.take s.nv = s.vs := by rw [ho.v, List.take_length]
theorem mvZ_vs : (mvZ s).vs = s.vs := take_vs ho
theorem mvZ_nv : (mvZ s).nv = s.nv := by
 show (s.vs.take s.nv).length = s.nv
 rw [take_vs ho, <- ho.v]
theorem mvZ_nl : (mvZ s).nl = s.nl := by
 show (s.sl.take s.nl).length = s.nl
 rw [ho.l, List.take_length]
theorem mvZ_nr : (mvZ s).nr = s.nr := by
 show (s.sr.take s.nr).length = s.nr
 rw [ho.r, List.take_length]
theorem mvO_ok : mvO s = true := by
 have := ho.bv
 have h2 := take_le s.vs s.nv
 unfold mvO;rw [show Tryz.prog.bytesOf 89 = 40 from by kernel_rfl, room_ok (by omega), room_ok (by omega)]; rfl
omit ho in
theorem allOk_congr {b : Int} {vs vs' : OpT} : ∀ {n : Nat}, (∀ i, i < n -> opV vs i = opV vs' i) -> allOk b vs n = allOk b vs' n
 | 0, _ => rfl
 | n + 1, h => by
  show (allOk b vs n && opOk b (opV vs n)) = (allOk b vs' n && opOk b (opV vs' n))
  rw [allOk_congr (n := n) (fun i hi => h i (by omega)), h n (by omega)]
theorem mvE_eq : beE (mvZ s) = mvE s := by
 show fitE s.ng s.nh s.b s.c (mvZ s).vs (mvZ s).nv (mvZ s).nl (mvZ s).nr = fitE s.ng s.nh s.b s.c (mqpL s.vs s.nv) s.nv s.nl s.nr
 rw [mvZ_vs ho, mvZ_nv ho, mvZ_nl ho, mvZ_nr ho];unfold fitE;rw [allOk_congr (vs := s.vs) (vs' := mqpL s.vs s.nv) fun i hi => (opVB_p s.vs hi).1.symm]
omit ho in
theorem eqN_mk {xs ys : List (List Int)} : ∀ {n : Nat}, (∀ i, i < n -> xs.getD i zL = ys.getD i zL) -> eqN xs ys n = true
 | 0, _ => rfl
 | n + 1, h => by
  rw [eqN, eqN_mk (n := n) (fun i hi => h i (by omega)), h n (by omega), beq_self_eq_true]; rfl
theorem mvY_ok : styOk (mvY s) = true := by
 obtain ⟨q1, q2, q3⟩ := twM_mark s.sl 77 ho.l;obtain ⟨q4, q5, q6⟩ := twM_mark s.sr 78 ho.r;have hl := ho.bl
 unfold styOk
 show (decide ((s.nl = (mvZ s).nl /\ s.nr = (mvZ s).nr) /\ ((mvZ s).nl <= 1048575 /\ (mvZ s).nr <= 1048575) /\ (mvZ s).nl + 1 <= (twM s.sl s.nl 77).length /\ (mvZ s).nr + 1 <= (twM s.sr s.nr 78).length) && (((twM s.sl s.nl 77).getD s.nl zL == [77, 0, 0, 0]) && ((twM s.sr s.nr 78).getD s.nr zL == [78, 0, 0, 0])) && (eqN (twM s.sl s.nl 77) s.sl s.nl && eqN (twM s.sr s.nr 78) s.sr s.nr)) = true
 rw [mvZ_nl ho, mvZ_nr ho, q1, q2, q4, q5, eqN_mk fun i hi => twM_get s.sl 77 hi ho.l, eqN_mk fun i hi => twM_get s.sr 78 hi ho.r, decide_eq_true (by omega)]
 rfl
end
section
variable {s : CsA} (ho : CsOk s) (hb : BeOk (mvZ s))
include ho hb
theorem ok_nl : beN (mvZ s) = s.nl := by
 have h1 := hb.nl
 rw [mvZ_nl ho] at h1;unfold beN;omega
theorem ok_nr : s.nr = s.nl := by
 have h1 := hb.nl
 have h2 := hb.nr
 rw [mvZ_nl ho] at h1;rw [mvZ_nr ho] at h2;omega
theorem ok_nums : (s.nl : Int) = s.b * s.c /\ (s.nv : Int) = s.c /\ s.nl <= s.ng /\ s.nl <= s.nh /\ s.nl <= 1024 /\ s.nv <= 16 := by
 have h1 := hb.nl
 have h2 := hb.nv
 have h3 : (mvZ s).b * (mvZ s).c <= s.ng := hb.ng
 have h4 : (mvZ s).b * (mvZ s).c <= s.nh := hb.nh
 rw [mvZ_nl ho] at h1;rw [mvZ_nv ho] at h2;obtain ⟨m1, m2, m3⟩ := alw_mul hb.al;obtain ⟨⟨b1, b2⟩, c1, c2⟩ := alw_of hb.al;have h1' : (s.nl : Int) = s.b * s.c := h1
 have h2' : (s.nv : Int) = s.c := h2
 refine ⟨h1', h2', by omega, by omega, by omega, ?_⟩
 have : s.c <= 16 := c2
 omega
theorem ok_wh {y z x : List Int} (hz : val z < ell) : whB (mvH s y z x) = true := by
 obtain ⟨h1, h2, h3, h4, h5, h6⟩ := ok_nums ho hb;have hr := ok_nr ho hb
 have hk : ∀ n, n <= s.nl -> kindsB (mvD s) n = true := by
  intro n
  induction n with
  | zero => intro _; rfl
  | succ n ih =>
   intro hn;rw [kindsB, ih (by omega), decide_eq_true (show eK (mvD s).gs n = 2 from (edK_o _ (show n < s.ng by omega)).1), decide_eq_true (show eK (mvD s).hs n = 2 from (edK_o _ (show n < s.nh by omega)).1)]
   rfl
 unfold whB;rw [show alw (mvH s y z x).b (mvH s y z x).c = true from hb.al, show kindsB (mvH s y z x).s (mvH s y z x).nl = true from hk s.nl (Nat.le_refl _),
  decide_eq_true (show ((mvH s y z x).nv : Int) = (mvH s y z x).c /\ ((mvH s y z x).nl : Int) = (mvH s y z x).b * (mvH s y z x).c /\ ((mvH s y z x).nr : Int) = (mvH s y z x).b * (mvH s y z x).c /\ val (mvH s y z x).z < ell /\ val (mvH s y z x).a < ell /\ (mvH s y z x).s.n1 = 2 /\ (mvH s y z x).s.n2 = 2 /\ (mvH s y z x).nl <= (mvH s y z x).s.ng /\ (mvH s y z x).nl <= (mvH s y z x).s.nh from
   ⟨h2, h1, by show (s.nr : Int) = s.b * s.c; omega, hz, leL_lt _, rfl, rfl, h3, h4⟩)]
 rfl
theorem bit_eq {i : Nat} (hi : i < s.nl) : rawBit (mvZ s) i = rawBt (mqpL s.vs s.nv) s.b i := by
 obtain ⟨h1, h2, h3, h4, h5, h6⟩ := ok_nums ho hb;obtain ⟨⟨b1, b2⟩, c1, c2⟩ := alw_of hb.al;have b1' : 1 <= s.b := b1
 have hq0 : 0 <= (i : Int).tdiv s.b := Int.tdiv_nonneg (by omega) (by omega)
 have hq1 : (i : Int).tdiv s.b < s.nv := by
  rw [h2, Int.tdiv_eq_ediv_of_nonneg (by omega)]
  exact Int.ediv_lt_of_lt_mul (by omega) (by rw [Int.mul_comm]; omega)
 have hq2 : iw ((i : Int).tdiv s.b) = (i : Int).tdiv s.b := by
  unfold iw;rw [IntKind.wrap_i64];omega
 have e := (opVB_p s.vs (n := s.nv) (i := (iw ((i : Int).tdiv s.b)).toNat) (by rw [hq2]; omega)).1
 unfold rawBit rawBt;rw [mvZ_vs ho]
 show IntKind.u64.wrap ((BitVec.ofInt 64 ((opV s.vs (iw ((i : Int).tdiv s.b)).toNat).fdiv _) &&& _).toNat : Int) = _
 rw [e];rfl
theorem bits_eq (y z x : List Int) : bitL (mvZ s) s.nl = mpL (waE (mvH s y z x)) s.nl :=
 List.map_congr_left fun i hi => by
  show [rawBit (mvZ s) i, 0, 0, 0] = [rawBt (mqpL s.vs s.nv) s.b i, 0, 0, 0]
  rw [bit_eq ho hb (List.mem_range.1 hi)]
theorem rgts_eq (y z x : List Int) : rgtL (mvZ s) s.nl = mpL (wbE (mvH s y z x)) s.nl :=
 List.map_congr_left fun i hi => by
  show limbs ((val [rawBit (mvZ s) i, 0, 0, 0] - 1) % ell) = limbs ((val [rawBt (mqpL s.vs s.nv) s.b i, 0, 0, 0] - 1) % ell)
  rw [bit_eq ho hb (List.mem_range.1 hi)]
theorem gens_cg {i : Nat} (hi : i < s.nl) : Cl (val (gK (mqlL s.G s.ng) i)) (val (eL (mvD s).gs i)) /\ Cl (val (gK (mqlL s.H s.nh) i)) (val (eL (mvD s).hs i)) := by
 obtain ⟨h1, h2, h3, h4, h5, h6⟩ := ok_nums ho hb;refine ⟨?_, ?_⟩
 ·rw [show eL (mvD s).gs i = leL (gK (mqlL s.G s.ng) i) from (edK_o _ (show i < s.ng by omega)).2]
  exact (cg_le _).symm
 ·rw [show eL (mvD s).hs i = leL (gK (mqlL s.H s.nh) i) from (edK_o _ (show i < s.nh by omega)).2]
  exact (cg_le _).symm
theorem A_eq (y z x : List Int) : (beVw (mvZ s)).A = (whVw (mvH s y z x)).A := by
 show limbs (vecS s.D s.a (bitL (mvZ s) (beN (mvZ s))) (rgtL (mvZ s) (beN (mvZ s))) (mqlL s.G s.ng) (mqlL s.H s.nh) (beN (mvZ s)) (beN (mvZ s)) % ell) = limbs (vecD (mvD s) (leL s.a) (mpL (waE (mvH s y z x)) s.nl) (mpL (wbE (mvH s y z x)) s.nl) s.nl % ell)
 rw [ok_nl ho hb, bits_eq ho hb y z x, rgts_eq ho hb y z x];exact Cl.limbs (vec_cg (cg_le _).symm (cg_le _).symm (fun _ _ => .refl _) (fun _ _ => .refl _) (fun i hi => (gens_cg ho hb hi).1) (fun i hi => (gens_cg ho hb hi).2))
theorem S_eq (y z x : List Int) : (beVw (mvZ s)).S = (whVw (mvH s y z x)).S := by
 have hr := ok_nr ho hb
 show limbs (vecS s.D s.r (twM s.sl s.nl 77) (twM s.sr s.nr 78) (mqlL s.G s.ng) (mqlL s.H s.nh) (mvZ s).nl (mvZ s).nr % ell) = limbs (vecD (mvD s) (leL s.r) (mqnL s.sl s.nl) (mqnL s.sr s.nr) s.nl % ell)
 rw [mvZ_nl ho, mvZ_nr ho];have key : Cl (vecS s.D s.r (twM s.sl s.nl 77) (twM s.sr s.nr 78) (mqlL s.G s.ng) (mqlL s.H s.nh) s.nl s.nl) (vecD (mvD s) (leL s.r) (mqnL s.sl s.nl) (mqnL s.sr s.nr) s.nl) := by
  refine vec_cg (cg_le _).symm (cg_le _).symm (fun i hi => ?_) (fun i hi => ?_) (fun i hi => (gens_cg ho hb hi).1) (fun i hi => (gens_cg ho hb hi).2)
  ·rw [twM_get s.sl 77 hi ho.l];exact nu_cg s.sl hi
  ·rw [twM_get s.sr 78 (show i < s.nr by omega) ho.r]
   exact nu_cg s.sr (show i < s.nr by omega)
 rw [show vecS s.D s.r (twM s.sl s.nl 77) (twM s.sr s.nr 78) (mqlL s.G s.ng) (mqlL s.H s.nh) s.nl s.nr = vecS s.D s.r (twM s.sl s.nl 77) (twM s.sr s.nr 78) (mqlL s.G s.ng) (mqlL s.H s.nh) s.nl s.nl from by rw [hr]]
 exact key.limbs
omit ho hb in
theorem slB_mk {xs : List PL.den} {ys : List ED.den} : ∀ {n : Nat}, (∀ i, i < n -> eK ys i = 2 /\ leL (gK xs i) = eL ys i) -> slB xs ys n = true
 | 0, _ => rfl
 | n + 1, h => by
  rw [slB, slB_mk (n := n) (fun i hi => h i (by omega)), decide_eq_true (h n (by omega)).1, (h n (by omega)).2, beq_self_eq_true]; rfl
theorem V_ok (y z x : List Int) : (decide ((mvZ s).nv = s.nv /\ (mvZ s).nv <= 1048576) && slB (comL (mvZ s) (mvZ s).nv) (whV (mvH s y z x) s.nv) (mvZ s).nv) = true := by
 have h6 := ho.bv
 rw [mvZ_nv ho, decide_eq_true ⟨rfl, h6⟩, slB_mk]; · rfl
 intro i hi;have e1 : gK (comL (mvZ s) s.nv) i = comV (mvZ s) i := congrArg Prod.fst (map_range_getD (α := PL.den) (fun i => (comV (mvZ s) i, ())) s.nv i PL.dflt hi)
 have q := map_range_getD (α := ED.den) (fun i => edE (wcom (mvH s y z x) i)) s.nv i ED.dflt hi
 have e2 : eK (whV (mvH s y z x) s.nv) i = 2 /\ eL (whV (mvH s y z x) s.nv) i = wcom (mvH s y z x) i := ⟨congrArg (fun a : ED.den => a.1) q, congrArg (fun a : ED.den => a.2.2.1) q⟩
 refine ⟨e2.1, ?_⟩
 obtain ⟨q1, q2⟩ := opVB_p s.vs hi;rw [e1, e2.2]
 show leL (limbs (comS s.B s.D [opV (mvZ s).vs i, 0, 0, 0] (opB (mvZ s).vs i) % ell)) = limbs (comS (leL s.B) (leL s.D) [opV (mqpL s.vs s.nv) i, 0, 0, 0] (opB (mqpL s.vs s.nv) i) % ell)
 rw [leL_mod, mvZ_vs ho, q1, q2];exact (comS_cg (cg_le _).symm (cg_le _).symm (.refl _) (cg_le _).symm).limbs
end
theorem iw_nat {k : Nat} (h : k < 1048576) : iw (k : Int) = k := by
 unfold iw;rw [IntKind.wrap_i64];omega
theorem pow_wrap : ∀ k : Nat, k < 64 -> (2 : Int) ^ k % 18446744073709551616 = 2 ^ k := by decide
theorem stepRow_get (x : Int) {n k : Nat} (h : k < n) : (stepRow x n).getD k zL = limbs (x * 2 ^ k % ell) := map_range_getD (fun k => limbs (x * 2 ^ k % ell)) n k zL h
theorem stepL_get (z : Int) (b : Nat) (hb : 0 < b) : ∀ (c : Nat) {i : Nat}, i < c * b -> (stepL z b c).getD i zL = limbs (z ^ (2 + i / b) * 2 ^ (i % b) % ell)
 | 0, i, h => by rw [Nat.zero_mul] at h; exact absurd h (Nat.not_lt_zero _)
 | c + 1, i, h => by
  rw [stepL_succ, List.getD_eq_getElem?_getD]
  rcases Nat.lt_or_ge i (c * b) with hlt | hge
  ·rw [List.getElem?_append_left (by rw [stepL_len]; exact hlt), <- List.getD_eq_getElem?_getD]
   exact stepL_get z b hb c hlt
  ·rw [Nat.add_mul, Nat.one_mul] at h;rw [List.getElem?_append_right (by rw [stepL_len]; exact hge), stepL_len, <- List.getD_eq_getElem?_getD, stepRow_get _ (by omega)]
   have e : i = (i - c * b) + b * c := by rw [Nat.mul_comm b c]; omega
   have e1 : i / b = c := by
    rw [e, Nat.add_mul_div_left _ _ hb, Nat.div_eq_of_lt (by omega), Nat.zero_add]
   have e2 : i % b = i - c * b := by
    rw [e, Nat.add_mul_mod_self_left, Nat.mod_eq_of_lt (by omega)]
    rw [Nat.mul_comm b c]; omega
   rw [e1, e2]
def mvM (s : CsA) : MiA := ⟨s.B, s.D, s.Q, mqlL s.G s.ng, mqlL s.H s.nh, s.ng, s.nh, s.b, s.c, s.a, s.r, s.t1, s.t2, ((mvZ s).sl.take (mvZ s).nl).length, ((mvZ s).sr.take (mvZ s).nr).length, ((mvZ s).vs.take (mvZ s).nv).length, (mvZ s).sl.take (mvZ s).nl, (mvZ s).sr.take (mvZ s).nr, (mvZ s).vs.take (mvZ s).nv, beN (mvZ s), bitL (mvZ s) (beN (mvZ s)), beVw (mvZ s)⟩
section
variable {s : CsA} (ho : CsOk s)
include ho
theorem mvM_SL : (mvM s).SL = s.sl := by
 show (mvZ s).sl.take (mvZ s).nl = s.sl
 rw [mvZ_nl ho];exact (twM_mark s.sl 77 ho.l).2.2
theorem mvM_SR : (mvM s).SR = s.sr := by
 show (mvZ s).sr.take (mvZ s).nr = s.sr
 rw [mvZ_nr ho];exact (twM_mark s.sr 78 ho.r).2.2
theorem mvM_VS : (mvM s).VS = s.vs := by
 show (mvZ s).vs.take (mvZ s).nv = s.vs
 rw [mvZ_vs ho, mvZ_nv ho, take_vs ho]
theorem mvM_n : (mvM s).n1 = s.nl /\ (mvM s).n2 = s.nr /\ (mvM s).n3 = s.nv := by
 refine ⟨?_, ?_, ?_⟩
 ·show (mvM s).SL.length = s.nl
  rw [mvM_SL ho, ho.l]
 ·show (mvM s).SR.length = s.nr
  rw [mvM_SR ho, ho.r]
 ·show (mvM s).VS.length = s.nv
  rw [mvM_VS ho, ho.v]
end
section
variable {s : CsA} (ho : CsOk s) (hb : BeOk (mvZ s)) {y z y' z' : List Int} (x' : List Int) (hy : Cl (val y) (val y')) (hz : Cl (val z) (val z'))
include ho hb
theorem mvM_k : (mvM s).k = s.nl := ok_nl ho hb
theorem mvM_bits : (mvM s).bits = mpL (waE (mvH s y' z' x')) s.nl := by
 show bitL (mvZ s) (beN (mvZ s)) = _
 rw [ok_nl ho hb, bits_eq ho hb y' z' x']
theorem mvM_ok : miOk (mvM s) = true := by
 obtain ⟨h1, h2, h3, h4, h5, h6⟩ := ok_nums ho hb;obtain ⟨g1, g2, g3⟩ := mvM_n ho;have hr := ok_nr ho hb
 have hk := mvM_k ho hb
 have ha : alw (mvM s).b (mvM s).c = true := hb.al
 unfold miOk;rw [ha, decide_eq_true (show ((mvM s).k : Int) = (mvM s).b * (mvM s).c /\ (mvM s).n1 = (mvM s).k /\ (mvM s).n2 = (mvM s).k from ⟨by rw [hk]; exact h1, by omega, by omega⟩)]
 rfl
theorem ok_bc : s.b.toNat * s.c.toNat = s.nl /\ s.c.toNat * s.b.toNat = s.nl /\ 0 < s.b.toNat /\ s.b.toNat <= 64 /\ (s.b.toNat : Int) = s.b := by
 obtain ⟨h1, h2, h3, h4, h5, h6⟩ := ok_nums ho hb;obtain ⟨⟨b1, b2⟩, c1, c2⟩ := alw_of hb.al;have b1' : 1 <= s.b := b1
 have b2' : s.b <= 64 := b2
 have c1' : 1 <= s.c := c1
 have e : ((s.b.toNat * s.c.toNat : Nat) : Int) = s.nl := by
  rw [Int.natCast_mul, Int.toNat_of_nonneg (by omega), Int.toNat_of_nonneg (by omega)]
  exact h1.symm
 refine ⟨by omega, by rw [Nat.mul_comm]; omega, by omega, by omega, by omega⟩
include hz in
theorem lc_eq : lcL (mvM s) z s.nl = mpL (wl0 (mvH s y' z' x')) s.nl :=
 List.map_congr_left fun i hi => by
  show limbs ((val ((mvM s).bits.getD i zL) - val z) % ell) = limbs ((val (waE (mvH s y' z' x') i) - val z') % ell)
  rw [mvM_bits ho hb (y' := y') (z' := z') x', show (mpL (waE (mvH s y' z' x')) s.nl).getD i zL = waE (mvH s y' z' x') i from map_range_getD (waE (mvH s y' z' x')) s.nl i zL (List.mem_range.1 hi)]
  exact ((Cl.refl _).sub hz).limbs
omit hb in
include hy in
theorem ys_eq {i n : Nat} (hi : i < n) : (powL (val y) n).getD i zL = wyE (mvH s y' z' x') i := by
 unfold powL;rw [map_range_getD (fun i => limbs (val y ^ i % ell)) n i zL hi]
 exact (hy.pow i).limbs
include hy in
theorem rd_eq : rdL (mvM s) y s.nl = mpL (wr1 (mvH s y' z' x')) s.nl :=
 List.map_congr_left fun i hi => by
  have hi := List.mem_range.1 hi
  have hr := ok_nr ho hb
  show limbs (val ((powL (val y) (s.b.toNat * s.c.toNat)).getD i zL) * val ((mvM s).SR.getD i zL) % ell) = limbs (val (wyE (mvH s y' z' x') i) * val ((mqnL s.sr s.nr).getD i zL) % ell)
  rw [(ok_bc ho hb).1, ys_eq ho x' hy hi, mvM_SR ho];exact ((Cl.refl _).mul (nu_cg s.sr (show i < s.nr by omega))).limbs
theorem wg_pw {i : Nat} (hi : i < s.nl) : (wgN s.b i).toNat = 2 + i / s.b.toNat /\ pwV s.b i = 2 ^ (i % s.b.toNat) := by
 obtain ⟨h1, h2, h3, h4, h5, h6⟩ := ok_nums ho hb;obtain ⟨e1, e2, e3, e4, e5⟩ := ok_bc ho hb;have q1 : (i : Int).tdiv s.b = ((i / s.b.toNat : Nat) : Int) := by
  rw [Int.tdiv_eq_ediv_of_nonneg (by omega), <- e5, <- Int.natCast_ediv]
  simp
 have q2 : (i : Int).tmod s.b = ((i % s.b.toNat : Nat) : Int) := by
  rw [Int.tmod_eq_emod_of_nonneg (by omega), <- e5, <- Int.natCast_emod]
  simp
 have hle : i / s.b.toNat <= i := Nat.div_le_self _ _
 have hlt : i % s.b.toNat < s.b.toNat := Nat.mod_lt _ e3
 refine ⟨?_, ?_⟩
 ·unfold wgN;rw [q1, iw_nat (by omega), show (2 : Int) + ((i / s.b.toNat : Nat) : Int) = ((2 + i / s.b.toNat : Nat) : Int) from by rw [Int.natCast_add]; rfl, iw_nat (by omega), Int.toNat_natCast]
 ·unfold pwV;rw [q2, Int.toNat_natCast, Nat.min_eq_left (by omega), wrapU, Int.one_mul]
  exact pow_wrap _ (by omega)
include hy hz in
theorem rc_eq : rcL (mvM s) y z s.nl = mpL (wr0 (mvH s y' z' x')) s.nl :=
 List.map_congr_left fun i hi => by
  have hi := List.mem_range.1 hi
  obtain ⟨e1, e2, e3, e4, e5⟩ := ok_bc ho hb;obtain ⟨g1, g2⟩ := wg_pw ho hb hi
  show limbs ((val (limbs (val ((powL (val y) (s.b.toNat * s.c.toNat)).getD i zL) * val (limbs ((val (limbs ((val ((mvM s).bits.getD i zL) - 1) % ell)) + val z) % ell)) % ell)) + val ((stepL (val z) s.b.toNat s.c.toNat).getD i zL)) % ell)
   = limbs ((val (limbs (val (wyE (mvH s y' z' x') i) * val (limbs ((val (limbs ((val (waE (mvH s y' z' x') i) - 1) % ell)) + val z') % ell)) % ell)) + val (limbs (val (limbs (val z' ^ (wgN s.b i).toNat % ell)) * val [pwV s.b i, 0, 0, 0] % ell))) % ell)
  rw [e1, ys_eq ho x' hy hi, mvM_bits ho hb (y' := y') (z' := z') x', show (mpL (waE (mvH s y' z' x')) s.nl).getD i zL = waE (mvH s y' z' x') i from map_range_getD (waE (mvH s y' z' x')) s.nl i zL hi,
   stepL_get (val z) s.b.toNat e3 s.c.toNat (by omega), g1, g2, val_one]
  have q : limbs ((val (limbs ((val (waE (mvH s y' z' x') i) - 1) % ell)) + val z) % ell) = limbs ((val (limbs ((val (waE (mvH s y' z' x') i) - 1) % ell)) + val z') % ell) := ((Cl.refl _).add hz).limbs
  rw [q];refine (Cl.add (.refl _) ?_).limbs
  exact ((cg_val _).trans ((hz.pow _).mul (.refl _))).trans ((cg_val _).trans ((cg_val _).mul (.refl _))).symm
theorem l1_cg {i : Nat} (hi : i < s.nl) : Cl (val ((mvM s).SL.getD i zL)) (val (wl1 (mvH s y' z' x') i)) := by
 rw [mvM_SL ho, show wl1 (mvH s y' z' x') i = leL (s.sl.getD i zL) from nu_p s.sl hi]
 exact (cg_le _).symm
omit ho hb in
theorem mpL_get (f : Nat -> List Int) {n i : Nat} (h : i < n) : (mpL f n).getD i zL = f i := map_range_getD f n i zL h
include hy hz in
theorem T_eq : (miVw (mvM s) y z).T1 = (whVw (mvH s y' z' x')).T1 /\ (miVw (mvM s) y z).T2 = (whVw (mvH s y' z' x')).T2 := by
 have hk := mvM_k ho hb
 have h1 := (mvM_n ho).1
 have e1 : Cl (inn (mvM s).SL (mpL (wr0 (mvH s y' z' x')) s.nl) s.nl) (inn (mpL (wl1 (mvH s y' z' x')) s.nl) (mpL (wr0 (mvH s y' z' x')) s.nl) s.nl) :=
  inn_cg (fun i hi => by rw [mpL_get _ hi]; exact l1_cg ho hb x' hi) fun _ _ => .refl _
 have e2 : Cl (inn (mvM s).SL (mpL (wr1 (mvH s y' z' x')) s.nl) s.nl) (inn (mpL (wl1 (mvH s y' z' x')) s.nl) (mpL (wr1 (mvH s y' z' x')) s.nl) s.nl) :=
  inn_cg (fun i hi => by rw [mpL_get _ hi]; exact l1_cg ho hb x' hi) fun _ _ => .refl _
 refine ⟨?_, ?_⟩
 ·show limbs (comS s.B s.D (limbs ((val (limbs (inn (lcL (mvM s) z (mvM s).k) (rdL (mvM s) y (mvM s).k) (mvM s).k % ell)) + val (limbs (inn (mvM s).SL (rcL (mvM s) y z (mvM s).k) (mvM s).n1 % ell))) % ell)) s.t1 % ell)
   = limbs (comS (leL s.B) (leL s.D) (wt1 (whL (mvH s y' z' x') s.nl) s.nl) (leL s.t1) % ell)
  rw [hk, h1, lc_eq ho hb x' hz, rd_eq ho hb x' hy, rc_eq ho hb x' hy hz, e1.limbs];exact (comS_cg (cg_le _).symm (cg_le _).symm (.refl _) (cg_le _).symm).limbs
 ·show limbs (comS s.B s.D (limbs (inn (mvM s).SL (rdL (mvM s) y (mvM s).k) (mvM s).n1 % ell)) s.t2 % ell)
   = limbs (comS (leL s.B) (leL s.D) (limbs (inn (whL (mvH s y' z' x') s.nl).l1 (whL (mvH s y' z' x') s.nl).r1 s.nl % ell)) (leL s.t2) % ell)
  rw [hk, h1, rd_eq ho hb (z' := z') x' hy, e2.limbs];exact (comS_cg (cg_le _).symm (cg_le _).symm (.refl _) (cg_le _).symm).limbs
end
def mvF (s : CsA) (y z : List Int) : MiA := { mvM s with v := miVw (mvM s) y z }
theorem mix_eq {x a b p q : List Int} {w : WhA} (hx : Cl (val x) (val w.x)) (ha : Cl (val a) (val p)) (hb : Cl (val b) (val q)) : mixE [1, 0, 0, 0] x a b = wmE w p q := by
 unfold mixE wmE;refine Cl.limbs (Cl.add ?_ ?_)
 ·refine (cg_val _).trans ?_
  rw [val_one, Int.one_mul];exact ha
 ·rw [Int.mul_comm (val q)];exact (cg_val _).trans ((hx.mul hb).trans (cg_val _).symm)
section
variable {s : CsA} (ho : CsOk s) (hb : BeOk (mvZ s)) {y z x y' z' x' : List Int} (hy : Cl (val y) (val y')) (hz : Cl (val z) (val z')) (hx : Cl (val x) (val x'))
include ho hb hy hz hx
omit hy in
theorem L_eq : fnL (mvF s y z) s.nl (lcL (mvM s) z s.nl) x = mpL (wlE (mvH s y' z' x')) s.nl := by
 rw [lc_eq ho hb (y' := y') x' hz];refine List.map_congr_left fun i hi => ?_
 have hi := List.mem_range.1 hi
 rw [mpL_get _ hi];exact mix_eq hx (.refl _) (l1_cg ho hb (y' := y') (z' := z') x' hi)
theorem Q_eq : fnQ s.nl (rcL (mvM s) y z s.nl) (rdL (mvM s) y s.nl) x = mpL (wrE (mvH s y' z' x')) s.nl := by
 rw [rc_eq ho hb x' hy hz, rd_eq ho hb (z' := z') x' hy];refine List.map_congr_left fun i hi => ?_
 have hi := List.mem_range.1 hi
 rw [mpL_get _ hi, mpL_get _ hi];exact mix_eq hx (.refl _) (.refl _)
omit ho hb hy hz in
theorem Mu_eq (L R : List (List Int)) (v : Vw) : (fnV (mvF s y z) v x L R s.nl).Mu = (whVw (mvH s y' z' x')).Mu := by
 show limbs ((val s.a + val (limbs (val s.r * val x % ell))) % ell) = limbs ((val (leL s.a) + val (limbs (val (leL s.r) * val x' % ell))) % ell)
 exact ((cg_le _).symm.add ((cg_val _).trans (((cg_le _).symm.mul hx).trans (cg_val _).symm))).limbs
omit hb hy hx in
theorem bls_cg (hb' : s.nv <= 1048576) : ∀ n, n <= s.nv -> Cl (val (wbls (mvH s y' z' x') n)) (sumN (fun j => val z ^ (2 + j) * val (opB s.vs j)) n)
 | 0, _ => .refl _
 | n + 1, h => by
  have hi : iw (2 + (n : Int)) = ((2 + n : Nat) : Int) := by
   unfold iw;rw [IntKind.wrap_i64];omega
  show Cl (val (limbs ((val (wbls (mvH s y' z' x') n) + val (limbs (val (limbs (val z' ^ (iw (2 + (n : Int))).toNat % ell)) * val (opB (mqpL s.vs s.nv) n) % ell))) % ell))) (sumN (fun j => val z ^ (2 + j) * val (opB s.vs j)) n + val z ^ (2 + n) * val (opB s.vs n))
  rw [hi, Int.toNat_natCast, (opVB_p s.vs (show n < s.nv by omega)).2]
  refine (cg_val _).trans ((bls_cg hb' n (by omega)).add ((cg_val _).trans (Cl.mul ((cg_val _).trans (hz.symm.pow _)) (cg_le _))))
theorem Tx_eq (hzz : z' = leL z) : limbs (txS (mvF s y z) (mvF s y z).v.Z x s.nv % ell) = (whVw (mvH s y' z' x')).Tx := by
 show limbs ((val s.t1 * val x + val s.t2 * val x * val x + sumN (fun j => val (leL z) ^ (2 + j) * val (opB (mvM s).VS j)) s.nv) % ell) = limbs ((val (wtx (mvH s y' z' x')) + val (wbls (mvH s y' z' x') s.nv)) % ell)
 rw [mvM_VS ho];refine (Cl.add ?_ ?_).limbs
 ·refine Cl.symm ((cg_val _).trans (Cl.add ((cg_val _).trans ((cg_le _).mul hx.symm)) ((cg_val _).trans (Cl.mul ((cg_val _).trans ((cg_le _).mul hx.symm)) hx.symm))))
 ·exact (bls_cg (z := leL z) ho (y' := y') (z' := z') (x' := x') ((cg_le _).trans hz) ho.bv s.nv (Nat.le_refl _)).symm
theorem Th_eq : limbs (inn (fnL (mvF s y z) s.nl (lcL (mvM s) z s.nl) x) (fnQ s.nl (rcL (mvM s) y z s.nl) (rdL (mvM s) y s.nl) x) s.nl % ell) = (whVw (mvH s y' z' x')).Th := by
 rw [L_eq ho hb (y' := y') hz hx, Q_eq ho hb hy hz hx];rfl
end
def el2 (k : List Int) : ElA := ⟨2, z10, z10, k⟩
def el0 : ElA := ⟨0, z10, z10, zL⟩
theorem elB_2 {a k : List Int} (h : leL a = k) : elB a (el2 k) = true := by
 show (decide ((2 : Int) = 0 \/ (2 : Int) = 2) && ((leL a == if (2 : Int) = 0 then zL else k) && true)) = true
 rw [if_neg (by decide), h, beq_self_eq_true]; rfl
theorem elB_0 : elB zL el0 = true := by decide
theorem leL_A (z : BeA) (v : Vw) (w : WhA) (h : v.A = (whVw w).A) : leL v.A = (whVw w).A := by
 rw [h];exact leL_mod _
theorem leL_S (v : Vw) (w : WhA) (h : v.S = (whVw w).S) : leL v.S = (whVw w).S := by
 rw [h];exact leL_mod _
theorem leL_T1 (v : Vw) (w : WhA) (h : v.T1 = (whVw w).T1) : leL v.T1 = (whVw w).T1 := by
 rw [h];exact leL_mod _
theorem leL_T2 (v : Vw) (w : WhA) (h : v.T2 = (whVw w).T2) : leL v.T2 = (whVw w).T2 := by
 rw [h];exact leL_mod _
def ev1 (w : WhA) : DvA := ⟨el2 (whVw w).A, el2 (whVw w).S, el0, el0, zL, zL, zL, zL, zL, zL⟩
def ev2 (w : WhA) (y z : List Int) : DvA := ⟨el2 (whVw w).A, el2 (whVw w).S, el2 (whVw w).T1, el2 (whVw w).T2, y, z, zL, zL, zL, zL⟩
def ev3 (w : WhA) : DvA := ⟨el2 (whVw w).A, el2 (whVw w).S, el2 (whVw w).T1, el2 (whVw w).T2, (whVw w).Y, (whVw w).Z, (whVw w).X, (whVw w).Tx, (whVw w).Mu, (whVw w).Th⟩
theorem vB_mk {u : Vw} {d : DvA} (h1 : elB u.A d.A = true) (h2 : elB u.S d.S = true) (h3 : elB u.T1 d.T1 = true) (h4 : elB u.T2 d.T2 = true) (h5 : u.Y = d.Y) (h6 : u.Z = d.Z) (h7 : u.X = d.X) (h8 : u.Tx = d.Tx) (h9 : u.Mu = d.Mu) (h10 : u.Th = d.Th) : vB u d = true := by
 unfold vB;rw [h1, h2, h3, h4, h5, h6, h7, h8, h9, h10];simp only [beq_self_eq_true, Bool.and_self]
section
variable {s : CsA} (ho : CsOk s) (hb : BeOk (mvZ s))
include ho hb
theorem vB_1 (y z x : List Int) : vB (beVw (mvZ s)) (ev1 (mvH s y z x)) = true :=
 vB_mk (elB_2 (leL_A (mvZ s) _ _ (A_eq ho hb y z x))) (elB_2 (leL_S _ _ (S_eq ho hb y z x))) elB_0 elB_0 rfl rfl rfl rfl rfl rfl
theorem vB_2 (y z x' : List Int) : vB (miVw (mvM s) y z) (ev2 (mvH s (leL y) (leL z) x') (leL y) (leL z)) = true := by
 obtain ⟨t1, t2⟩ := T_eq ho hb (y := y) (z := z) (y' := leL y) (z' := leL z) x' (cg_le y).symm (cg_le z).symm;exact vB_mk (elB_2 (leL_A (mvZ s) (miVw (mvM s) y z) _ (A_eq ho hb _ _ _))) (elB_2 (leL_S (miVw (mvM s) y z) _ (S_eq ho hb _ _ _))) (elB_2 (leL_T1 _ _ t1)) (elB_2 (leL_T2 _ _ t2)) rfl rfl rfl rfl rfl rfl
theorem vB_3 (y z x : List Int) : vB (fnW (mvF s y z) s.nl (lcL (mvM s) z s.nl) (rcL (mvM s) y z s.nl) (rdL (mvM s) y s.nl) x s.nv) (ev3 (mvH s (leL y) (leL z) (leL x))) = true := by
 obtain ⟨t1, t2⟩ := T_eq ho hb (y := y) (z := z) (y' := leL y) (z' := leL z) (leL x) (cg_le y).symm (cg_le z).symm;exact vB_mk (elB_2 (leL_A (mvZ s) (miVw (mvM s) y z) _ (A_eq ho hb _ _ _))) (elB_2 (leL_S (miVw (mvM s) y z) _ (S_eq ho hb _ _ _))) (elB_2 (leL_T1 _ _ t1)) (elB_2 (leL_T2 _ _ t2)) rfl rfl rfl
  (Tx_eq ho hb (cg_le y).symm (cg_le z).symm (cg_le x).symm rfl) (Mu_eq (s := s) (y := y) (z := z) (y' := leL y) (z' := leL z) (cg_le x).symm [] [] vw0) (Th_eq ho hb (cg_le y).symm (cg_le z).symm (cg_le x).symm)
theorem snB_L (y z x : List Int) : snB (fnL (mvF s y z) s.nl (lcL (mvM s) z s.nl) x) (mpL (wlE (mvH s (leL y) (leL z) (leL x))) s.nl) s.nl s.nl = true := by
 have h := ho.bl
 rw [L_eq ho hb (y := y) (y' := leL y) (cg_le z).symm (cg_le x).symm];exact decide_eq_true ⟨rfl, by omega, by rw [mpL_len]; exact Nat.le_refl _, rfl⟩
theorem snB_R (y z x : List Int) : snB (fnQ s.nl (rcL (mvM s) y z s.nl) (rdL (mvM s) y s.nl) x) (mpL (wrE (mvH s (leL y) (leL z) (leL x))) s.nl) s.nl s.nl = true := by
 have h := ho.bl
 rw [Q_eq ho hb (cg_le y).symm (cg_le z).symm (cg_le x).symm];exact decide_eq_true ⟨rfl, by omega, by rw [mpL_len]; exact Nat.le_refl _, rfl⟩
end
end Go.Sc
