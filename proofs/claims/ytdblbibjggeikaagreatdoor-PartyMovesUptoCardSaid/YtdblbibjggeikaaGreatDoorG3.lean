/- Layer 14, the document: lists, its pieces. -/
import Derived.Test.YtdblbibjggeikaaGreatDoorG1
set_option linter.unusedSectionVars false
set_option linter.unusedVariables false
set_option linter.unusedSimpArgs false
namespace Go.Sc
open Go Go.SX Go.Proofs
variable [Level] [Lone]
noncomputable def dlR (k : List Item) (s : St) : Tree Out := runK Q5 Tryz.prog noLoops 400 k s
noncomputable def dlS (ph : Int) (x : DpA) (y z : List Int) : St := ⟨enterT Tryz.f93 [.c (.ptr 0 0 0 0 0 0), ws y, ws z], [.vals (dpC false ph x)]⟩
noncomputable def dlK : List Item := leftT [true] (dlR [.code (cd Tryz.f93)] (dlS 0 dp0 [] []))
noncomputable def dlT (ph : Int) (x : DpA) (y z : List Int) (k : Nat) (bs : List (List Int)) (a b c d : Cell) (i : Int) (h : Heap) : St :=
 ⟨slotsOf 108 [(0, pt 0), (4, pt 1), (5, pt 2), (10, one a), (11, one b), (12, one c), (13, one d), (14, one (.sl 3 0 k)), (15, one (.int false .i64 i))],
  [.vals (dpC false ph x), .vals [.ws .u64 4 y], .vals [.ws .u64 4 z], .arr WS bs 0 []] ++ h⟩
def dlP : List Nat := [0, 4, 5, 10, 11, 12, 13, 14, 15]
theorem dlx_a (ph : Int) (x : DpA) (y z : List Int) : pieceT dlP [15] [0, 1, 2, 3] [true] (dlR [.code (cd Tryz.f93)] (dlS ph x y z)) =
  some ([decide (1 <= x.b /\ x.b <= 64)], dlK, dlT ph x y z x.b.toNat (pbEs x.v x.b.toNat) .nils .nils .nils .nils (0 : Nat) []) := by kernel_rfl
def dlYi (x : DpA) (y : List Int) (i : Int) : List Int := limbs (val y ^ (IntKind.u64.wrap (iw (iw (x.p * x.b) + i))).toNat % ell)
def dlTw (x : DpA) (z : List Int) (i : Int) : List Int := limbs (val (limbs (val z ^ (IntKind.u64.wrap (iw (2 + x.p))).toNat % ell)) * val [IntKind.u64.wrap (1 * 2 ^ (min i.toNat 64)), 0, 0, 0] % ell)
def dlPr (y b z : List Int) : List Int := limbs (val y * val (limbs ((val (limbs ((val b - val [1, 0, 0, 0]) % ell)) + val z) % ell)) % ell)
def dlR0 (y w b z : List Int) : List Int := limbs ((val (dlPr y b z) + val w) % ell)
def dlBs (bs : List (List Int)) (i : Nat) : List Int := bs.getD (0 + i) zL
def dlC (z : List Int) (bs : List (List Int)) (i : Nat) : Bool := decide (val (dlBs bs i) < ell /\ val z < ell)
def dlD (z : List Int) (bs : List (List Int)) (i : Nat) : Bool := decide (val (limbs ((val (dlBs bs i) - val [1, 0, 0, 0]) % ell)) < ell /\ val z < ell)
def dlE (x : DpA) (y z : List Int) (bs : List (List Int)) (i : Nat) : Bool := decide (val (dlPr (dlYi x y i) (dlBs bs i) z) < ell /\ val (dlTw x z i) < ell)
noncomputable def dlF (m : Nat) (e : List (List Int)) : Bool := decide (m = e.length) && roomW (m + 1)
section
variable (ph : Int) (x : DpA) (y z : List Int) (k m i : Nat) (bs e f g h : List (List Int))
noncomputable def dlH (e f g h : List (List Int)) : Heap := [.arr WS e 0 [], .arr WS f 0 [], .arr WS g 0 [], .arr WS h 0 []]
theorem dlx_b0 : pieceT dlP [15] [0, 1, 2, 3, 9, 11, 13, 15] (List.replicate 14 true) (dlR dlK (dlT ph x y z k bs .nils .nils .nils .nils i [])) =
  some ([decide ((i : Int) < x.b), decide (0 <= (i : Int)), inK' i k, dlC z bs i, roomW 1, inK' i x.nl, roomW 1, inK' i k, djL bs i, dlD z bs i, dlE x y z bs i, roomW 1, inK' i x.nr, roomW 1], dlK,
   dlT ph x y z k bs (.sl 4 0 1) (.sl 5 0 1) (.sl 6 0 1) (.sl 7 0 1) (iw ((i : Int) + 1)) (dlH [poL (dlBs bs i) z] [x.sl.getD i zL] [dlR0 (dlYi x y i) (dlTw x z i) (dlBs bs i) z] [mulL (dlYi x y i) (x.sr.getD i zL)])) := by kernel_rfl
theorem dlx_b : pieceT dlP [15] [0, 1, 2, 3, 13, 15, 17, 19] (List.replicate 14 true) (dlR dlK (dlT ph x y z k bs (.sl 4 0 m) (.sl 5 0 m) (.sl 6 0 m) (.sl 7 0 m) i (dlH e f g h))) =
  some ([decide ((i : Int) < x.b), decide (0 <= (i : Int)), inK' i k, dlC z bs i, dlF m e, inK' i x.nl, dlF m f, inK' i k, djL bs i, dlD z bs i, dlE x y z bs i, dlF m g, inK' i x.nr, dlF m h], dlK,
   dlT ph x y z k bs (.sl 4 0 (m + 1)) (.sl 5 0 (m + 1)) (.sl 6 0 (m + 1)) (.sl 7 0 (m + 1)) (iw ((i : Int) + 1)) (dlH (e ++ [poL (dlBs bs i) z]) (f ++ [x.sl.getD i zL]) (g ++ [dlR0 (dlYi x y i) (dlTw x z i) (dlBs bs i) z]) (h ++ [mulL (dlYi x y i) (x.sr.getD i zL)]))) := by kernel_rfl
def dlV (m : Nat) : SV := .tup [.c (.sl 1 0 m), .c (.sl 2 0 m), .c (.sl 3 0 m), .c (.sl 4 0 m)]
theorem dlx_c : endT Tryz.prog Tryz.f93 [0, 4, 5, 6, 7] [false] (dlR dlK (dlT ph x y z k bs (.sl 4 0 m) (.sl 5 0 m) (.sl 6 0 m) (.sl 7 0 m) i (dlH e f g h))) =
  some ([decide ((i : Int) < x.b)], dlV m, .vals (dpC false ph x) :: dlH e f g h) := by kernel_rfl
end
theorem pow_wrap : ∀ k : Nat, k < 64 -> (2 : Int) ^ k % 18446744073709551616 = 2 ^ k := by decide
theorem vlt (x : Int) : val (limbs (x % ell)) < ell := by rw [val_mod]; exact (mod_bound x).2
def dgW (x : DpA) (z : List Int) (i : Nat) : List Int := limbs (val (limbs (val z ^ (2 + x.p).toNat % ell)) * val [2 ^ i, 0, 0, 0] % ell)
def dgY (x : DpA) (y : List Int) (i : Nat) : List Int := ppY y (x.p * x.b).toNat i
def dg0 (x : DpA) (z : List Int) (i : Nat) : List Int := poL (pbE x.v i) z
def dg1 (x : DpA) (i : Nat) : List Int := x.sl.getD i zL
def dg2 (x : DpA) (y z : List Int) (i : Nat) : List Int := dlR0 (dgY x y i) (dgW x z i) (pbE x.v i) z
def dg3 (x : DpA) (y : List Int) (i : Nat) : List Int := mulL (dgY x y i) (x.sr.getD i zL)
def mpL (f : Nat -> List Int) (k : Nat) : List (List Int) := (List.range k).map f
theorem mpL_len (f : Nat -> List Int) (k : Nat) : (mpL f k).length = k := map_range_len f k
theorem mpL_next (f : Nat -> List Int) (k : Nat) : mpL f k ++ [f k] = mpL f (k + 1) := map_range_snoc f k
theorem mpL_get (f : Nat -> List Int) {n i : Nat} (h : i < n) : (mpL f n).getD i zL = f i := map_range_getD f n i zL h
structure DlOk (x : DpA) (z : List Int) : Prop where
 b : 1 <= x.b /\ x.b <= 64
 p : 0 <= x.p /\ x.p <= 16
 nl : x.nl = x.b.toNat
 nr : x.nr = x.b.toNat
 z : val z < ell
section
variable {ph : Int} {x : DpA} {y z : List Int}
theorem dlx_ix (o : DlOk x z) {i : Nat} (h : i < x.b.toNat) : dlYi x y i = dgY x y i /\ dlTw x z i = dgW x z i /\ dlBs (pbEs x.v x.b.toNat) i = pbE x.v i /\ dlC z (pbEs x.v x.b.toNat) i = true /\ dlD z (pbEs x.v x.b.toNat) i = true /\ dlE x y z (pbEs x.v x.b.toNat) i = true := by
 obtain ⟨b1, b2⟩ := o.b;obtain ⟨p1, p2⟩ := o.p;have hp0 : 0 <= x.p * x.b := Int.mul_nonneg p1 (by omega)
 have hp1 : x.p * x.b <= 16 * 64 := Int.mul_le_mul p2 b2 (by omega) (by decide)
 have e1 : dlYi x y i = dgY x y i := by
  have e : iw (x.p * x.b) = x.p * x.b := by unfold iw; rw [IntKind.wrap_i64]; omega
  have e2 : iw (x.p * x.b + (i : Int)) = x.p * x.b + i := by unfold iw; rw [IntKind.wrap_i64]; omega
  unfold dlYi dgY ppY;rw [e, e2, wrapU, show ((x.p * x.b + (i : Int)) % 18446744073709551616).toNat = (x.p * x.b).toNat + i by omega]
 have e2 : dlTw x z i = dgW x z i := by
  have e : iw (2 + x.p) = 2 + x.p := by unfold iw; rw [IntKind.wrap_i64]; omega
  unfold dlTw dgW;rw [e, wrapU, wrapU, show ((2 + x.p) % 18446744073709551616).toNat = (2 + x.p).toNat by omega, Int.toNat_natCast, Nat.min_eq_left (by omega), Int.one_mul, pow_wrap i (by omega)]
 have e3 : dlBs (pbEs x.v x.b.toNat) i = pbE x.v i := by
  unfold dlBs pbEs;rw [Nat.zero_add];exact map_range_getD (pbE x.v) _ i zL h
 refine ⟨e1, e2, e3, ?_, ?_, ?_⟩
 ·have q := djL_t (v := x.v) h
  unfold djL at q;exact deT ⟨(ofD q).1, o.z⟩
 ·exact deT ⟨vlt _, o.z⟩
 ·exact deT ⟨vlt _, vlt _⟩
theorem dlx_runs (o : DlOk x z) : Runs Tryz.prog Q5 Tryz.f93 1 [.code (cd Tryz.f93)] (dlS ph x y z) (dlV x.b.toNat) (.vals (dpC false ph x) :: dlH (mpL (dg0 x z) x.b.toNat) (mpL (dg1 x) x.b.toNat) (mpL (dg2 x y z) x.b.toNat) (mpL (dg3 x y) x.b.toNat)) := by
 obtain ⟨b1, b2⟩ := o.b;have n1 := o.nl
 have n2 := o.nr
 refine Runs.piece okQ5 mx (dlx_a ph x y z) (by rw [deT ⟨b1, b2⟩]) (by rfl) ?_
 have hb : 1 <= x.b.toNat /\ x.b.toNat <= 64 := by omega
 obtain ⟨q1, q2, q3, q4, q5, q6⟩ := dlx_ix (y := y) o (show 0 < x.b.toNat by omega)
 have h := dlx_b0 ph x y z x.b.toNat 0 (pbEs x.v x.b.toNat)
 rw [deT (show ((0 : Nat) : Int) < x.b by omega), deT (show 0 <= ((0 : Nat) : Int) by omega), inK_t (show 0 < x.b.toNat by omega), inK_t (show 0 < x.nl by omega), inK_t (show 0 < x.nr by omega), q4, q5, q6, djL_t (show 0 < x.b.toNat by omega), roomWk (by decide), q1, q2, q3] at h
 refine Runs.piece okQ5 mx h rfl (by rfl) ?_
 refine loopG (st := fun k (a : List (List Int) × List (List Int) × List (List Int) × List (List Int)) => dlT ph x y z x.b.toNat (pbEs x.v x.b.toNat) (.sl 4 0 k) (.sl 5 0 k) (.sl 6 0 k) (.sl 7 0 k) k (dlH a.1 a.2.1 a.2.2.1 a.2.2.2))
  (I := fun k a => a = (mpL (dg0 x z) k, mpL (dg1 x) k, mpL (dg2 x y z) k, mpL (dg3 x y) k)) (n := x.b.toNat) (fun k a hk hI => ?_) (fun a hI => ?_) (x.b.toNat - 1) 1 ([dg0 x z 0], [dg1 x 0], [dg2 x y z 0], [dg3 x y 0]) (by omega) rfl
 ·subst hI;obtain ⟨q1, q2, q3, q4, q5, q6⟩ := dlx_ix (y := y) o hk;have e : ∀ f : Nat -> List Int, dlF k (mpL f k) = true := fun f => by
   unfold dlF;rw [mpL_len, deT rfl, roomWk (by omega)]; rfl
  have h := dlx_b ph x y z x.b.toNat k k (pbEs x.v x.b.toNat) (mpL (dg0 x z) k) (mpL (dg1 x) k) (mpL (dg2 x y z) k) (mpL (dg3 x y) k)
  rw [deT (show (k : Int) < x.b by omega), deT (show 0 <= (k : Int) by omega), inK_t hk, inK_t (show k < x.nl by omega), inK_t (show k < x.nr by omega), q4, q5, q6, djL_t hk, e, e, e, e, q1, q2, q3, iwk (by omega)] at h
  exact ⟨(_, _, _, _), Prod.ext (mpL_next (dg0 x z) k) (Prod.ext (mpL_next (dg1 x) k) (Prod.ext (mpL_next (dg2 x y z) k) (mpL_next (dg3 x y) k))), fun hr => Runs.piece okQ5 mx h rfl (by rfl) hr⟩
 ·subst hI;have h := dlx_c ph x y z x.b.toNat x.b.toNat x.b.toNat (pbEs x.v x.b.toNat) (mpL (dg0 x z) x.b.toNat) (mpL (dg1 x) x.b.toNat) (mpL (dg2 x y z) x.b.toNat) (mpL (dg3 x y) x.b.toNat)
  rw [deF (by omega)] at h
  exact Runs.last okQ5 mx h rfl (by rfl)
end
def dlOk (x : DpA) (z : List Int) : Bool := decide ((1 <= x.b /\ x.b <= 64) /\ (0 <= x.p /\ x.p <= 16) /\ x.nl = x.b.toNat /\ x.nr = x.b.toNat /\ val z < ell)
theorem dlOk_of {x : DpA} {z : List Int} (h : dlOk x z = true) : DlOk x z := by
 obtain ⟨h1, h2, h3, h4, h5⟩ := ofD h;exact ⟨h1, h2, h3, h4, h5⟩
noncomputable def Tp14lists (vs : List V1) (hl : Heap) : Tree (SV × Heap) :=
 match vs, hl with
 | [.c (.ptr 0 0 0 0 0 0), .g [.ws .u64 4 y], .g [.ws .u64 4 z]], [.vals q] => match pDp q with
  | some (ph, x) => Tree.chk (dlOk x z) (.ret (dlV x.b.toNat, .vals (dpC false ph x) :: dlH (mpL (dg0 x z) x.b.toNat) (mpL (dg1 x) x.b.toNat) (mpL (dg2 x y z) x.b.toNat) (mpL (dg3 x y) x.b.toNat)))
  | none => .fail
 | _, _ => .fail
theorem ok_p14lists : EntryOk Tryz.prog G0 93 Tp14lists := by
 refine EntryOk.unlitHRuns (S := Q5) (fn := Tryz.f93) (c := cd Tryz.f93) (by kernel_rfl) (by kernel_rfl) (by kernel_rfl) (fun vs hl res hl' ok okh h => ?_)
 unfold Tp14lists at h;split at h
 ·rename_i y z q;split at h
  ·rename_i ph x e;obtain ⟨h1, h2⟩ := val_chk h;obtain ⟨rfl, rfl⟩ := Prod.mk.inj (val_ret h2);rw [show List.map unlB [Blk.vals q] = [unlB (.vals q)] from rfl, pDp_eq e]
   exact dlx_runs (dlOk_of h1)
  ·cases h
 ·cases h
noncomputable def Q6 : Tab := Q5.put 93 4 Tp14lists
theorem okQ6 : SpecOk Tryz.prog Q6 := okQ5.put ok_p14lists
noncomputable def dyR (k : List Item) (s : St) : Tree Out := runK Q6 Tryz.prog noLoops 400 k s
noncomputable def dyS (ph : Int) (x : DpA) (y z : List Int) : St := ⟨enterT Tryz.f37 [.c (.ptr 0 0 0 0 0 0), ws y, ws z], [.vals (dpC false ph x)]⟩
def dyX (x : DpA) (y z : List Int) : DpA := ⟨x.s, x.b, x.c, x.p, x.v, x.d, x.a, x.r, x.t1, x.t2, x.sl, x.nl, x.sr, x.nr, y, z⟩
def dyE (e : Int) : SV := .tup [.g ([.c (.int true .i64 0)] ++ eZ ++ eZ), .c (.int true .i64 e)]
def dyI (l r : List (List Int)) (k : Nat) : List Int := limbs (inn (l.drop 0) (r.drop 0) k % ell)
def dyT1 (x : DpA) (y z : List Int) (k : Nat) : List Int := limbs ((val (dyI (mpL (dg0 x z) k) (mpL (dg3 x y) k) k) + val (dyI (mpL (dg1 x) k) (mpL (dg2 x y z) k) k)) % ell)
def dyT2 (x : DpA) (y : List Int) (k : Nat) : List Int := dyI (mpL (dg1 x) k) (mpL (dg3 x y) k) k
def dpolyF (p : Int) (S T : List Int) : List FCell := [.c (.int false .i64 p)] ++ eF true 2 z10 z10 S .nils ++ eF true 2 z10 z10 T .nils
def dyV (x : DpA) (y z : List Int) (k : Nat) : SV := .tup [.g (dpolyF x.p (limbs (comS x.s.B x.s.D (dyT1 x y z k) x.t1 % ell)) (limbs (comS x.s.B x.s.D (dyT2 x y k) x.t2 % ell))), .c (.int true .i64 0)]
section
variable (ph : Int) (x : DpA) (y z : List Int)
theorem dy_0 : endT Tryz.prog Tryz.f37 [] [] (dyR [.code (cd Tryz.f37)] ⟨enterT Tryz.f37 [.c .nilp, ws y, ws z], []⟩) = some ([], dyE 1, []) := by kernel_rfl
theorem dy_1 : endT Tryz.prog Tryz.f37 [0] [true] (dyR [.code (cd Tryz.f37)] (dyS ph x y z)) = some ([ph != 0], dyE 6, [.vals (dpC false ph x)]) := by kernel_rfl
theorem dy_2 : endT Tryz.prog Tryz.f37 [0] [false, false] (dyR [.code (cd Tryz.f37)] (dyS ph x y z)) = some ([ph != 0, decide (val y = 0) == false], dyE 4, [.vals (dpC false ph x)]) := by kernel_rfl
theorem dy_3 : endT Tryz.prog Tryz.f37 [0] [false, true, true] (dyR [.code (cd Tryz.f37)] (dyS ph x y z)) = some ([ph != 0, decide (val y = 0) == false, decide (val z = 0)], dyE 4, [.vals (dpC false ph x)]) := by kernel_rfl
theorem dy_4 : endT Tryz.prog Tryz.f37 [0] [false, true, false, true, true, true, true, true, true, true] (dyR [.code (cd Tryz.f37)] (dyS ph x y z)) =
  some ([ph != 0, decide (val y = 0) == false, decide (val z = 0), dlOk x z, decide (x.b.toNat <= x.b.toNat /\ x.b.toNat <= 1048576), decide (x.b.toNat <= x.b.toNat /\ x.b.toNat <= 1048576), decide (val (dyI (mpL (dg0 x z) x.b.toNat) (mpL (dg3 x y) x.b.toNat) x.b.toNat) < ell /\ val (dyI (mpL (dg1 x) x.b.toNat) (mpL (dg2 x y z) x.b.toNat) x.b.toNat) < ell),
   decide (x.b.toNat <= x.b.toNat /\ x.b.toNat <= 1048576), decide (x.s.n1 = 2 /\ x.s.n2 = 2), decide (x.s.n1 = 2 /\ x.s.n2 = 2)], dyV x y z x.b.toNat, [.vals (dpC false 1 (dyX x y z))]) := by kernel_rfl
end
abbrev RDy (s : St) (v : SV) (h : Heap) : Prop := Runs Tryz.prog Q6 Tryz.f37 1 [.code (cd Tryz.f37)] s v h
def zB (y : List Int) : Bool := decide (val y = 0)
noncomputable def dyTr (x : DpA) (y z : List Int) : Tree (SV × Heap) := .br (zB y || zB z) (.ret (dyE 4, [.vals (dpC false 0 x)]))
 (Tree.chk (dlOk x z && decide (x.s.n1 = 2 /\ x.s.n2 = 2)) (.ret (dyV x y z x.b.toNat, [.vals (dpC false 1 (dyX x y z))])))
theorem dy_all {x : DpA} {y z : List Int} {res : SV} {hl' : Heap} (h : (dyTr x y z).val = some (res, hl')) : RDy (dyS 0 x y z) res hl' := by
 unfold dyTr at h;cases hy : zB y with
 | true =>
  rw [hy] at h;obtain ⟨rfl, rfl⟩ := Prod.mk.inj (val_ret (show (Tree.ret (dyE 4, [Blk.vals (dpC false 0 x)])).val = _ from h))
  have q := dy_2 0 x y z
  rw [show decide (val y = 0) = true from hy] at q
  exact Runs.last okQ6 mx q rfl (by rfl)
 | false =>
 cases hz : zB z with
 | true =>
  rw [hy, hz] at h;obtain ⟨rfl, rfl⟩ := Prod.mk.inj (val_ret (show (Tree.ret (dyE 4, [Blk.vals (dpC false 0 x)])).val = _ from h))
  have q := dy_3 0 x y z
  rw [show decide (val y = 0) = false from hy, show decide (val z = 0) = true from hz] at q
  exact Runs.last okQ6 mx q rfl (by rfl)
 | false =>
  rw [hy, hz] at h;obtain ⟨h1, h2⟩ := val_chk (show (Tree.chk (dlOk x z && decide (x.s.n1 = 2 /\ x.s.n2 = 2)) (.ret (dyV x y z x.b.toNat, [Blk.vals (dpC false 1 (dyX x y z))]))).val = _ from h)
  rw [Bool.and_eq_true] at h1;have o := dlOk_of h1.1
  have hb := o.b.2
  obtain ⟨rfl, rfl⟩ := Prod.mk.inj (val_ret h2);have q := dy_4 0 x y z
  rw [show decide (val y = 0) = false from hy, show decide (val z = 0) = false from hz, h1.1, h1.2, deT (show x.b.toNat <= x.b.toNat /\ x.b.toNat <= 1048576 by omega), show decide (val (dyI (mpL (dg0 x z) x.b.toNat) (mpL (dg3 x y) x.b.toNat) x.b.toNat) < ell /\ val (dyI (mpL (dg1 x) x.b.toNat) (mpL (dg2 x y z) x.b.toNat) x.b.toNat) < ell) = true from deT ⟨vlt _, vlt _⟩] at q
  exact Runs.last okQ6 mx q rfl (by rfl)
noncomputable def Tp14Poly (vs : List V1) (hl : Heap) : Tree (SV × Heap) :=
 match vs, hl with
 | [.c .nilp, .g [.ws .u64 4 _], .g [.ws .u64 4 _]], [] => .ret (dyE 1, [])
 | [.c (.ptr 0 0 0 0 0 0), .g [.ws .u64 4 y], .g [.ws .u64 4 z]], [.vals q] => match pDp q with
  | some (0, x) => dyTr x y z
  | some (ph, x) => Tree.chk (decide (ph ≠ 0)) (.ret (dyE 6, [.vals (dpC false ph x)]))
  | none => .fail
 | _, _ => .fail
theorem ok_p14Poly : EntryOk Tryz.prog G0 37 Tp14Poly := by
 refine EntryOk.unlitHRuns (S := Q6) (fn := Tryz.f37) (c := cd Tryz.f37) (by kernel_rfl) (by kernel_rfl) (by kernel_rfl) (fun vs hl res hl' ok okh h => ?_)
 unfold Tp14Poly at h;split at h
 ·rename_i y z;obtain ⟨rfl, rfl⟩ := Prod.mk.inj (val_ret h);exact Runs.last okQ6 mx (dy_0 y z) rfl (by rfl)
 ·rename_i y z q;split at h
  ·rename_i x e;rw [show List.map unlB [Blk.vals q] = [unlB (.vals q)] from rfl, pDp_eq e]
   exact dy_all h
  ·rename_i ph x _ e;obtain ⟨h1, h2⟩ := val_chk h;obtain ⟨rfl, rfl⟩ := Prod.mk.inj (val_ret h2);rw [show List.map unlB [Blk.vals q] = [unlB (.vals q)] from rfl, pDp_eq e]
   have q := dy_1 ph x y z
   rw [bneq (ofD h1)] at q;exact Runs.last okQ6 mx q rfl (by rfl)
  ·cases h
 ·cases h
noncomputable def Q7 : Tab := Q6.put 37 0 Tp14Poly
theorem okQ7 : SpecOk Tryz.prog Q7 := okQ6.put ok_p14Poly
end Go.Sc
