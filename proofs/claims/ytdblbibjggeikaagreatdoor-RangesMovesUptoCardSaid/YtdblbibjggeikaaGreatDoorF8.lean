/- The document's Whole: its pieces behind the first loop. -/
import Derived.Test.YtdblbibjggeikaaGreatDoorF7
set_option linter.unusedSectionVars false
set_option linter.unusedVariables false
set_option linter.unusedSimpArgs false
namespace Go.Sc
open Go Go.SX Go.Proofs
variable [Level] [Lone]
def ls0 : LsA := ⟨[], [], [], [], [], [], [], []⟩
noncomputable def dwK2 : List Item := leftT [false] (dwR dwK (dwW wh0 0 0 ls0 0))
def edE (k : List Int) : ED.den := ((2 : Int), ((z10, (z10, ())), ()), k, ([], 0), ())
noncomputable def dwX (w : WhA) (k : Nat) (L : LsA) (v : Cell) (bl : List Int) (h : Heap) (i : Int) : St :=
 ⟨slotsOf 237 (dwSl w ++ [(18, one (.sl 8 0 k)), (19, one (.sl 9 0 k)), (20, one (.sl 10 0 k)), (21, one (.sl 11 0 k)), (22, one (.sl 12 0 k)), (23, one (.sl 13 0 k)), (24, one (.sl 14 0 k)), (25, one (.sl 15 0 k)), (30, one v), (31, pt 16), (32, one (.int false .i64 i))]),
  dwHp w ++ [.arr WS L.al 0 [], .arr WS L.ar 0 [], .arr WS L.l0 0 [], .arr WS L.l1 0 [], .arr WS L.r0 0 [], .arr WS L.r1 0 [], .arr WS L.l 0 [], .arr WS L.r 0 [], .vals [.ws .u64 4 bl]] ++ h⟩
def kpX : List Nat := [2, 7, 8, 10, 11, 12, 13, 14, 15, 17, 18, 19, 20, 21, 22, 23, 24, 25, 30, 31, 32]
def wcom (w : WhA) (i : Nat) : List Int := limbs (comS w.s.B w.s.D [opV w.vs i, 0, 0, 0] (opB w.vs i) % ell)
def wzb (w : WhA) (i : Nat) : List Int := limbs (val (limbs (val w.z ^ (iw (2 + (i : Int))).toNat % ell)) * val (opB w.vs i) % ell)
def wbl (w : WhA) (bl : List Int) (i : Nat) : List Int := limbs ((val bl + val (wzb w i)) % ell)
def catE (V : List ED.den) (x : List Int) : List ED.den := V ++ ([edE x] : List ED.den)
section
variable (w : WhA) (n : Int) (k i m : Nat) (L : LsA) (bl : List Int) (V : List ED.den)
theorem dw_c : pieceT kpX [32] (List.range 17) [false] (dwR dwK (dwW w n k L i)) = some ([decide ((i : Int) < n)], dwK2, dwX w k L .nils zL [] (0 : Nat)) := by kernel_rfl
theorem dw_d0 : pieceT kpX [32] [0, 1, 2, 3, 4, 5, 6, 7, 8, 9, 10, 11, 12, 13, 14, 15, 16, 18] (List.replicate 8 true) (dwR dwK2 (dwX w k L .nils bl [] (0 : Nat))) =
  some ([decide (((0 : Nat) : Int) < w.c), decide (0 <= ((0 : Nat) : Int) /\ ((0 : Nat) : Int) < w.nv), decide (0 <= ((0 : Nat) : Int) /\ ((0 : Nat) : Int) < w.nv), decide (w.s.n1 = 2 /\ w.s.n2 = 2), true, decide (0 <= iw (2 + ((0 : Nat) : Int))), decide (0 <= ((0 : Nat) : Int) /\ ((0 : Nat) : Int) < w.nv), decide (val bl < ell /\ val (wzb w 0) < ell)], dwK2,
   dwX w k L (.sl 17 0 1) (wbl w bl 0) [.arr ED (catE [] (wcom w 0)) 0 []] (1 : Nat)) := by kernel_rfl
theorem dw_d : pieceT kpX [32] [0, 1, 2, 3, 4, 5, 6, 7, 8, 9, 10, 11, 12, 13, 14, 15, 16, 19] (List.replicate 8 true) (dwR dwK2 (dwX w k L (.sl 17 0 m) bl [.arr ED V 0 []] i)) =
  some ([decide ((i : Int) < w.c), decide (0 <= (i : Int) /\ (i : Int) < w.nv), decide (0 <= (i : Int) /\ (i : Int) < w.nv), decide (w.s.n1 = 2 /\ w.s.n2 = 2), decide (m = V.length) && (SX.room (m + 1) (Tryz.prog.bytesOf 48) && SX.room (m + 1) 1), decide (0 <= iw (2 + (i : Int))), decide (0 <= (i : Int) /\ (i : Int) < w.nv), decide (val bl < ell /\ val (wzb w i) < ell)], dwK2,
   dwX w k L (.sl 17 0 (m + 1)) (wbl w bl i) [.arr ED (catE V (wcom w i)) 0 []] (iw ((i : Int) + 1))) := by kernel_rfl
def dvF (v : Vw) (l r : Cell) : List FCell := eF true 2 z10 z10 v.A .nils ++ eF true 2 z10 z10 v.S .nils ++ eF true 2 z10 z10 v.T1 .nils ++ eF true 2 z10 z10 v.T2 .nils ++ [.ws .u64 4 v.Y, .ws .u64 4 v.Z, .ws .u64 4 v.X, .ws .u64 4 v.Tx, .ws .u64 4 v.Mu, .ws .u64 4 v.Th, .c l, .c r]
def wt1 (L : LsA) (k : Nat) : List Int := limbs ((val (limbs (inn L.l0 L.r1 k % ell)) + val (limbs (inn L.l1 L.r0 k % ell))) % ell)
def wtx (w : WhA) : List Int := limbs ((val (limbs (val w.t1 * val w.x % ell)) + val (limbs (val (limbs (val w.t2 * val w.x % ell)) * val w.x % ell))) % ell)
def wmu (w : WhA) : List Int := limbs ((val w.a + val (limbs (val w.r * val w.x % ell))) % ell)
def wVw (w : WhA) (L : LsA) (k : Nat) (bl : List Int) : Vw :=
 ⟨limbs (vecD w.s w.a L.al L.ar k % ell), limbs (vecD w.s w.r w.sl w.sr w.nl % ell), limbs (comS w.s.B w.s.D (wt1 L k) w.t1 % ell), limbs (comS w.s.B w.s.D (limbs (inn L.l1 L.r1 k % ell)) w.t2 % ell), w.y, w.z, w.x, limbs ((val (wtx w) + val bl) % ell), wmu w, limbs (inn L.l L.r k % ell)⟩
def drp (L : LsA) : LsA := ⟨L.al.drop 0, L.ar.drop 0, L.l0.drop 0, L.l1.drop 0, L.r0.drop 0, L.r1.drop 0, L.l.drop 0, L.r.drop 0⟩
theorem dw_e : endT Tryz.prog Tryz.f17 [17, 14, 15] (false :: List.replicate 12 true) (dwR dwK2 (dwX w k L (.sl 17 0 m) bl [.arr ED V 0 []] i)) =
  some ([decide ((i : Int) < w.c), decide (k <= k /\ k <= 1048576), decide (k <= k /\ k <= 1048576), decide (val (limbs (inn (drp L).l0 (drp L).r1 k % ell)) < ell /\ val (limbs (inn (drp L).l1 (drp L).r0 k % ell)) < ell), decide (k <= k /\ k <= 1048576), decide (k <= k /\ k <= 1048576),
   decide (w.s.n2 = 2 /\ k <= 1048576 /\ k <= k /\ k <= w.s.ng /\ k <= w.s.nh) && kindsB w.s k, decide (w.s.n2 = 2 /\ w.nl <= 1048576 /\ w.nl <= w.nr /\ w.nl <= w.s.ng /\ w.nl <= w.s.nh) && kindsB w.s w.nl, decide (w.s.n1 = 2 /\ w.s.n2 = 2), decide (w.s.n1 = 2 /\ w.s.n2 = 2),
   decide (val (limbs (val w.t1 * val w.x % ell)) < ell /\ val (limbs (val (limbs (val w.t2 * val w.x % ell)) * val w.x % ell)) < ell), decide (val (wtx w) < ell /\ val bl < ell), decide (val w.a < ell /\ val (limbs (val w.r * val w.x % ell)) < ell)],
   .tup [.c (.sl 0 0 m), .g (dvF (wVw w (drp L) k bl) (.sl 1 0 k) (.sl 2 0 k))], [.arr ED V 0 [], .arr WS L.l 0 [], .arr WS L.r 0 []]) := by kernel_rfl
end
theorem rawBt_le (vs : OpT) (b i : Int) : 0 <= rawBt vs b i /\ rawBt vs b i <= 1 := by
 unfold rawBt;rw [wrapU, BitVec.toNat_and];have h := Nat.and_le_right (n := (BitVec.ofInt 64 ((opV vs (iw (i.tdiv b)).toNat).fdiv (2 ^ (min (i.tmod b).toNat 64)))).toNat) (m := (BitVec.ofInt 64 1).toNat)
 rw [show (BitVec.ofInt 64 1).toNat = 1 from rfl] at h ⊢
 omega
theorem val_one (x : Int) : val [x, 0, 0, 0] = x := by rw [val4]; omega
theorem waE_lt (w : WhA) (i : Nat) : val (waE w i) < ell := by
 have := rawBt_le w.vs w.b i
 unfold waE;rw [val_one];unfold ell;omega
theorem vlt (x : Int) : val (limbs (x % ell)) < ell := by rw [val_mod]; exact (mod_bound x).2
structure WhOk (w : WhA) : Prop where
 al : alw w.b w.c = true
 nv : (w.nv : Int) = w.c
 nl : (w.nl : Int) = w.b * w.c
 nr : (w.nr : Int) = w.b * w.c
 z : val w.z < ell
 a : val w.a < ell
 n1 : w.s.n1 = 2
 n2 : w.s.n2 = 2
 ng : w.nl <= w.s.ng
 nh : w.nl <= w.s.nh
 kd : kindsB w.s w.nl = true
def whB (w : WhA) : Bool := alw w.b w.c && (decide ((w.nv : Int) = w.c /\ (w.nl : Int) = w.b * w.c /\ (w.nr : Int) = w.b * w.c /\ val w.z < ell /\ val w.a < ell /\ w.s.n1 = 2 /\ w.s.n2 = 2 /\ w.nl <= w.s.ng /\ w.nl <= w.s.nh) && kindsB w.s w.nl)
theorem whOk_of {w : WhA} (h : whB w = true) : WhOk w := by
 unfold whB at h;rw [Bool.and_eq_true, Bool.and_eq_true, decide_eq_true_eq] at h;obtain ⟨h1, ⟨h2, h3, h4, h5, h6, h7, h8, h9, h10⟩, h11⟩ := h;exact ⟨h1, h2, h3, h4, h5, h6, h7, h8, h9, h10, h11⟩
def wlE (w : WhA) (i : Nat) : List Int := wmE w (wl0 w i) (wl1 w i)
def wrE (w : WhA) (i : Nat) : List Int := wmE w (wr0 w i) (wr1 w i)
def mpL (f : Nat -> List Int) (k : Nat) : List (List Int) := (List.range k).map f
theorem mpL_len (f : Nat -> List Int) (k : Nat) : (mpL f k).length = k := map_range_len f k
theorem mpL_next (f : Nat -> List Int) (k : Nat) : mpL f k ++ [f k] = mpL f (k + 1) := map_range_snoc f k
theorem mpL_last (f : Nat -> List Int) (k : Nat) : (mpL f (k + 1)).getD (0 + k) zL = f k := by rw [Nat.zero_add]; exact map_range_getD f (k + 1) k zL (Nat.lt_succ_self k)
def whL (w : WhA) (k : Nat) : LsA := ⟨mpL (waE w) k, mpL (wbE w) k, mpL (wl0 w) k, mpL (wl1 w) k, mpL (wr0 w) k, mpL (wr1 w) k, mpL (wlE w) k, mpL (wrE w) k⟩
def wbls (w : WhA) : Nat -> List Int
 | 0 => zL
 | i + 1 => wbl w (wbls w i) i
theorem wbls_lt (w : WhA) : ∀ i, val (wbls w i) < ell
 | 0 => by show val zL < ell; decide
 | i + 1 => vlt _
def whV (w : WhA) (k : Nat) : List ED.den := (List.range k).map fun i => edE (wcom w i)
theorem whV_next (w : WhA) (k : Nat) : catE (whV w k) (wcom w k) = whV w (k + 1) := map_range_snoc (α := ED.den) (fun i => edE (wcom w i)) k
theorem whV_len (w : WhA) (k : Nat) : (whV w k).length = k := map_range_len (α := ED.den) (fun i => edE (wcom w i)) k
def whVw (w : WhA) : Vw := wVw w (whL w w.nl) w.nl (wbls w w.nv)
def whRes (w : WhA) : SV := .tup [.c (.sl 0 0 w.nv), .g (dvF (whVw w) (.sl 1 0 w.nl) (.sl 2 0 w.nl))]
def whHeap (w : WhA) : Heap := [.arr ED (whV w w.nv) 0 [], .arr WS (mpL (wlE w) w.nl) 0 [], .arr WS (mpL (wrE w) w.nl) 0 []]
abbrev RW (k : List Item) (s : St) (v : SV) (h : Heap) : Prop := Runs Tryz.prog M6 Tryz.f17 0 k s v h
theorem eroom {n : Nat} (h : n <= 1048576) : (SX.room n (Tryz.prog.bytesOf 48) && SX.room n 1) = true := by
 rw [show Tryz.prog.bytesOf 48 = 224 from by kernel_rfl, room_ok (by omega), room_ok (by omega)]; rfl
theorem dwC_ok {w : WhA} (ho : WhOk w) {k : Nat} (hk : k < w.nl) : dwC w (w.nl : Nat) k k (whL w k) = List.replicate 25 true /\ (k = 0 -> dwC0 w (w.nl : Nat) = List.replicate 25 true) := by
 obtain ⟨m1, m2, m3⟩ := alw_mul ho.al;obtain ⟨⟨b1, b2⟩, c1, c2⟩ := alw_of ho.al;have e3 := ho.nv
 have e4 := ho.nl
 have e5 := ho.nr
 have hq0 : 0 <= (k : Int).tdiv w.b := Int.tdiv_nonneg (by omega) (by omega)
 have hq1 : (k : Int).tdiv w.b < w.nv := by
  rw [e3, Int.tdiv_eq_ediv_of_nonneg (by omega)]
  exact Int.ediv_lt_of_lt_mul (by omega) (by rw [Int.mul_comm]; omega)
 have hq2 : iw ((k : Int).tdiv w.b) = (k : Int).tdiv w.b := by
  unfold iw;rw [IntKind.wrap_i64];omega
 have hr0 : 0 <= (k : Int).tmod w.b := Int.tmod_nonneg _ (by omega)
 have hbit : bitC w.b k w.nv = true := by
  unfold bitC;rw [hq2, decide_eq_true (show w.b ≠ 0 by omega), decide_eq_true (show 0 <= (k : Int).tdiv w.b /\ (k : Int).tdiv w.b < w.nv from ⟨hq0, hq1⟩), decide_eq_true hr0]; rfl
 have hwg : (decide (w.b ≠ 0) && decide (0 <= wgN w.b k)) = true := by
  have : 0 <= wgN w.b k := by
   unfold wgN;rw [hq2];unfold iw;rw [IntKind.wrap_i64];omega
  rw [decide_eq_true (show w.b ≠ 0 by omega), decide_eq_true this]; rfl
 have hpw : (decide (w.b ≠ 0) && decide (0 <= (k : Int).tmod w.b)) = true := by
  rw [decide_eq_true (show w.b ≠ 0 by omega), decide_eq_true hr0]; rfl
 have hone : val one4 < ell := by decide
 have hca : ∀ f : Nat -> List Int, dwCa k (mpL f k) = true := fun f => by
  unfold dwCa;rw [decide_eq_true (mpL_len f k).symm, roomWk (by omega)]; rfl
 have h1 : val (waE w k) < ell /\ val one4 < ell := ⟨waE_lt w k, hone⟩
 have h2 : val (waE w k) < ell /\ val w.z < ell := ⟨waE_lt w k, ho.z⟩
 have h3 : val (wbE w k) < ell /\ val w.z < ell := ⟨vlt _, ho.z⟩
 have h4 : val (wp1 w k) < ell /\ val (wp2 w k) < ell := ⟨vlt _, vlt _⟩
 have h5 : wcE w (wl0 w k) (wl1 w k) = true := decide_eq_true ⟨vlt _, vlt _⟩
 have h6 : wcE w (wr0 w k) (wr1 w k) = true := decide_eq_true ⟨vlt _, vlt _⟩
 have i1 : (k : Int) < (w.nl : Nat) := by omega
 have i2 : 0 <= (k : Int) /\ (k : Int) < w.nl := by omega
 have i3 : 0 <= (k : Int) /\ (k : Int) < w.nr := by omega
 have i4 : 0 <= (k : Int) /\ (k : Int) < ((k + 1 : Nat) : Int) := by omega
 have i5 : 0 <= (k : Int) := by omega
 constructor
 ·unfold dwC whL;simp only
  rw [mpL_next, mpL_next, mpL_next, mpL_next, mpL_last, mpL_last, mpL_last, mpL_last, hca, hca, hca, hca, hca, hca, hca, hca, hbit, hwg, hpw, h5, h6, decide_eq_true h1, decide_eq_true h2, decide_eq_true h3, decide_eq_true h4, decide_eq_true i1, decide_eq_true i2, decide_eq_true i3, decide_eq_true i4, decide_eq_true i5];rfl
 ·rintro rfl
  unfold dwC0;rw [hbit, hwg, hpw, h5, h6, decide_eq_true h1, decide_eq_true h2, decide_eq_true h3, decide_eq_true h4, decide_eq_true i1, decide_eq_true i2, decide_eq_true i3, decide_eq_true i5];rfl
theorem whL_next (w : WhA) (k : Nat) : (⟨(whL w k).al ++ [waE w k], (whL w k).ar ++ [wbE w k], (whL w k).l0 ++ [wl0 w k], (whL w k).l1 ++ [wl1 w k], (whL w k).r0 ++ [wr0 w k], (whL w k).r1 ++ [wr1 w k], (whL w k).l ++ [wmE w (((whL w k).l0 ++ [wl0 w k]).getD (0 + k) zL) (((whL w k).l1 ++ [wl1 w k]).getD (0 + k) zL)],
  (whL w k).r ++ [wmE w (((whL w k).r0 ++ [wr0 w k]).getD (0 + k) zL) (((whL w k).r1 ++ [wr1 w k]).getD (0 + k) zL)]⟩ : LsA) = whL w (k + 1) := by
 unfold whL;simp only
 rw [mpL_next, mpL_next, mpL_next, mpL_next, mpL_next, mpL_next, mpL_last, mpL_last, mpL_last, mpL_last, show wmE w (wl0 w k) (wl1 w k) = wlE w k from rfl, show wmE w (wr0 w k) (wr1 w k) = wrE w k from rfl, mpL_next, mpL_next]
theorem wh_runs {w : WhA} (ho : WhOk w) : RW [.code (cd Tryz.f17)] (dwS w) (whRes w) (whHeap w) := by
 obtain ⟨m1, m2, m3⟩ := alw_mul ho.al;obtain ⟨⟨b1, b2⟩, c1, c2⟩ := alw_of ho.al;have e3 := ho.nv
 have e4 := ho.nl
 have e5 := ho.nr
 have hng := ho.ng
 have hnh := ho.nh
 have h := dw_a w
 rw [m3, <- e4] at h;refine Runs.piece okM6 mx h rfl (by rfl) ?_
 have h := dw_b0 w (w.nl : Nat)
 rw [(dwC_ok ho (show 0 < w.nl by omega)).2 rfl] at h
 refine Runs.piece okM6 mx h rfl (by rfl) ?_
 refine loopG (st := fun k (a : LsA) => dwW w (w.nl : Nat) k a k) (I := fun k a => a = whL w k) (n := w.nl) (fun k a hk hI => ?_) (fun a hI => ?_) (w.nl - 1) 1 _ (by omega) rfl
 ·subst hI;have h := dw_b w (w.nl : Nat) k k (whL w k)
  rw [(dwC_ok ho hk).1, whL_next, iwk (by omega)] at h
  exact ⟨_, rfl, fun hr => Runs.piece okM6 mx h rfl (by rfl) hr⟩
 subst hI;have h := dw_c w (w.nl : Nat) w.nl w.nl (whL w w.nl)
 rw [decide_eq_false (by omega)] at h
 refine Runs.piece okM6 mx h rfl (by rfl) ?_
 have hn12 : w.s.n1 = 2 /\ w.s.n2 = 2 := ⟨ho.n1, ho.n2⟩
 have hz2 : ∀ i : Nat, i < w.nv -> decide (0 <= iw (2 + (i : Int))) = true := fun i hi => decide_eq_true (by unfold iw; rw [IntKind.wrap_i64]; omega)
 have h := dw_d0 w w.nl (whL w w.nl) (wbls w 0)
 rw [hz2 0 (by omega), decide_eq_true (show ((0 : Nat) : Int) < w.c by omega), decide_eq_true (show 0 <= ((0 : Nat) : Int) /\ ((0 : Nat) : Int) < w.nv by omega), decide_eq_true hn12, decide_eq_true (show val (wbls w 0) < ell /\ val (wzb w 0) < ell from ⟨wbls_lt w 0, vlt _⟩)] at h
 refine Runs.piece okM6 mx h rfl (by rfl) ?_
 refine loopG (st := fun i (a : List ED.den × List Int) => dwX w w.nl (whL w w.nl) (.sl 17 0 i) a.2 [.arr ED a.1 0 []] i) (I := fun i a => a = (whV w i, wbls w i)) (n := w.nv) (fun i a hi hI => ?_) (fun a hI => ?_) (w.nv - 1) 1 (catE [] (wcom w 0), wbl w (wbls w 0) 0) (by omega) rfl
 ·subst hI;have h := dw_d w w.nl i i (whL w w.nl) (wbls w i) (whV w i)
  rw [hz2 i hi, decide_eq_true (show (i : Int) < w.c by omega), decide_eq_true (show 0 <= (i : Int) /\ (i : Int) < w.nv by omega), decide_eq_true hn12, decide_eq_true (whV_len w i).symm, eroom (by omega), decide_eq_true (show val (wbls w i) < ell /\ val (wzb w i) < ell from ⟨wbls_lt w i, vlt _⟩), iwk (by omega), whV_next] at h
  exact ⟨(whV w (i + 1), wbls w (i + 1)), rfl, fun hr => Runs.piece okM6 mx h rfl (by rfl) hr⟩
 subst hI;have h := dw_e w w.nl w.nv w.nv (whL w w.nl) (wbls w w.nv) (whV w w.nv)
 rw [show drp (whL w w.nl) = whL w w.nl from rfl, decide_eq_false (show ¬ (w.nv : Int) < w.c by omega), decide_eq_true (show w.nl <= w.nl /\ w.nl <= 1048576 by omega), decide_eq_true (show val (limbs (inn (whL w w.nl).l0 (whL w w.nl).r1 w.nl % ell)) < ell /\ val (limbs (inn (whL w w.nl).l1 (whL w w.nl).r0 w.nl % ell)) < ell from ⟨vlt _, vlt _⟩),
  decide_eq_true (show w.s.n2 = 2 /\ w.nl <= 1048576 /\ w.nl <= w.nl /\ w.nl <= w.s.ng /\ w.nl <= w.s.nh from ⟨ho.n2, by omega, by omega, hng, hnh⟩), decide_eq_true (show w.s.n2 = 2 /\ w.nl <= 1048576 /\ w.nl <= w.nr /\ w.nl <= w.s.ng /\ w.nl <= w.s.nh from ⟨ho.n2, by omega, by omega, hng, hnh⟩), ho.kd, decide_eq_true hn12,
  decide_eq_true (show val (limbs (val w.t1 * val w.x % ell)) < ell /\ val (limbs (val (limbs (val w.t2 * val w.x % ell)) * val w.x % ell)) < ell from ⟨vlt _, vlt _⟩), decide_eq_true (show val (wtx w) < ell /\ val (wbls w w.nv) < ell from ⟨vlt _, wbls_lt w _⟩), decide_eq_true (show val w.a < ell /\ val (limbs (val w.r * val w.x % ell)) < ell from ⟨ho.a, vlt _⟩)] at h
 exact Runs.last okM6 mx h rfl (by rfl)
end Go.Sc
