/- The program's powers of a scalar. -/
import Derived.Test.YtdblbibjggeikaaGreatDoorF3
set_option linter.unusedSectionVars false
set_option linter.unusedVariables false
set_option linter.unusedSimpArgs false
namespace Go.Sc
open Go Go.SX Go.Proofs
variable [Level] [Lone]
def Rm : Int := 115792089237316195423570985008687907853269984665640564039457584007913129639936
theorem mod3 (a b c : Int) : a % ell * (b % ell) * c % ell = a * b * c % ell := by
 rw [Int.mul_emod, <- Int.mul_emod a b, <- Int.mul_emod]
theorem redc_m (a b : Int) : redc (a * Rm % ell) (b * Rm % ell) = a * b * Rm % ell := by
 unfold redc;rw [mod3];have h : Rm * (a * b * Rm) * rinv = a * b * Rm + ell * (71336056475231800826343715077027849978041630819377026201054086228062141447707 * (a * b * Rm)) := rinv_mul
 rw [show a * Rm * (b * Rm) = Rm * (a * b * Rm) from by ac_rfl, h, Int.add_mul_emod_self_left]
theorem redc_1 (y : Int) : redc (y * Rm % ell) 1 = y % ell := by
 unfold redc;have h : Rm * y * rinv = y + ell * (71336056475231800826343715077027849978041630819377026201054086228062141447707 * y) := rinv_mul
 rw [Int.mul_one, emod_mul, Int.mul_comm y Rm, h, Int.add_mul_emod_self_left]
theorem redc_b (k : Int) : redc (k % ell) 1627715501170711445284395025044413883736156588369414752970002579683115011841 = k * Rm % ell := by
 rw [redc_r2];exact emod_mul k Rm
theorem tab1_eq : tab1 = limbs (1 * Rm % ell) := by decide
noncomputable def spR (k : List Item) (s : St) : Tree Out := runK L18 Tryz.prog noLoops 400 k s
noncomputable def spS (xs : List Int) (e : Int) : St := ⟨enterT Tryz.f133 [ws xs, ws [e, 0, 0, 0], .c (.int false .i64 64)], []⟩
noncomputable def spK : List Item := leftT [true] (spR [.code (cd Tryz.f133)] (spS [] 0))
noncomputable def spT (e : Int) (m r : List Int) (b : Bool) (i : Int) : St :=
 ⟨slotsOf 43 [(4, pt 0), (6, pt 1), (7, pt 2), (8, pt 3), (9, one (.bool false b)), (10, one (.int false .i64 i))], [.vals [.ws .u64 4 [e, 0, 0, 0]], .vals [.ws .u64 4 zL], .vals [.ws .u64 4 m], .vals [.ws .u64 4 r]]⟩
def spM (xs : List Int) : List Int := limbs (redc (val (limbs (val xs % ell))) (val tab2))
theorem sp_a (xs : List Int) (e : Int) : pieceT [4, 6, 7, 8, 9, 10] [9, 10] [1, 2, 3, 4] [true] (spR [.code (cd Tryz.f133)] (spS xs e)) =
  some ([decide (val (limbs (val xs % ell)) < ell)], spK, spT e (spM xs) tab1 false 63) := by kernel_rfl
section
variable (e i : Int) (m r : List Int) (b : Bool)
def spX (e i : Int) : Bool := band (Int.fdiv ([e, 0, 0, 0].getD (iw (i.tdiv 64)).toNat 0) (2 ^ (min (i.tmod 64).toNat 64))) 1 == 1
noncomputable def spB (i : Int) : Bool := decide (0 <= iw (i.tdiv 64) /\ iw (i.tdiv 64) < (4 : Nat))
def sq1 (r : List Int) : List Int := limbs (redc (val r) (val r))
theorem sp_tt : pieceT [4, 6, 7, 8, 9, 10] [9, 10] [0, 1, 2, 3] [true, true, true, true, true, true, true] (spR spK (spT e m r b i)) =
  some ([decide (i >= 0), b, decide (val r < ell), spB i, decide (0 <= i.tmod 64), spX e i, decide (val (sq1 r) < ell)], spK, spT e m (limbs (redc (val (sq1 r)) (val m))) true (iw (i - 1))) := by kernel_rfl
theorem sp_tf : pieceT [4, 6, 7, 8, 9, 10] [9, 10] [0, 1, 2, 3] [true, true, true, true, true, false] (spR spK (spT e m r b i)) =
  some ([decide (i >= 0), b, decide (val r < ell), spB i, decide (0 <= i.tmod 64), spX e i], spK, spT e m (sq1 r) b (iw (i - 1))) := by kernel_rfl
theorem sp_ft : pieceT [4, 6, 7, 8, 9, 10] [9, 10] [0, 1, 2, 3] [true, false, true, true, true, true] (spR spK (spT e m r b i)) =
  some ([decide (i >= 0), b, spB i, decide (0 <= i.tmod 64), spX e i, decide (val r < ell)], spK, spT e m (limbs (redc (val r) (val m))) true (iw (i - 1))) := by kernel_rfl
theorem sp_ff : pieceT [4, 6, 7, 8, 9, 10] [9, 10] [0, 1, 2, 3] [true, false, true, true, false] (spR spK (spT e m r b i)) =
  some ([decide (i >= 0), b, spB i, decide (0 <= i.tmod 64), spX e i], spK, spT e m r b (iw (i - 1))) := by kernel_rfl
theorem sp_e : endT Tryz.prog Tryz.f133 [] [false, true] (spR spK (spT e m r b i)) = some ([decide (i >= 0), decide (val r < ell)], .one (ws (limbs (redc (val r) (val [1, 0, 0, 0])))), []) := by kernel_rfl
end
theorem val_pw (x : Int) : val (limbs (x % ell)) = x % ell := val_mod x
theorem sp_runs {xs : List Int} {E : Nat} (hE : E < 18446744073709551616) : Runs Tryz.prog L18 Tryz.f133 0 [.code (cd Tryz.f133)] (spS xs (E : Int)) (.one (ws (limbs (val xs ^ E % ell)))) [] := by
 have h := sp_a xs E
 rw [val_mod, deT (mod_bound _).2] at h;refine Runs.piece okL18 mx h rfl (by rfl) ?_
 have hm : val (spM xs) = val xs * Rm % ell := by
  unfold spM;rw [val_mod, (redc_bound _ _).1, val_tab2, redc_b]
 refine loopG (st := fun k (a : List Int × Bool) => spT E (spM xs) a.1 a.2 (63 - (k : Int))) (I := fun k a => a = (limbs (val xs ^ (E / 2 ^ (64 - k)) * Rm % ell), decide (E / 2 ^ (64 - k) ≠ 0))) (n := 64) (fun k a hk hI => ?_) (fun a hI => ?_) 64 0 (tab1, false) rfl ?_
 ·subst hI;have i1 : iw ((63 - (k : Int)).tdiv 64) = 0 := by
   rw [Int.tdiv_eq_ediv_of_nonneg (by omega), show (63 - (k : Int)) / 64 = 0 by omega]
   rfl
  have i2 : (63 - (k : Int)).tmod 64 = 63 - (k : Int) := by rw [Int.tmod_eq_emod_of_nonneg (by omega)]; omega
  have hB : spB (63 - (k : Int)) = true := by
   unfold spB;rw [i1]; rfl
  have hp : (2 : Int) ^ min (63 - k) 64 = ((2 ^ (63 - k) : Nat) : Int) := by rw [Nat.min_eq_left (by omega)]; simp
  have hq : Int.fdiv (E : Int) ((2 ^ (63 - k) : Nat) : Int) = ((E / 2 ^ (63 - k) : Nat) : Int) := by rw [fdiv_pos]; rfl
  have hle : E / 2 ^ (63 - k) <= E := Nat.div_le_self _ _
  have hR : R ((E / 2 ^ (63 - k) : Nat) : Int) := ⟨Int.natCast_nonneg _, by omega⟩
  have hb : band ((E / 2 ^ (63 - k) : Nat) : Int) 1 = ((E / 2 ^ (63 - k) : Nat) : Int) % 2 := band_mask hR 1 (by decide)
  have hX : spX E (63 - (k : Int)) = decide (E / 2 ^ (63 - k) % 2 = 1) := by
   unfold spX;rw [i1, i2, show (63 - (k : Int)).toNat = 63 - k by omega, hp]
   show (band (Int.fdiv (E : Int) ((2 ^ (63 - k) : Nat) : Int)) 1 == 1) = _
   rw [hq, hb];by_cases h1 : E / 2 ^ (63 - k) % 2 = 1
   ·rw [deT h1, show ((E / 2 ^ (63 - k) : Nat) : Int) % 2 = 1 by omega]; rfl
   ·rw [deF h1, show ((E / 2 ^ (63 - k) : Nat) : Int) % 2 = 0 by omega]; rfl
  have hh := half_step E (63 - k)
  rw [show 63 - k + 1 = 64 - k from by omega] at hh
  have hw : iw (63 - (k : Int) - 1) = 63 - ((k + 1 : Nat) : Int) := by unfold iw; rw [wrap64 (by omega)]; omega
  have hs : val (sq1 (limbs (val xs ^ (E / 2 ^ (64 - k)) * Rm % ell))) = val xs ^ (E / 2 ^ (64 - k)) * val xs ^ (E / 2 ^ (64 - k)) * Rm % ell := by
   unfold sq1;rw [(redc_bound _ _).1, val_mod, redc_m]
  have hsl : sq1 (limbs (val xs ^ (E / 2 ^ (64 - k)) * Rm % ell)) = limbs (val xs ^ (E / 2 ^ (64 - k)) * val xs ^ (E / 2 ^ (64 - k)) * Rm % ell) := by
   unfold sq1;rw [val_mod, redc_m]
  have hk1 : 64 - (k + 1) = 63 - k := by omega
  have i3 : decide (63 - (k : Int) >= 0) = true := deT (by omega)
  have i4 : decide (0 <= (63 - (k : Int)).tmod 64) = true := deT (by omega)
  have hv := val_pw (val xs ^ (E / 2 ^ (64 - k)) * Rm)
  have hlt : val (limbs (val xs ^ (E / 2 ^ (64 - k)) * Rm % ell)) < ell := by rw [hv]; exact (mod_bound _).2
  by_cases hbit : E / 2 ^ (63 - k) % 2 = 1
  ·have hne : E / 2 ^ (63 - k) ≠ 0 := by omega
   by_cases h0 : E / 2 ^ (64 - k) ≠ 0
   ·have h := sp_tt E (63 - (k : Int)) (spM xs) (limbs (val xs ^ (E / 2 ^ (64 - k)) * Rm % ell)) (decide (E / 2 ^ (64 - k) ≠ 0))
    rw [i3, i4, hB, hX, deT hbit, deT hlt, hs, hm, redc_m, deT (mod_bound _).2, deT h0, hw] at h;refine ⟨(limbs (val xs ^ (E / 2 ^ (64 - k)) * val xs ^ (E / 2 ^ (64 - k)) * val xs * Rm % ell), true), ?_, fun hr => ?_⟩
    rotate_left
    ·show Runs Tryz.prog L18 Tryz.f133 0 spK (spT E (spM xs) (limbs (val xs ^ (E / 2 ^ (64 - k)) * Rm % ell)) (decide (E / 2 ^ (64 - k) ≠ 0)) (63 - (k : Int))) _ _
     rw [deT h0];exact Runs.piece okL18 mx h rfl (by rfl) hr
    rw [hk1, deT hne, hh, hbit, pow_dbl, Int.pow_one]
   ·have h := sp_ft E (63 - (k : Int)) (spM xs) (limbs (val xs ^ (E / 2 ^ (64 - k)) * Rm % ell)) (decide (E / 2 ^ (64 - k) ≠ 0))
    have h00 : E / 2 ^ (64 - k) = 0 := by omega
    rw [i3, i4, hB, hX, deT hbit, deT hlt, hv, hm, redc_m, deF h0, hw] at h;refine ⟨(limbs (val xs ^ (E / 2 ^ (64 - k)) * val xs * Rm % ell), true), ?_, fun hr => ?_⟩
    rotate_left
    ·show Runs Tryz.prog L18 Tryz.f133 0 spK (spT E (spM xs) (limbs (val xs ^ (E / 2 ^ (64 - k)) * Rm % ell)) (decide (E / 2 ^ (64 - k) ≠ 0)) (63 - (k : Int))) _ _
     rw [deF h0];exact Runs.piece okL18 mx h rfl (by rfl) hr
    rw [hk1, deT hne, hh, hbit, h00, Int.pow_zero, Nat.mul_zero, Nat.zero_add, Int.pow_one, Int.one_mul]
  ·have hb0 : E / 2 ^ (63 - k) % 2 = 0 := by omega
   by_cases h0 : E / 2 ^ (64 - k) ≠ 0
   ·have hne : E / 2 ^ (63 - k) ≠ 0 := by omega
    have h := sp_tf E (63 - (k : Int)) (spM xs) (limbs (val xs ^ (E / 2 ^ (64 - k)) * Rm % ell)) (decide (E / 2 ^ (64 - k) ≠ 0))
    rw [i3, i4, hB, hX, deF hbit, deT hlt, hsl, deT h0, hw] at h;refine ⟨(limbs (val xs ^ (E / 2 ^ (64 - k)) * val xs ^ (E / 2 ^ (64 - k)) * Rm % ell), true), ?_, fun hr => ?_⟩
    rotate_left
    ·show Runs Tryz.prog L18 Tryz.f133 0 spK (spT E (spM xs) (limbs (val xs ^ (E / 2 ^ (64 - k)) * Rm % ell)) (decide (E / 2 ^ (64 - k) ≠ 0)) (63 - (k : Int))) _ _
     rw [deT h0];exact Runs.piece okL18 mx h rfl (by rfl) hr
    rw [hk1, deT hne, hh, hb0, pow_dbl, Int.pow_zero, Int.mul_one]
   ·have h00 : E / 2 ^ (64 - k) = 0 := by omega
    have hne : ¬ E / 2 ^ (63 - k) ≠ 0 := by omega
    have h := sp_ff E (63 - (k : Int)) (spM xs) (limbs (val xs ^ (E / 2 ^ (64 - k)) * Rm % ell)) (decide (E / 2 ^ (64 - k) ≠ 0))
    rw [i3, i4, hB, hX, deF hbit, deF h0, hw] at h;refine ⟨(limbs (val xs ^ (E / 2 ^ (64 - k)) * Rm % ell), false), ?_, fun hr => ?_⟩
    rotate_left
    ·show Runs Tryz.prog L18 Tryz.f133 0 spK (spT E (spM xs) (limbs (val xs ^ (E / 2 ^ (64 - k)) * Rm % ell)) (decide (E / 2 ^ (64 - k) ≠ 0)) (63 - (k : Int))) _ _
     rw [deF h0];exact Runs.piece okL18 mx h rfl (by rfl) hr
    rw [hk1, deF hne, hh, hb0, h00]
 ·subst hI;have h := sp_e E (63 - ((64 : Nat) : Int)) (spM xs) (limbs (val xs ^ (E / 2 ^ (64 - 64)) * Rm % ell)) (decide (E / 2 ^ (64 - 64) ≠ 0))
  rw [show val [1, 0, 0, 0] = 1 from rfl, val_pw, redc_1, deT (mod_bound _).2, Nat.sub_self, Nat.pow_zero, Nat.div_one] at h
  rw [Nat.sub_self, Nat.pow_zero, Nat.div_one];exact Runs.last okL18 mx h rfl (by rfl)
 ·rw [Nat.sub_zero, Nat.div_eq_of_lt hE, Int.pow_zero, tab1_eq]; rfl
def TsPow (vs : List V1) (hl : Heap) : Tree (SV × Heap) :=
 match vs, hl with
 | [.g [.ws .u64 4 xs], .g [.ws .u64 4 [e, 0, 0, 0]], .c (.int _ .i64 64)], [] => Tree.chk (decide (0 <= e /\ e < 18446744073709551616)) (.ret (.one (ws (limbs (val xs ^ e.toNat % ell))), []))
 | _, _ => .fail
theorem ok_sPow_ : EntryOk Tryz.prog G0 133 TsPow := by
 refine EntryOk.unlitRuns (S := L18) (fn := Tryz.f133) (c := cd Tryz.f133) (by kernel_rfl) (by kernel_rfl) (by kernel_rfl) (fun vs hl res hl' ok h => ?_)
 unfold TsPow at h;split at h
 ·rename_i xs e l;obtain ⟨h1, h2⟩ := val_chk h;obtain ⟨q1, q2⟩ := ofD h1;obtain ⟨rfl, rfl⟩ := Prod.mk.inj (val_ret h2);obtain ⟨E, rfl⟩ := Int.eq_ofNat_of_zero_le q1;exact sp_runs (xs := xs) (E := E) (by omega)
 ·cases h
noncomputable def PT1 : Tab := L18.put 133 0 TsPow
theorem okPT1 : SpecOk Tryz.prog PT1 := okL18.put ok_sPow_
theorem spw_a (xs : List Int) (e : Int) : (bodyT PT1 Tryz.prog allLoops Tryz.f91 (cd Tryz.f91) [ws xs, .c (.int false .u64 e)] []).path [true] = some ([decide (0 <= e /\ e < 18446744073709551616)], .one (ws (limbs (val xs ^ e.toNat % ell))), []) := by kernel_rfl
theorem ok_SPower : EntryOk Tryz.prog G0 91 TPow := by
 refine (EntryOk.sub (bodyT_ok okPT1 mx (un := allLoops) (fn := Tryz.f91) (c := cd Tryz.f91) (by kernel_rfl) (by kernel_rfl) (by kernel_rfl)).unlitG) (fun vs hl r ok h => ?_)
 unfold TPow at h;split at h
 ·rename_i xs l e;obtain rfl := val_ret h;have q := spw_a xs e
  obtain ⟨E, rfl, hE⟩ := nat_of (inU.mp ok.2.1);rw [deT (show 0 <= (E : Int) /\ (E : Int) < 18446744073709551616 by omega)] at q
  exact Tree.path_val q
 ·cases h
noncomputable def PT2 : Tab := PT1.put 91 0 TPow
theorem okPT2 : SpecOk Tryz.prog PT2 := okPT1.put ok_SPower
def enoG (ng nh : Nat) (b c : Int) : Bool := decide ((ng : Int) >= iw (b * c)) && decide ((nh : Int) >= iw (b * c))
def Tpenough (vs : List V1) (hl : Heap) : Tree (SV × Heap) :=
 match vs, hl with
 | [.g [.ws .u64 4 _, .ws .u64 4 _, .ws .u64 4 _, .c (.ro (.pair (.ws .u64 4) .unit) _ ng), .c (.ro (.pair (.ws .u64 4) .unit) _ nh)], .g [.c (.int _ .i64 b), .c (.int _ .i64 c)]], [] => .ret (.one (.c (.bool false (enoG ng nh b c))), [])
 | _, _ => .fail
section
variable (B D Q : List Int) (gs hs : List PL.den) (ng nh : Nat) (b c : Int)
theorem pen_a : (bodyT PT2 Tryz.prog allLoops Tryz.f129 (cd Tryz.f129) [.g (gSet B D Q gs hs ng nh), pr b c] []).path [true] = some ([decide ((ng : Int) >= iw (b * c)) == true], .one (.c (.bool false (decide ((nh : Int) >= iw (b * c))))), []) := by kernel_rfl
theorem pen_b : (bodyT PT2 Tryz.prog allLoops Tryz.f129 (cd Tryz.f129) [.g (gSet B D Q gs hs ng nh), pr b c] []).path [false] = some ([decide ((ng : Int) >= iw (b * c)) == true], .one (.c (.bool true false)), []) := by kernel_rfl
end
theorem ok_penough : EntryOk Tryz.prog G0 129 Tpenough := by
 refine (EntryOk.subU (bodyT_ok okPT2 mx (un := allLoops) (fn := Tryz.f129) (c := cd Tryz.f129) (by kernel_rfl) (by kernel_rfl) (by kernel_rfl)).unlitG) (fun vs hl r ok h => ?_)
 unfold Tpenough at h;split at h
 ·rename_i B D Q gs ng hs nh l1 b l2 c;obtain rfl := val_ret h;unfold enoG;by_cases hg : (ng : Int) >= iw (b * c)
  ·refine ⟨_, Tree.path_val (cs := [true]) ((pen_a B D Q gs hs ng nh b c).trans (by rw [deT hg]; rfl)), ?_⟩
   rw [deT hg, Bool.true_and]; rfl
  ·refine ⟨_, Tree.path_val (cs := [false]) ((pen_b B D Q gs hs ng nh b c).trans (by rw [deF hg]; rfl)), ?_⟩
   rw [deF hg, Bool.false_and]; rfl
 ·cases h
theorem pin_a (xs ys : List (List Int)) (n m : Nat) : (bodyT PT2 Tryz.prog allLoops Tryz.f90 (cd Tryz.f90) [.c (.ro WS xs n), .c (.ro WS ys m)] []).path [true] = some ([decide (n = m /\ n <= 1048576)], .one (ws (limbs (inn xs ys n % ell))), []) := by kernel_rfl
def Tpinner (vs : List V1) (hl : Heap) : Tree (SV × Heap) :=
 match vs, hl with
 | [.c (.ro (.ws .u64 4) xs n), .c (.ro (.ws .u64 4) ys m)], [] => Tree.chk (decide (n = m /\ n <= 1048576)) (.ret (.one (ws (limbs (inn xs ys n % ell))), []))
 | _, _ => .fail
theorem ok_pinner : EntryOk Tryz.prog G0 90 Tpinner := by
 refine EntryOk.sub (bodyT_ok okPT2 mx (un := allLoops) (fn := Tryz.f90) (c := cd Tryz.f90) (by kernel_rfl) (by kernel_rfl) (by kernel_rfl)) (fun vs hl r ok h => ?_)
 unfold Tpinner at h;split at h
 ·rename_i xs n ys m;obtain ⟨h1, h2⟩ := val_chk h;obtain rfl := val_ret h2;have q := pin_a xs ys n m
  rw [h1] at q;exact Tree.path_val q
 ·cases h
noncomputable def gcpR (n : Nat) : Bool := SX.room n (Tryz.prog.bytesOf 35) && SX.room n 1
theorem gcp_a (xs : List PL.den) (n : Nat) : endT Tryz.prog Tryz.f130 [0] [true] (runK PT2 Tryz.prog noLoops 400 [.code (cd Tryz.f130)] ⟨enterT Tryz.f130 [.c (.ro PL xs n)], []⟩) = some ([gcpR (xs.take n).length], .one (.c (.sl 0 0 (xs.take n).length)), [.arr PL (xs.take n) 0 []]) := by kernel_rfl
def Tgcopied (vs : List V1) (hl : Heap) : Tree (SV × Heap) :=
 match vs, hl with
 | [.c (.ro (.pair (.ws .u64 4) .unit) xs n)], [] => Tree.chk (decide (n <= 1048576)) (.ret (.one (.c (.sl 0 0 (xs.take n).length)), [.arr PL (xs.take n) 0 []]))
 | _, _ => .fail
theorem ok_gcopied : EntryOk Tryz.prog G0 130 Tgcopied := by
 refine EntryOk.runs (S := PT2) (fn := Tryz.f130) (c := cd Tryz.f130) (by kernel_rfl) (by kernel_rfl) (by kernel_rfl) (fun vs hl r hl' ok h => ?_)
 unfold Tgcopied at h;split at h
 ·rename_i xs n;obtain ⟨h1, h2⟩ := val_chk h;have h1 := ofD h1
  obtain ⟨rfl, rfl⟩ := Prod.mk.inj (val_ret h2);have hl := take_le (α := PL.den) xs n
  exact Runs.last okPT2 mx (gcp_a xs n) (by unfold gcpR; rw [lroom (n := (List.take (α := PL.den) n xs).length) (by omega)]) (by rfl)
 ·cases h
noncomputable def PT3 : Tab := ((PT2.put 129 0 Tpenough).put 90 0 Tpinner).put 130 1 Tgcopied
theorem okPT3 : SpecOk Tryz.prog PT3 := ((okPT2.put ok_penough).put ok_pinner).put ok_gcopied
def lsM (x : List Int) : List Int := limbs (val x % ell)
noncomputable def pelR (k : List Item) (s : St) : Tree Out := runK PT3 Tryz.prog noLoops 400 k s
noncomputable def pelS (xs : List (List Int)) (n : Nat) : St := ⟨enterT Tryz.f80 [.c (.ro WS xs n)], []⟩
noncomputable def pelK : List Item := leftT [true] (pelR [.code (cd Tryz.f80)] (pelS [] 0))
noncomputable def pelT (xs : List (List Int)) (n : Nat) (ys : List (List Int)) (m : Nat) (i : Int) : St := ⟨slotsOf 22 [(3, one (.sl 0 0 m)), (9, one (.ro WS xs n)), (10, one (.int false .i64 n)), (11, one (.int false .i64 i))], [.arr WS ys 0 []]⟩
noncomputable def pelB (n : Nat) : Bool := decide ((0 : Int) <= 0 /\ (0 : Int) <= n /\ (n : Int) <= 281474976710656 /\ ((Tryz.prog.bytesOf 26 : Nat) : Int) * n <= 281474976710656)
theorem pel_a (xs : List (List Int)) (n : Nat) : pieceT [3, 9, 10, 11] [11] [0] [true] (pelR [.code (cd Tryz.f80)] (pelS xs n)) = some ([pelB n], pelK, pelT xs n (List.replicate n zL) 0 (0 : Nat)) := by kernel_rfl
theorem pel_b (xs ys : List (List Int)) (n m i : Nat) : pieceT [3, 9, 10, 11] [11] [3] [true, true, true] (pelR pelK (pelT xs n ys m i)) =
  some ([decide ((i : Int) < n), decide (0 <= (i : Int) /\ (i : Int) < n), decide (m = ys.length) && roomW (m + 1)], pelK, pelT xs n (ys ++ [lsM (xs.getD i zL)]) (m + 1) (iw ((i : Int) + 1))) := by kernel_rfl
theorem pel_b' (xs ys : List (List Int)) (n m i : Nat) : pieceT [3, 9, 10, 11] [11] [3] [true, true, false, true] (pelR pelK (pelT xs n ys m i)) =
  some ([decide ((i : Int) < n), decide (0 <= (i : Int) /\ (i : Int) < n), decide (m = ys.length) && roomW (m + 1), true && (decide (m <= ys.length) && roomW (m + 1))], pelK, pelT xs n (ys.take m ++ [lsM (xs.getD i zL)]) (m + 1) (iw ((i : Int) + 1))) := by kernel_rfl
theorem pel_c (xs ys : List (List Int)) (n m i : Nat) : endT Tryz.prog Tryz.f80 [0] [false] (pelR pelK (pelT xs n ys m i)) = some ([decide ((i : Int) < n)], .one (.c (.sl 0 0 m)), [.arr WS ys 0 []]) := by kernel_rfl
def lsL (xs : List (List Int)) (n : Nat) : List (List Int) := (List.range n).map fun i => lsM (xs.getD i zL)
theorem lsL_next (xs : List (List Int)) (k : Nat) : lsL xs k ++ [lsM (xs.getD k zL)] = lsL xs (k + 1) := map_range_snoc (fun i => lsM (xs.getD i zL)) k
theorem lsL_len (xs : List (List Int)) (k : Nat) : (lsL xs k).length = k := map_range_len _ k
theorem pel_runs {xs : List (List Int)} {n : Nat} (hn : n <= 1048576) : Runs Tryz.prog PT3 Tryz.f80 0 [.code (cd Tryz.f80)] (pelS xs n) (.one (.c (.sl 0 0 n))) [.arr WS (lsL xs n) 0 []] := by
 have hm : pelB n = true := by
  unfold pelB;rw [show Tryz.prog.bytesOf 26 = 32 from by kernel_rfl]
  exact deT (by omega)
 refine Runs.piece okPT3 mx (pel_a xs n) (by rw [hm]) (by rfl) ?_
 refine loopG (st := fun k (ys : List (List Int)) => pelT xs n ys k k) (I := fun k ys => ys = lsL xs k \/ (k = 0 /\ ys = List.replicate n zL)) (n := n) (fun k ys hk hI => ⟨lsL xs (k + 1), .inl rfl, fun hr => ?_⟩) (fun ys hI => ?_) n 0 _ (by omega) (.inr ⟨rfl, rfl⟩)
 ·have i1 : decide ((k : Int) < n) = true := deT (by omega)
  have i2 : decide (0 <= (k : Int) /\ (k : Int) < n) = true := deT (by omega)
  rcases hI with rfl | ⟨rfl, rfl⟩
  ·have h := pel_b xs (lsL xs k) n k k
   rw [iwk (by omega), i1, i2, roomWk (by omega), deT (lsL_len xs k).symm, lsL_next] at h
   exact Runs.piece okPT3 mx h rfl (by rfl) hr
  ·have h := pel_b' xs (List.replicate n zL) n 0 0
   rw [iwk (by omega), i1, i2, roomWk (by omega), deF (by rw [List.length_replicate]; omega), deT (Nat.zero_le _), List.take_zero, List.nil_append] at h
   exact Runs.piece okPT3 mx h rfl (by rfl) hr
 ·have e : ys = lsL xs n := by
   rcases hI with h | ⟨h1, h2⟩
   ·exact h
   ·subst h1; exact h2
  subst e;exact Runs.last okPT3 mx (pel_c xs _ n n n) (by rw [deF (by omega)]) (by rfl)
def Tpleast (vs : List V1) (hl : Heap) : Tree (SV × Heap) :=
 match vs, hl with
 | [.c (.ro (.ws .u64 4) xs n)], [] => Tree.chk (decide (n <= 1048576)) (.ret (.one (.c (.sl 0 0 n)), [.arr WS (lsL xs n) 0 []]))
 | _, _ => .fail
theorem ok_pleast : EntryOk Tryz.prog G0 80 Tpleast := by
 refine EntryOk.runs (S := PT3) (fn := Tryz.f80) (c := cd Tryz.f80) (by kernel_rfl) (by kernel_rfl) (by kernel_rfl) (fun vs hl r hl' ok h => ?_)
 unfold Tpleast at h;split at h
 ·rename_i xs n;obtain ⟨h1, h2⟩ := val_chk h;obtain ⟨rfl, rfl⟩ := Prod.mk.inj (val_ret h2);exact pel_runs (ofD h1)
 ·cases h
structure JoA where
 B : List Int
 D : List Int
 Q : List Int
 gs : List PL.den
 hs : List PL.den
 ng : Nat
 nh : Nat
 b : Int
 c : Int
 p : Int
 v : Int
 d : List Int
 a : List Int
 r : List Int
 t1 : List Int
 t2 : List Int
 sl : List (List Int)
 nl : Nat
 sr : List (List Int)
 nr : Nat
def joV (j : JoA) : List V1 := [.g (gSet j.B j.D j.Q j.gs j.hs j.ng j.nh), pr j.b j.c, .c (.int false .i64 j.p), .g [.c (.int false .u64 j.v), .ws .u64 4 j.d], .g (tapeF j.a j.r j.t1 j.t2 j.sl j.nl j.sr j.nr)]
noncomputable def pfR (k : List Item) (s : St) : Tree Out := runK PT3 Tryz.prog noLoops 400 k s
noncomputable def pfS (j : JoA) : St := ⟨enterT Tryz.f78 (joV j), []⟩
section
variable (j : JoA)
theorem pf_1 : endT Tryz.prog Tryz.f78 [] [true] (pfR [.code (cd Tryz.f78)] (pfS j)) = some ([!alw j.b j.c], fiE 130, []) := by kernel_rfl
theorem pf_2 : endT Tryz.prog Tryz.f78 [] [false, false] (pfR [.code (cd Tryz.f78)] (pfS j)) = some ([!alw j.b j.c, decide (j.p < 0) == false], fiE 140, []) := by kernel_rfl
theorem pf_3 : endT Tryz.prog Tryz.f78 [] [false, true, true] (pfR [.code (cd Tryz.f78)] (pfS j)) = some ([!alw j.b j.c, decide (j.p < 0) == false, decide (j.p >= j.c)], fiE 140, []) := by kernel_rfl
theorem pf_4 : endT Tryz.prog Tryz.f78 [] [false, true, false, false] (pfR [.code (cd Tryz.f78)] (pfS j)) = some ([!alw j.b j.c, decide (j.p < 0) == false, decide (j.p >= j.c), (!enoG j.ng j.nh j.b j.c) == false], fiE 2, []) := by kernel_rfl
theorem pf_5 : endT Tryz.prog Tryz.f78 [] [false, true, false, true, false] (pfR [.code (cd Tryz.f78)] (pfS j)) = some ([!alw j.b j.c, decide (j.p < 0) == false, decide (j.p >= j.c), (!enoG j.ng j.nh j.b j.c) == false, ((j.nl : Int) != j.b) == false], fiE 2, []) := by kernel_rfl
theorem pf_6 : endT Tryz.prog Tryz.f78 [] [false, true, false, true, true, true] (pfR [.code (cd Tryz.f78)] (pfS j)) = some ([!alw j.b j.c, decide (j.p < 0) == false, decide (j.p >= j.c), (!enoG j.ng j.nh j.b j.c) == false, ((j.nl : Int) != j.b) == false, (j.nr : Int) != j.b], fiE 2, []) := by kernel_rfl
theorem pf_7 : endT Tryz.prog Tryz.f78 [] [false, true, false, true, true, false, true, false] (pfR [.code (cd Tryz.f78)] (pfS j)) = some ([!alw j.b j.c, decide (j.p < 0) == false, decide (j.p >= j.c), (!enoG j.ng j.nh j.b j.c) == false, ((j.nl : Int) != j.b) == false, (j.nr : Int) != j.b, decide (0 <= j.b), decide (j.b < 64) == true], fiE 0, []) := by kernel_rfl
theorem pf_8 : endT Tryz.prog Tryz.f78 [] [false, true, false, true, true, false, true, true, true] (pfR [.code (cd Tryz.f78)] (pfS j)) = some ([!alw j.b j.c, decide (j.p < 0) == false, decide (j.p >= j.c), (!enoG j.ng j.nh j.b j.c) == false, ((j.nl : Int) != j.b) == false, (j.nr : Int) != j.b, decide (0 <= j.b), decide (j.b < 64) == true, decide (j.v >= topV j.b)], fiE 131, []) := by kernel_rfl
theorem pf_9 : endT Tryz.prog Tryz.f78 [] [false, true, false, true, true, false, true, true, false] (pfR [.code (cd Tryz.f78)] (pfS j)) = some ([!alw j.b j.c, decide (j.p < 0) == false, decide (j.p >= j.c), (!enoG j.ng j.nh j.b j.c) == false, ((j.nl : Int) != j.b) == false, (j.nr : Int) != j.b, decide (0 <= j.b), decide (j.b < 64) == true, decide (j.v >= topV j.b)], fiE 0, []) := by kernel_rfl
end
def pfE (ng nh : Nat) (b c p v : Int) (nl nr : Nat) : Int :=
 if alw b c = false then 130 else if p < 0 \/ p >= c then 140 else if (ng : Int) < iw (b * c) \/ (nh : Int) < iw (b * c) \/ (nl : Int) ≠ b \/ (nr : Int) ≠ b then 2 else if opOk b v = true then 0 else 131
abbrev RPf (j : JoA) (x : Int) : Prop := Runs Tryz.prog PT3 Tryz.f78 0 [.code (cd Tryz.f78)] (pfS j) (.one (.c (.int false .i64 x))) []
theorem RPf.end {j : JoA} {x : Int} (h : Runs Tryz.prog PT3 Tryz.f78 0 [.code (cd Tryz.f78)] (pfS j) (fiE x) []) : RPf j x := Runs.weak (v := fiE x) (fun _ _ h => h) h
theorem pf_runs (j : JoA) : RPf j (pfE j.ng j.nh j.b j.c j.p j.v j.nl j.nr) := by
 unfold pfE;cases ha : alw j.b j.c with
 | false =>
  rw [if_pos rfl];have h := pf_1 j
  rw [ha] at h;exact RPf.end (Runs.last okPT3 mx h rfl (by rfl))
 | true =>
 rw [if_neg (by decide)]
 obtain ⟨⟨hb1, hb2⟩, hc⟩ := alw_of ha;by_cases p1 : j.p < 0
 ·rw [if_pos (.inl p1)];have h := pf_2 j
  rw [ha, deT p1] at h;exact RPf.end (Runs.last okPT3 mx h rfl (by rfl))
 by_cases p2 : j.p >= j.c
 ·rw [if_pos (.inr p2)];have h := pf_3 j
  rw [ha, deF p1, deT p2] at h;exact RPf.end (Runs.last okPT3 mx h rfl (by rfl))
 rw [if_neg (fun q => q.elim p1 p2)]
 by_cases h1 : (j.ng : Int) < iw (j.b * j.c) \/ (j.nh : Int) < iw (j.b * j.c)
 ·rw [if_pos (h1.elim .inl fun q => .inr (.inl q))]
  have he : enoG j.ng j.nh j.b j.c = false := by
   unfold enoG;rcases h1 with h1 | h1
   ·rw [deF (by omega), Bool.false_and]
   ·rw [deF (show ¬ (j.nh : Int) >= iw (j.b * j.c) by omega), Bool.and_false]
  have h := pf_4 j
  rw [ha, deF p1, deF p2, he] at h;exact RPf.end (Runs.last okPT3 mx h rfl (by rfl))
 have he : enoG j.ng j.nh j.b j.c = true := by
  unfold enoG;rw [deT (show (j.ng : Int) >= iw (j.b * j.c) by omega), deT (show (j.nh : Int) >= iw (j.b * j.c) by omega)]; rfl
 by_cases h4 : (j.nl : Int) ≠ j.b
 ·rw [if_pos (.inr (.inr (.inl h4)))];have h := pf_5 j
  rw [ha, deF p1, deF p2, he, bneq h4] at h;exact RPf.end (Runs.last okPT3 mx h rfl (by rfl))
 have h4' : (j.nl : Int) = j.b := Decidable.not_not.1 h4
 by_cases h5 : (j.nr : Int) ≠ j.b
 ·rw [if_pos (.inr (.inr (.inr h5)))];have h := pf_6 j
  rw [ha, deF p1, deF p2, he, bneq' h4', bneq h5] at h;exact RPf.end (Runs.last okPT3 mx h rfl (by rfl))
 have h5' : (j.nr : Int) = j.b := Decidable.not_not.1 h5
 rw [if_neg (by rintro (h | h | h | h) <;> first | exact h1 (.inl h) | exact h1 (.inr h) | exact h4 h | exact h5 h)]
 by_cases h64 : j.b < 64
 ·by_cases ht : j.v >= topV j.b
  ·rw [if_neg (by rw [opOk, deT h64, deT ht]; decide)]
   have h := pf_8 j
   rw [ha, deF p1, deF p2, he, bneq' h4', bneq' h5', deT (show 0 <= j.b by omega), deT h64, deT ht] at h
   exact RPf.end (Runs.last okPT3 mx h rfl (by rfl))
  ·rw [if_pos (by rw [opOk, deF ht, Bool.and_false]; rfl)]
   have h := pf_9 j
   rw [ha, deF p1, deF p2, he, bneq' h4', bneq' h5', deT (show 0 <= j.b by omega), deT h64, deF ht] at h
   exact RPf.end (Runs.last okPT3 mx h rfl (by rfl))
 ·rw [if_pos (by rw [opOk, deF h64, Bool.false_and]; rfl)]
  have h := pf_7 j
  rw [ha, deF p1, deF p2, he, bneq' h4', bneq' h5', deT (show 0 <= j.b by omega), deF h64] at h
  exact RPf.end (Runs.last okPT3 mx h rfl (by rfl))
def Tpfits (vs : List V1) (hl : Heap) : Tree (SV × Heap) :=
 match vs, hl with
 | [.g [.ws .u64 4 _, .ws .u64 4 _, .ws .u64 4 _, .c (.ro (.pair (.ws .u64 4) .unit) _ ng), .c (.ro (.pair (.ws .u64 4) .unit) _ nh)], .g [.c (.int _ .i64 b), .c (.int _ .i64 c)], .c (.int _ .i64 p), .g [.c (.int _ .u64 v), .ws .u64 4 _],
   .g [.ws .u64 4 _, .ws .u64 4 _, .ws .u64 4 _, .ws .u64 4 _, .c (.ro (.ws .u64 4) _ nl), .c (.ro (.ws .u64 4) _ nr)]], [] => .ret (.one (.c (.int false .i64 (pfE ng nh b c p v nl nr))), [])
 | _, _ => .fail
theorem ok_pfits : EntryOk Tryz.prog G0 78 Tpfits := by
 refine EntryOk.unlitRuns (S := PT3) (fn := Tryz.f78) (c := cd Tryz.f78) (by kernel_rfl) (by kernel_rfl) (by kernel_rfl) (fun vs hl res hl' ok h => ?_)
 unfold Tpfits at h;split at h
 ·rename_i B D Q gs ng hs nh l1 b l2 c l3 p l4 v d a r t1 t2 sl nl sr nr;obtain ⟨rfl, rfl⟩ := Prod.mk.inj (val_ret h);exact pf_runs ⟨B, D, Q, gs, hs, ng, nh, b, c, p, v, d, a, r, t1, t2, sl, nl, sr, nr⟩
 ·cases h
noncomputable def PT4 : Tab := (PT3.put 80 1 Tpleast).put 78 0 Tpfits
theorem okPT4 : SpecOk Tryz.prog PT4 := (okPT3.put ok_pleast).put ok_pfits
end Go.Sc
