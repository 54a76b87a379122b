/- RangesMoves, walked whole. -/
import Derived.Test.YtdblbibjggeikaaGreatDoorG5
set_option linter.unusedSectionVars false
set_option linter.unusedVariables false
set_option linter.unusedSimpArgs false
namespace Go.Sc
open Go Go.SX Go.Proofs
variable [Level] [Lone]
abbrev RMv (k : List Item) (s : St) : Prop := Runs Tryz.prog N6 Tryz.f3 0 k s (.one (.c (.bool false true))) []
section
variable {s : CsA} (ho : CsOk s) (hb : BeOk (mvZ s)) (ms : List MV.den) {n : Nat} (hn : n <= 1048576)
omit [Lone] in
theorem mvKc_ok (Y Z : List Int) : mvKc s Y Z = true := decide_eq_true ⟨rfl, rfl, rfl⟩
include ho hb
theorem mvKd_ok : mvKd s = true := by
 obtain ⟨g1, g2, g3⟩ := mvM_n ho;have hk := mvM_k ho hb
 have := ho.bl
 have := ho.bv
 exact decide_eq_true ⟨⟨by omega, by omega⟩, by omega⟩
include hn
theorem mv_p5 : ∀ d i, i + d = n -> ∀ l e f v Y Z y z, RMv mvK (mvTN s ms n l e f v Y Z y z i)
 | 0, i, hi, l, e, f, v, Y, Z, y, z => by
  have h := mv5_e s ms n i l e f v Y Z y z
  rw [decide_eq_false (by omega), mvY_ok ho] at h
  exact Runs.last okN6 mx h rfl (by rfl)
 | d + 1, i, hi, l, e, f, v, Y, Z, y, z => by
  have ih := mv_p5 d (i + 1) (by omega)
  cases hA : mvA ms i with
  | true =>
   have h := mv5_l s ms n i l e f v Y Z y z
   rw [decide_eq_true (by omega), decide_eq_true (by omega), hA, mvKc_ok, iwk (by omega)] at h
   exact Runs.piece okN6 mx h rfl (by rfl) (ih _ _ _ _ _ _ _ _)
  | false =>
   by_cases hy : val (mvYi ms i) % ell = 0
   ·have h := mv5_y s ms n i l e f v Y Z y z
    rw [decide_eq_true (show (i : Int) < n by omega), decide_eq_true (show 0 <= (i : Int) /\ (i : Int) < n by omega), hA, mvKc_ok, decide_eq_true hy, iwk (by omega)] at h
    exact Runs.piece okN6 mx h rfl (by rfl) (ih _ _ _ _ _ _ _ _)
   ·have h := mv5_n s ms n i l e f v Y Z y z
    rw [decide_eq_true (show (i : Int) < n by omega), decide_eq_true (show 0 <= (i : Int) /\ (i : Int) < n by omega), hA, mvKc_ok, decide_eq_false hy, iwk (by omega)] at h
    exact Runs.piece okN6 mx h rfl (by rfl) (ih _ _ _ _ _ _ _ _)
theorem mv_p4 {i : Nat} (hi : i <= n) (l : Bool) (e f : Int) (v : Vw) (Y Z y z : List Int) (L R : List (List Int)) : RMv mvK (mvTL s ms n l e f v Y Z y z L R i) := by
 rcases Nat.lt_or_ge i n with hlt | hge
 ·have ih := mv_p5 ho hb ms hn (n - (i + 1)) (i + 1) (by omega)
  cases hA : mvA ms i with
  | true =>
   have h := mv3_l s ms n i l e f v Y Z y z L R
   rw [decide_eq_true (by omega), decide_eq_true (by omega), hA, mvKc_ok, iwk (by omega)] at h
   exact Runs.piece okN6 mx h rfl (by rfl) (ih _ _ _ _ _ _ _ _)
  | false =>
   by_cases hy : val (mvYi ms i) % ell = 0
   ·have h := mv3_y s ms n i l e f v Y Z y z L R
    rw [decide_eq_true (show (i : Int) < n by omega), decide_eq_true (show 0 <= (i : Int) /\ (i : Int) < n by omega), hA, mvKc_ok, decide_eq_true hy, iwk (by omega)] at h
    exact Runs.piece okN6 mx h rfl (by rfl) (ih _ _ _ _ _ _ _ _)
   ·have h := mv3_n s ms n i l e f v Y Z y z L R
    rw [decide_eq_true (show (i : Int) < n by omega), decide_eq_true (show 0 <= (i : Int) /\ (i : Int) < n by omega), hA, mvKc_ok, decide_eq_false hy, iwk (by omega)] at h
    exact Runs.piece okN6 mx h rfl (by rfl) (ih _ _ _ _ _ _ _ _)
 ·have h := mv3_e s ms n i l e f v Y Z y z L R
  rw [decide_eq_false (by omega), mvY_ok ho] at h
  exact Runs.last okN6 mx h rfl (by rfl)
theorem mv_in {i : Nat} (hi : i < n) (v : Vw) (Y Z y z : List Int) (L R : List (List Int)) : RMv mvK2 (mvT4 s ms n v Y Z y z i (0 : Nat) L R) := by
 have hk := mvM_k ho hb
 have hl := ho.bl
 refine loopG (st := fun j (a : List (List Int) × List (List Int)) => mvT4 s ms n v Y Z y z i j a.1 a.2) (I := fun _ _ => True) (n := (mvM s).k) (fun j a hj _ => ?_) (fun a _ => ?_) (mvM s).k 0 (L, R) (by omega) trivial
 ·have h := mv4_b s ms n i j v Y Z y z a.1 a.2
  rw [decide_eq_true (show (j : Int) < (mvM s).k by omega), decide_eq_true (show 0 <= (j : Int) /\ (j : Int) < (mvM s).k by omega), iwk (by omega)] at h
  exact ⟨(a.1.set (0 + j) [5, 0, 0, 0], a.2.set (0 + j) [6, 0, 0, 0]), trivial, fun hr => Runs.piece okN6 mx h rfl (by rfl) hr⟩
 ·have h := mv4_c s ms n i (mvM s).k v Y Z y z a.1 a.2
  rw [decide_eq_false (by omega), iwk (by omega)] at h
  exact Runs.piece okN6 mx h rfl (by rfl) (mv_p4 ho hb ms hn (by omega) _ _ _ _ _ _ _ _ _ _)
theorem mv_fin (Y Z X : List Int) : (vB (mvW3 s Y Z X) (ev3 (mvH s (leL Y) (leL Z) (leL X))) && (snB (mvLL s Y Z X) (mpL (wlE (mvH s (leL Y) (leL Z) (leL X))) s.nl) (mvM s).k s.nl && snB (mvRR s Y Z X) (mpL (wrE (mvH s (leL Y) (leL Z) (leL X))) s.nl) (mvM s).k s.nl)) = true := by
 obtain ⟨g1, g2, g3⟩ := mvM_n ho;have hk := mvM_k ho hb
 unfold mvW3 mvLL mvRR;rw [hk, g3, vB_3 ho hb Y Z X, snB_L ho hb Y Z X, snB_R ho hb Y Z X];rfl
theorem mv_p3 : ∀ d i, i + d = n -> ∀ l e f v Y Z, RMv mvK (mvT3 s ms n l e f 1 2 v .nils .nils Y Z (leL Y) (leL Z) i [])
 | 0, i, hi, l, e, f, v, Y, Z => by
  have h := mv2_e s ms n i l e f v Y Z (leL Y) (leL Z)
  rw [decide_eq_false (by omega), mvY_ok ho] at h
  exact Runs.last okN6 mx h rfl (by rfl)
 | d + 1, i, hi, l, e, f, v, Y, Z => by
  have ih := mv_p3 d (i + 1) (by omega)
  cases hA : mvA ms i with
  | true =>
   by_cases hx : val (mvXi ms i) % ell = 0
   ·have h := mv2_x s ms n i l e f v Y Z (leL Y) (leL Z)
    rw [decide_eq_true (show (i : Int) < n by omega), decide_eq_true (show 0 <= (i : Int) /\ (i : Int) < n by omega), hA, mvKc_ok, mvKd_ok ho hb, decide_eq_true hx, iwk (by omega)] at h
    exact Runs.piece okN6 mx h rfl (by rfl) (ih _ _ _ _ _ _)
   ·have h := mv2_f s ms n i l e f v Y Z (leL Y) (leL Z)
    have hbl := ho.bl
    rw [decide_eq_true (show (i : Int) < n by omega), decide_eq_true (show 0 <= (i : Int) /\ (i : Int) < n by omega), hA, mvKc_ok, mvKd_ok ho hb, decide_eq_false hx, decide_eq_true ho.bv, decide_eq_true (show s.nl <= 1048576 by omega), decide_eq_true (show s.nr <= 1048576 by omega), ok_wh ho hb (leL_lt Z), mv_fin ho hb hn Y Z (mvXi ms i)] at h
    exact Runs.piece okN6 mx h rfl (by rfl) (mv_in ho hb ms hn (by omega) _ _ _ _ _ _ _)
  | false =>
   by_cases hy : val (mvYi ms i) % ell = 0
   ·have h := mv2_y s ms n i l e f v Y Z (leL Y) (leL Z)
    rw [decide_eq_true (show (i : Int) < n by omega), decide_eq_true (show 0 <= (i : Int) /\ (i : Int) < n by omega), hA, mvKc_ok, decide_eq_true hy, iwk (by omega)] at h
    exact Runs.piece okN6 mx h rfl (by rfl) (ih _ _ _ _ _ _)
   ·have h := mv2_n s ms n i l e f v Y Z (leL Y) (leL Z)
    rw [decide_eq_true (show (i : Int) < n by omega), decide_eq_true (show 0 <= (i : Int) /\ (i : Int) < n by omega), hA, mvKc_ok, decide_eq_false hy, iwk (by omega)] at h
    exact Runs.piece okN6 mx h rfl (by rfl) (ih _ _ _ _ _ _)
theorem mv_p1 : ∀ d i, i + d = n -> ∀ l e f v y z, RMv mvK (mvT1 s ms n l e f v y z i)
 | 0, i, hi, l, e, f, v, y, z => by
  have h := mv1_e s ms n i l e f v y z
  rw [decide_eq_false (by omega), mvY_ok ho] at h
  exact Runs.last okN6 mx h rfl (by rfl)
 | d + 1, i, hi, l, e, f, v, y, z => by
  have ih := mv_p1 d (i + 1) (by omega)
  have i1 : (i : Int) < n := by omega
  have i2 : 0 <= (i : Int) /\ (i : Int) < n := by omega
  cases hA : mvA ms i with
  | true =>
   have h := mv1_l s ms n i l e f v y z
   rw [decide_eq_true i1, decide_eq_true i2, hA, iwk (by omega)] at h
   exact Runs.piece okN6 mx h rfl (by rfl) (ih _ _ _ _ _ _)
  | false =>
   by_cases hy : val (mvYi ms i) % ell = 0
   ·have h := mv1_y s ms n i l e f v y z
    rw [decide_eq_true i1, decide_eq_true i2, hA, mvM_ok ho hb, decide_eq_true (.inl hy), decide_eq_true hy, iwk (by omega)] at h
    exact Runs.piece okN6 mx h rfl (by rfl) (ih _ _ _ _ _ _)
   by_cases hz : val (mvZi ms i) % ell = 0
   ·have h := mv1_z s ms n i l e f v y z
    rw [decide_eq_true i1, decide_eq_true i2, hA, mvM_ok ho hb, decide_eq_true (.inr hz), decide_eq_false hy, decide_eq_true hz, iwk (by omega)] at h
    exact Runs.piece okN6 mx h rfl (by rfl) (ih _ _ _ _ _ _)
   ·have h := mv1_m s ms n i l e f v y z
    have hbl := ho.bl
    rw [decide_eq_true i1, decide_eq_true i2, hA, mvM_ok ho hb, decide_eq_false (fun q => q.elim hy hz), decide_eq_false hy, decide_eq_false hz, decide_eq_true ho.bv, decide_eq_true (show s.nl <= 1048576 by omega), decide_eq_true (show s.nr <= 1048576 by omega), ok_wh ho hb (leL_lt (mvZi ms i)), vB_2 ho hb (mvYi ms i) (mvZi ms i) one4, iwk (by omega)] at h
    exact Runs.piece okN6 mx h rfl (by rfl) (mv_p3 ho hb ms hn d (i + 1) (by omega) _ _ _ _ _ _)
end
theorem mv_runs {s : CsA} (ho : CsOk s) (ms : List MV.den) {n : Nat} (hn : n <= 1048576) : RMv [.code (cd Tryz.f3)] (mvS s ms n) := by
 have hbl := ho.bl
 have hbg := ho.bg
 have hbv := ho.bv
 by_cases h0 : beE (mvZ s) = 0
 ·have hb := beOk_of h0
  have hE : mvE s = 0 := (mvE_eq ho).symm.trans h0
  refine Runs.piece okN6 mx (mv_0 s ms n) (by rw [decide_eq_true hbg]) (by rfl) ?_
  refine Runs.lendVals 4 (fs := rgF s (.sl 1 0 s.ng) (.sl 2 0 s.nh)) rfl (mv_f s ms n) rfl ?_
  have h := mv_a s ms n
  rw [decide_eq_true hbl, mvO_ok ho, decide_eq_true h0, decide_eq_true hbv, decide_eq_true (show s.nl <= 1048576 by omega), decide_eq_true (show s.nr <= 1048576 by omega), bneq' hE.symm, mvY_ok ho, bneq' hE, ok_wh ho hb (show val one4 < ell by decide), V_ok ho hb one4 one4 one4, show vB (beVw (mvZ s)) (evW (whVw (mvH s one4 one4 one4)).A (whVw (mvH s one4 one4 one4)).S) = true from vB_1 ho hb one4 one4 one4] at h
  exact Runs.piece okN6 mx h rfl (by rfl) (mv_p1 ho hb ms hn n 0 (by omega) _ _ _ _ _ _)
 ·have h := mv_x s ms n
  have hE : beE (mvZ s) = mvE s := mvE_eq ho
  have hne : mvE s ≠ 0 := by rw [<- hE]; exact h0
  rw [decide_eq_true hbg, decide_eq_true hbl, mvO_ok ho, decide_eq_false h0, decide_eq_true hbv, decide_eq_true (show s.nl <= 1048576 by omega), decide_eq_true (show s.nr <= 1048576 by omega), bneq' hE, mvY_ok ho, bneq hne] at h
  exact Runs.weak (v := .one (.c (.bool true true))) (fun _ _ h => h) (Runs.last okN6 mx h rfl (by rfl))
end Go.Sc
