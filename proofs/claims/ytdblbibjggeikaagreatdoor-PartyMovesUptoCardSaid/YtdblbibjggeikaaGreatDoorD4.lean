/- Contracts of the document's scalars, part 1: sums, differences, comparison. -/
import Derived.Test.YtdblbibjggeikaaGreatDoorD3
set_option linter.unusedSectionVars false
set_option linter.unusedVariables false
set_option linter.unusedSimpArgs false
namespace Go.Sc
open Go Go.SX Go.Proofs
variable [Level]
def Trl (vs : List V1) (hl : Heap) : Tree (SV × Heap) :=
 match vs, hl with
 | [], [] => .ret (.one (ws tab0), [])
 | _, _ => .fail
theorem b_rl : (bodyT C11 Tryz.prog allLoops Tryz.f125 (cd Tryz.f125) [] []).path [] = some ([], .one (ws tab0), []) := by kernel_rfl
theorem ok_rl : EntryOk Tryz.prog G0 125 Trl := by
 refine EntryOk.sub (bodyT_ok okC11 mx (un := allLoops) (fn := Tryz.f125) (c := cd Tryz.f125) (by kernel_rfl) (by kernel_rfl) (by kernel_rfl)) (fun vs hl r ok h => ?_)
 unfold Trl at h;split at h
 ·obtain rfl := val_ret h;exact Tree.path_val b_rl
 ·cases h
def Tbelow (vs : List V1) (hl : Heap) : Tree (SV × Heap) :=
 match vs, hl with
 | [.g [.ws .u64 4 xs], .g [.ws .u64 4 ys]], [] => .ret (.one (.c (.bool false (decide (val xs < val ys)))), [])
 | _, _ => .fail
theorem below_1 (a b c d a' b' c' d' : Int) : (bodyT C11 Tryz.prog allLoops Tryz.f124 (cd Tryz.f124) [ws [a, b, c, d], ws [a', b', c', d']] []).path [true] = some ([d != d'], .one (.c (.bool false (decide (d < d')))), []) := by kernel_rfl
theorem below_2 (a b c d a' b' c' d' : Int) : (bodyT C11 Tryz.prog allLoops Tryz.f124 (cd Tryz.f124) [ws [a, b, c, d], ws [a', b', c', d']] []).path [false, true] = some ([d != d', c != c'], .one (.c (.bool false (decide (c < c')))), []) := by kernel_rfl
theorem below_3 (a b c d a' b' c' d' : Int) : (bodyT C11 Tryz.prog allLoops Tryz.f124 (cd Tryz.f124) [ws [a, b, c, d], ws [a', b', c', d']] []).path [false, false, true] = some ([d != d', c != c', b != b'], .one (.c (.bool false (decide (b < b')))), []) := by kernel_rfl
theorem below_4 (a b c d a' b' c' d' : Int) : (bodyT C11 Tryz.prog allLoops Tryz.f124 (cd Tryz.f124) [ws [a, b, c, d], ws [a', b', c', d']] []).path [false, false, false, true] = some ([d != d', c != c', b != b', a != a'], .one (.c (.bool false (decide (a < a')))), []) := by kernel_rfl
theorem below_5 (a b c d a' b' c' d' : Int) : (bodyT C11 Tryz.prog allLoops Tryz.f124 (cd Tryz.f124) [ws [a, b, c, d], ws [a', b', c', d']] []).path [false, false, false, false] = some ([d != d', c != c', b != b', a != a'], .one (.c (.bool true false)), []) := by kernel_rfl
theorem ne_yes {a b : Int} (h : a ≠ b) : (a != b) = true := by simpa using h
theorem ne_no {a : Int} : (a != a) = false := by simp
theorem ok_rbelow : EntryOk Tryz.prog G0 124 Tbelow := by
 refine EntryOk.subU (bodyT_ok okC11 mx (un := allLoops) (fn := Tryz.f124) (c := cd Tryz.f124) (by kernel_rfl) (by kernel_rfl) (by kernel_rfl)) (fun vs hl r ok h => ?_)
 unfold Tbelow at h;split at h
 ·rename_i xs ys;obtain rfl := val_ret h;obtain ⟨a, b, c, d, rfl, ha, hb, hc, hd⟩ := okL_get (show okL xs from ok.1.1)
  obtain ⟨a', b', c', d', rfl, ha', hb', hc', hd'⟩ := okL_get (show okL ys from ok.2.1.1)
  by_cases h4 : d = d'
  ·subst h4;by_cases h3 : c = c'
   ·subst h3;by_cases h2 : b = b'
    ·subst h2;by_cases h1 : a = a'
     ·subst h1;have hp := below_5 a b c d a b c d
      rw [ne_no, ne_no, ne_no, ne_no] at hp;refine ⟨_, Tree.path_val hp, ?_⟩
      rw [deF (by omega)]; rfl
     ·have hp := below_4 a b c d a' b c d
      rw [ne_no, ne_no, ne_no, ne_yes h1] at hp;refine ⟨_, Tree.path_val hp, ?_⟩
      have : (val [a, b, c, d] < val [a', b, c, d]) ↔ a < a' := by rw [val4, val4]; omega
      rw [decide_eq_decide.mpr this]; rfl
    ·have hp := below_3 a b c d a' b' c d
     rw [ne_no, ne_no, ne_yes h2] at hp;refine ⟨_, Tree.path_val hp, ?_⟩
     have : (val [a, b, c, d] < val [a', b', c, d]) ↔ b < b' := by rw [val4, val4]; omega
     rw [decide_eq_decide.mpr this]; rfl
   ·have hp := below_2 a b c d a' b' c' d
    rw [ne_no, ne_yes h3] at hp;refine ⟨_, Tree.path_val hp, ?_⟩
    have : (val [a, b, c, d] < val [a', b', c', d]) ↔ c < c' := by rw [val4, val4]; omega
    rw [decide_eq_decide.mpr this]; rfl
  ·have hp := below_1 a b c d a' b' c' d'
   rw [ne_yes h4] at hp;refine ⟨_, Tree.path_val hp, ?_⟩
   have : (val [a, b, c, d] < val [a', b', c', d']) ↔ d < d' := by rw [val4, val4]; omega
   rw [decide_eq_decide.mpr this]; rfl
 ·cases h
def bitI (b : Bool) : Int := match b with | true => 1 | false => 0
theorem fill_set {α : Type} {L : List α} {n k : Nat} {z x : α} (hl : L.length = n) (h : k < n) (hx : L[k]? = some x) : (L.take k ++ List.replicate (n - k) z).set k x = L.take (k + 1) ++ List.replicate (n - (k + 1)) z := by
 have e : n - k = (n - (k + 1)) + 1 := by omega
 rw [e, List.replicate_succ, List.set_append_right _ _ (by rw [List.length_take]; omega), List.length_take, Nat.min_eq_left (by omega), Nat.sub_self, List.take_succ_eq_append_getElem (by omega), List.append_assoc]
 have : L[k] = x := by rw [List.getElem?_eq_getElem (by omega)] at hx; exact smI hx
 rw [this]; rfl
noncomputable def rP (k : List Item) (s : St) : Tree Out := runK C11 Tryz.prog noLoops 400 k s
noncomputable def sP (xs ys : List Int) : St := ⟨enterT Tryz.f123 [ws xs, ws ys], []⟩
noncomputable def KP : List Item := leftT [] (rP [.code (cd Tryz.f123)] (sP [] []))
noncomputable def stP (xs ys out : List Int) (c i : Int) : St := ⟨slotsOf 40 [(2, pt 0), (3, pt 1), (4, pt 2), (6, pt 3), (7, one (.int false .u64 c)), (8, one (.int false .i64 i))], [.vals [.ws .u64 4 xs], .vals [.ws .u64 4 ys], .vals [.ws .u64 4 [0, 0, 0, 0]], .vals [.ws .u64 4 out]]⟩
theorem rp_a (xs ys : List Int) : pieceT [2, 3, 4, 6, 7, 8] [7, 8] [0, 1, 2, 3] [] (rP [.code (cd Tryz.f123)] (sP xs ys)) = some ([], KP, stP xs ys [0, 0, 0, 0] 0 (0 : Nat)) := by kernel_rfl
theorem rp_b (xs ys out : List Int) (c : Int) (i : Nat) (b1 b2 : Bool) : pieceT [2, 3, 4, 6, 7, 8] [7, 8] [0, 1, 2, 3] [true, true, true, true, b1, b2, true] (rP KP (stP xs ys out c i)) =
  some ([decide ((i : Int) < 4), decide (0 <= (i : Int) /\ (i : Int) < 4), decide (0 <= (i : Int) /\ (i : Int) < 4), decide (0 <= (i : Int) /\ (i : Int) < 4), decide (um (xs.getD i 0 + ys.getD i 0) < xs.getD i 0), decide (um (um (xs.getD i 0 + ys.getD i 0) + c) < um (xs.getD i 0 + ys.getD i 0)), decide (0 <= (i : Int) /\ (i : Int) < 4)],
   KP, stP xs ys (out.set i (um (um (xs.getD i 0 + ys.getD i 0) + c))) (bitI (b1 || b2)) (IntKind.i64.wrap ((i : Int) + 1))) := by
 cases b1 <;> cases b2 <;> kernel_rfl
theorem rp_c (xs ys out : List Int) (c : Int) (i : Nat) : endT Tryz.prog Tryz.f123 [] [false] (rP KP (stP xs ys out c i)) = some ([decide ((i : Int) < 4)], .tup [ws out, .c (.int false .u64 c)], []) := by kernel_rfl
theorem getR {xs : List Int} (h : okL xs) {i : Nat} (hi : i < 4) : R (xs.getD i 0) := by
 obtain ⟨a, b, c, d, rfl, ha, hb, hc, hd⟩ := okL_get h;have : i = 0 \/ i = 1 \/ i = 2 \/ i = 3 := by omega
 rcases this with rfl | rfl | rfl | rfl <;> assumption
theorem plus_dig {x y c : Int} (hx : R x) (hy : R y) (hc : 0 <= c /\ c <= 1) : um (um (x + y) + c) = (x + y + c) % 18446744073709551616 /\ bitI (decide (um (x + y) < x) || decide (um (um (x + y) + c) < um (x + y))) = (x + y + c) / 18446744073709551616 := by
 unfold um R at *;rw [wrapU, wrapU];refine ⟨by omega, ?_⟩
 by_cases h1 : (x + y) % 18446744073709551616 < x
 ·rw [deT h1]
  show (1 : Int) = _
  omega
 ·rw [deF h1, Bool.false_or];by_cases h2 : ((x + y) % 18446744073709551616 + c) % 18446744073709551616 < (x + y) % 18446744073709551616
  ·rw [deT h2]
   show (1 : Int) = _
   omega
  ·rw [deF h2]
   show (0 : Int) = _
   omega
theorem rplus_runs {xs ys : List Int} (hx : okL xs) (hy : okL ys) : Runs Tryz.prog C11 Tryz.f123 0 [.code (cd Tryz.f123)] (sP xs ys) (.tup [ws (addL xs ys), .c (.int false .u64 (cr xs ys 4))]) [] := by
 refine Runs.piece okC11 mx (rp_a xs ys) rfl (by rfl) ?_
 refine loopG (st := fun k (p : List Int × Int) => stP xs ys p.1 p.2 k) (I := fun k p => p.1 = (addL xs ys).take k ++ List.replicate (4 - k) 0 /\ p.2 = cr xs ys k) (n := 4) (fun k p hk hI => ?_) (fun p hI => ?_) 4 0 ([0, 0, 0, 0], 0) rfl ⟨rfl, rfl⟩
 ·obtain ⟨out, c⟩ := p;obtain ⟨rfl, rfl⟩ := hI;obtain ⟨d1, d2⟩ := plus_dig (getR hx hk) (getR hy hk) (cr_le hx hy k (by omega))
  refine ⟨(_, cr xs ys (k + 1)), ⟨(fill_set (x := (xs.getD k 0 + ys.getD k 0 + cr xs ys k) % 18446744073709551616) rfl hk (by
   have : k = 0 \/ k = 1 \/ k = 2 \/ k = 3 := by omega
   rcases this with rfl | rfl | rfl | rfl <;> rfl)), rfl⟩, fun hr => ?_⟩
  have hb := rp_b xs ys ((addL xs ys).take k ++ List.replicate (4 - k) 0) (cr xs ys k) k (decide (um (xs.getD k 0 + ys.getD k 0) < xs.getD k 0)) (decide (um (um (xs.getD k 0 + ys.getD k 0) + cr xs ys k) < um (xs.getD k 0 + ys.getD k 0)))
  rw [wsucc (by omega), d2, d1] at hb
  refine Runs.piece okC11 mx hb ?_ (by rfl) hr
  rw [deT (by omega), deT (by omega)]
 ·obtain ⟨out, c⟩ := p;obtain ⟨rfl, rfl⟩ := hI;exact Runs.last okC11 mx (rp_c xs ys _ (cr xs ys 4) 4) rfl (by rfl)
theorem ok_rplus : EntryOk Tryz.prog G0 123 Tplus := by
 refine EntryOk.runs (S := C11) (fn := Tryz.f123) (c := cd Tryz.f123) (by kernel_rfl) (by kernel_rfl) (by kernel_rfl) (fun vs hl r hl' ok h => ?_)
 unfold Tplus at h;split at h
 ·rename_i xs ys;obtain ⟨rfl, rfl⟩ := Prod.mk.inj (val_ret h);have hx : okL xs := ok.1.1
  have hy : okL ys := ok.2.1.1
  obtain ⟨e1, e2⟩ := addL_eq hx hy;rw [<- e1, <- e2];exact rplus_runs hx hy
 ·cases h
noncomputable def rM (k : List Item) (s : St) : Tree Out := runK C11 Tryz.prog noLoops 400 k s
noncomputable def sM (xs ys : List Int) : St := ⟨enterT Tryz.f126 [ws xs, ws ys], []⟩
noncomputable def KM : List Item := leftT [] (rM [.code (cd Tryz.f126)] (sM [] []))
noncomputable def stM (xs ys out : List Int) (c i : Int) : St := ⟨slotsOf 42 [(2, pt 0), (3, pt 1), (4, pt 2), (6, pt 3), (7, one (.int false .u64 c)), (8, one (.int false .i64 i))], [.vals [.ws .u64 4 xs], .vals [.ws .u64 4 ys], .vals [.ws .u64 4 [0, 0, 0, 0]], .vals [.ws .u64 4 out]]⟩
theorem rm_a (xs ys : List Int) : pieceT [2, 3, 4, 6, 7, 8] [7, 8] [0, 1, 2, 3] [] (rM [.code (cd Tryz.f126)] (sM xs ys)) = some ([], KM, stM xs ys [0, 0, 0, 0] 0 (0 : Nat)) := by kernel_rfl
theorem rm_b (xs ys out : List Int) (c : Int) (i : Nat) (b1 b2 : Bool) : pieceT [2, 3, 4, 6, 7, 8] [7, 8] [0, 1, 2, 3] [true, true, true, true, true, b1, b2, true] (rM KM (stM xs ys out c i)) =
  some ([decide ((i : Int) < 4), decide (0 <= (i : Int) /\ (i : Int) < 4), decide (0 <= (i : Int) /\ (i : Int) < 4), decide (0 <= (i : Int) /\ (i : Int) < 4), decide (0 <= (i : Int) /\ (i : Int) < 4), decide (xs.getD i 0 < ys.getD i 0), decide (um (xs.getD i 0 - ys.getD i 0) < c), decide (0 <= (i : Int) /\ (i : Int) < 4)],
   KM, stM xs ys (out.set i (um (um (xs.getD i 0 - ys.getD i 0) - c))) (bitI (b1 || b2)) (IntKind.i64.wrap ((i : Int) + 1))) := by
 cases b1 <;> cases b2 <;> kernel_rfl
theorem rm_c (xs ys out : List Int) (c : Int) (i : Nat) : endT Tryz.prog Tryz.f126 [] [false] (rM KM (stM xs ys out c i)) = some ([decide ((i : Int) < 4)], .tup [ws out, .c (.int false .u64 c)], []) := by kernel_rfl
theorem minus_dig {x y c : Int} (hx : R x) (hy : R y) (hc : 0 <= c /\ c <= 1) : um (um (x - y) - c) = (x - y - c) % 18446744073709551616 /\ bitI (decide (x < y) || decide (um (x - y) < c)) = if x < y + c then 1 else 0 := by
 unfold um R at *;rw [wrapU, wrapU];refine ⟨by omega, ?_⟩
 by_cases h1 : x < y
 ·rw [deT h1, if_pos (by omega)]; rfl
 ·rw [deF h1, Bool.false_or];by_cases h2 : (x - y) % 18446744073709551616 < c
  ·rw [deT h2, if_pos (by omega)]; rfl
  ·rw [deF h2, if_neg (by omega)]; rfl
theorem rminus_runs {xs ys : List Int} (hx : okL xs) (hy : okL ys) : Runs Tryz.prog C11 Tryz.f126 0 [.code (cd Tryz.f126)] (sM xs ys) (.tup [ws (subL xs ys), .c (.int false .u64 (bw xs ys 4))]) [] := by
 refine Runs.piece okC11 mx (rm_a xs ys) rfl (by rfl) ?_
 refine loopG (st := fun k (p : List Int × Int) => stM xs ys p.1 p.2 k) (I := fun k p => p.1 = (subL xs ys).take k ++ List.replicate (4 - k) 0 /\ p.2 = bw xs ys k) (n := 4) (fun k p hk hI => ?_) (fun p hI => ?_) 4 0 ([0, 0, 0, 0], 0) rfl ⟨rfl, rfl⟩
 ·obtain ⟨out, c⟩ := p;obtain ⟨rfl, rfl⟩ := hI;obtain ⟨d1, d2⟩ := minus_dig (getR hx hk) (getR hy hk) (bw_le (xs := xs) (ys := ys) k);refine ⟨(_, bw xs ys (k + 1)), ⟨(fill_set (x := (xs.getD k 0 - ys.getD k 0 - bw xs ys k) % 18446744073709551616) rfl hk (by
   have : k = 0 \/ k = 1 \/ k = 2 \/ k = 3 := by omega
   rcases this with rfl | rfl | rfl | rfl <;> rfl)), rfl⟩, fun hr => ?_⟩
  have hb := rm_b xs ys ((subL xs ys).take k ++ List.replicate (4 - k) 0) (bw xs ys k) k (decide (xs.getD k 0 < ys.getD k 0)) (decide (um (xs.getD k 0 - ys.getD k 0) < bw xs ys k))
  rw [wsucc (by omega), d2, d1] at hb
  refine Runs.piece okC11 mx hb ?_ (by rfl) hr
  rw [deT (by omega), deT (by omega)]
 ·obtain ⟨out, c⟩ := p;obtain ⟨rfl, rfl⟩ := hI;exact Runs.last okC11 mx (rm_c xs ys _ (bw xs ys 4) 4) rfl (by rfl)
theorem ok_rminus : EntryOk Tryz.prog G0 126 Tminus := by
 refine EntryOk.runs (S := C11) (fn := Tryz.f126) (c := cd Tryz.f126) (by kernel_rfl) (by kernel_rfl) (by kernel_rfl) (fun vs hl r hl' ok h => ?_)
 unfold Tminus at h;split at h
 ·rename_i xs ys;obtain ⟨rfl, rfl⟩ := Prod.mk.inj (val_ret h);have hx : okL xs := ok.1.1
  have hy : okL ys := ok.2.1.1
  obtain ⟨e1, e2⟩ := subL_eq hx hy;rw [<- e1, <- e2];exact rminus_runs hx hy
 ·cases h
noncomputable def D1 : Tab := (((C11.put 125 0 Trl).put 124 0 Tbelow).put 123 0 Tplus).put 126 0 Tminus
theorem okD1 : SpecOk Tryz.prog D1 := (((okC11.put ok_rl).put ok_rbelow).put ok_rplus).put ok_rminus
def shr (x : Int) (k : Nat) : Int := Int.fdiv x (2 ^ k)
def slo (a b c d w : Int) : List Int :=
 [bor (um (a * 2 ^ 16)) w, bor (um (b * 2 ^ 16)) (shr a 48), bor (um (c * 2 ^ 16)) (shr b 48), band (bor (um (d * 2 ^ 16)) (shr c 48)) 1152921504606846975]
def pcs : List Int := [band 6346243789798364141 4294967295, shr 6346243789798364141 32, band 1503914060200516822 4294967295, shr 1503914060200516822 32]
def pcc (q : Int) : Nat -> Int
 | 0 => 0
 | n + 1 => shr (um (um (pcs.getD n 0 * q) + pcc q n)) 32
def pco (q : Int) (n : Nat) : Int := band (um (um (pcs.getD n 0 * q) + pcc q n)) 4294967295
def sqc (q : Int) : List Int := [bor (pco q 0) (um (pco q 1 * 2 ^ 32)), bor (pco q 2) (um (pco q 3 * 2 ^ 32)), pcc q 4, 0]
def sd (a b c d w : Int) : List Int := limbs (val (slo a b c d w) - val (sqc (shr d 44)))
def sd2 (a b c d w : Int) : List Int := limbs (val (sd a b c d w) + val tab0)
def sun (a b c d w : Int) : Bool := (if val (slo a b c d w) < val (sqc (shr d 44)) then (1 : Int) else 0) == 1
theorem step_1 (a b c d w : Int) : (bodyT D1 Tryz.prog allLoops Tryz.f122 (cd Tryz.f122) [ws [a, b, c, d], .c (.int false .u64 w)] []).path [true, false] =
  some ([sun a b c d w, !decide (val (sd2 a b c d w) < val tab0)], .one (ws (sd2 a b c d w)), []) := by kernel_rfl
theorem step_2 (a b c d w : Int) : (bodyT D1 Tryz.prog allLoops Tryz.f122 (cd Tryz.f122) [ws [a, b, c, d], .c (.int false .u64 w)] []).path [false, false] =
  some ([sun a b c d w, !decide (val (sd a b c d w) < val tab0)], .one (ws (sd a b c d w)), []) := by kernel_rfl
theorem shr_eq (x : Int) (k : Nat) : shr x k = x / (2 ^ k : Nat) := by
 unfold shr;have : (2 : Int) ^ k = ((2 ^ k : Nat) : Int) := by simp
 rw [this, fdiv_pos]
theorem shl_or {x y : Int} (hx : R x) (hy : 0 <= y /\ y < 65536) : bor (um (x * 2 ^ 16)) y = x * 65536 % 18446744073709551616 + y := by
 have e : um (x * 2 ^ 16) = x * 65536 % 18446744073709551616 := by unfold um; rw [wrapU]; rfl
 rw [e];have := (bor_add (a := y) (b := x * 65536 % 18446744073709551616) 16 (by decide) hy (by unfold R; omega) (by show (x * 65536 % 18446744073709551616) % 65536 = 0; omega)).2
 rw [this]; omega
theorem val_slo {a b c d w : Int} (ha : R a) (hb : R b) (hc : R c) (hd : R d) (hd2 : d <= 1152921504606846976) (hw : 0 <= w /\ w < 65536) :
  val (slo a b c d w) = val [a, b, c, d] * 65536 + w - 7237005577332262213973186563042994240829374041602535252466099000494570602496 * (d / 17592186044416) /\ 0 <= val (slo a b c d w) /\ val (slo a b c d w) < 7237005577332262213973186563042994240829374041602535252466099000494570602496 := by
 unfold R at ha hb hc hd;have e0 : shr a 48 = a / 281474976710656 := shr_eq a 48
 have e1 : shr b 48 = b / 281474976710656 := shr_eq b 48
 have e2 : shr c 48 = c / 281474976710656 := shr_eq c 48
 have l3 : band (d * 65536 % 18446744073709551616 + c / 281474976710656) 1152921504606846975 = (d * 65536 % 18446744073709551616 + c / 281474976710656) % 1152921504606846976 := band_mask (by unfold R; omega) 60 (by decide)
 unfold slo;rw [e0, e1, e2, shl_or ha hw, shl_or hb (by omega), shl_or hc (by omega), shl_or hd (by omega), l3, val4, val4]
 omega
theorem pc_step {p q c : Int} (hp : 0 <= p /\ p <= 4294967295) (hq : 0 <= q /\ q <= 131072) (hc : 0 <= c /\ c <= 4294967295) (hpq : 0 <= p * q /\ p * q <= 562949953421312) :
  band (um (um (p * q) + c)) 4294967295 = (p * q + c) % 4294967296 /\ shr (um (um (p * q) + c)) 32 = (p * q + c) / 4294967296 := by
 have e : um (um (p * q) + c) = p * q + c := by unfold um; rw [wrapU, wrapU]; omega
 rw [e];exact ⟨band_mask (by unfold R; omega) 32 (by decide), shr_eq _ 32⟩
theorem or32 {x y : Int} (hx : 0 <= x /\ x <= 4294967295) (hy : 0 <= y /\ y <= 4294967295) : bor x (um (y * 2 ^ 32)) = x + y * 4294967296 := by
 have e : um (y * 2 ^ 32) = y * 4294967296 := by
  unfold um; rw [wrapU]
  show y * 4294967296 % 18446744073709551616 = _
  omega
 rw [e];exact (bor_add (a := x) (b := y * 4294967296) 32 (by decide) (by show 0 <= x /\ x < 4294967296; omega) (by unfold R; omega) (by show y * 4294967296 % 4294967296 = 0; omega)).1
theorem val_sqc {q : Int} (hq : 0 <= q /\ q <= 131072) : val (sqc q) = q * 27742317777372353535851937790883648493 := by
 have c1 : pcc q 1 = shr (um (um (1559614445 * q) + 0)) 32 := rfl
 have c2 : pcc q 2 = shr (um (um (1477600026 * q) + pcc q 1)) 32 := rfl
 have c3 : pcc q 3 = shr (um (um (2734136534 * q) + pcc q 2)) 32 := rfl
 have c4 : pcc q 4 = shr (um (um (350157278 * q) + pcc q 3)) 32 := rfl
 have o0 : pco q 0 = band (um (um (1559614445 * q) + 0)) 4294967295 := rfl
 have o1 : pco q 1 = band (um (um (1477600026 * q) + pcc q 1)) 4294967295 := rfl
 have o2 : pco q 2 = band (um (um (2734136534 * q) + pcc q 2)) 4294967295 := rfl
 have o3 : pco q 3 = band (um (um (350157278 * q) + pcc q 3)) 4294967295 := rfl
 obtain ⟨s0, t0⟩ := pc_step (p := 1559614445) (c := 0) (by omega) hq (by omega) (by omega)
 rw [t0] at c1;rw [s0] at o0;have b1 : 0 <= pcc q 1 /\ pcc q 1 <= 4294967295 := by omega
 obtain ⟨s1, t1⟩ := pc_step (p := 1477600026) (c := pcc q 1) (by omega) hq b1 (by omega)
 rw [t1] at c2;rw [s1] at o1;have b2 : 0 <= pcc q 2 /\ pcc q 2 <= 4294967295 := by omega
 obtain ⟨s2, t2⟩ := pc_step (p := 2734136534) (c := pcc q 2) (by omega) hq b2 (by omega)
 rw [t2] at c3;rw [s2] at o2;have b3 : 0 <= pcc q 3 /\ pcc q 3 <= 4294967295 := by omega
 obtain ⟨s3, t3⟩ := pc_step (p := 350157278) (c := pcc q 3) (by omega) hq b3 (by omega)
 rw [t3] at c4;rw [s3] at o3;clear s0 t0 s1 t1 s2 t2 s3 t3;unfold sqc;rw [or32 (by omega) (by omega), or32 (by omega) (by omega), val4]
 omega
theorem step_bound {a b c d : Int} (ha : R a) (hb : R b) (hc : R c) (hd : R d) (h : val [a, b, c, d] < ell) : d <= 1152921504606846976 := by
 rw [val4] at h;unfold R ell at *;omega
theorem step_low {L C : Int} (hL : 0 <= L /\ L < 7237005577332262213973186563042994240829374041602535252466099000494570602496) (hC : 0 <= C /\ C < 5575186299632655785383929568162090376495104) (h : L < C) : val (limbs (val (limbs (L - C)) + ell)) = L - C + ell /\ L - C + ell < ell /\ 0 <= L - C + ell /\
  limbs (val (limbs (L - C)) + ell) = limbs (L - C + ell) := by
 have e2 : limbs (val (limbs (L - C)) + ell) = limbs (L - C + ell) := by
  rw [val_limbs'];unfold limbs;unfold ell at *
  congr 1
  ·omega
  congr 1
  ·omega
  congr 1
  ·omega
  congr 1
  omega
 refine ⟨?_, by omega, by unfold ell; omega, e2⟩
 rw [e2, val_limbs];unfold ell;omega
def Tstep (vs : List V1) (hl : Heap) : Tree (SV × Heap) :=
 match vs, hl with
 | [.g [.ws .u64 4 xs], .c (.int _ .u64 w)], [] => Tree.chk (decide (val xs < ell /\ w < 65536)) (.ret (.one (ws (limbs ((val xs * 65536 + w) % ell))), []))
 | _, _ => .fail
theorem step_mod {V w L C q : Int} (h1 : L = V * 65536 + w - 7237005577332262213973186563042994240829374041602535252466099000494570602496 * q) (h2 : C = q * 27742317777372353535851937790883648493) : V * 65536 + w = (L - C) + q * ell := by
 unfold ell; omega
theorem ok_rstep : EntryOk Tryz.prog G0 122 Tstep := by
 refine EntryOk.sub (bodyT_ok okD1 mx (un := allLoops) (fn := Tryz.f122) (c := cd Tryz.f122) (by kernel_rfl) (by kernel_rfl) (by kernel_rfl)).unlit (fun vs hl r ok h => ?_)
 unfold Tstep at h;split at h
 ·rename_i xs l w;obtain ⟨h1, h2⟩ := val_chk h;obtain ⟨hv, hw⟩ := ofD h1;obtain rfl := val_ret h2;have hw0 : R w := inU.mp ok.2.1
  obtain ⟨a, b, c, d, rfl, ha, hb, hc, hd⟩ := okL_get (show okL xs from ok.1.1)
  have hd2 := step_bound ha hb hc hd hv
  obtain ⟨v1, v2, v3⟩ := val_slo ha hb hc hd hd2 ⟨hw0.1, hw⟩;have eq : shr d 44 = d / 17592186044416 := shr_eq d 44
  have hq : 0 <= d / 17592186044416 /\ d / 17592186044416 <= 131072 := by omega
  have v4 := val_sqc hq
  have hC : 0 <= val (sqc (d / 17592186044416)) /\ val (sqc (d / 17592186044416)) < 5575186299632655785383929568162090376495104 := by rw [v4]; omega
  have hm := step_mod v1 v4
  by_cases hlt : val (slo a b c d w) < val (sqc (d / 17592186044416))
  ·have hp := step_1 a b c d w
   obtain ⟨s1, s2, s3, s4⟩ := step_low ⟨v2, v3⟩ hC hlt;have e1 : sun a b c d w = true := by unfold sun; rw [eq, if_pos hlt]; rfl
   have e2 : sd2 a b c d w = limbs (val (slo a b c d w) - val (sqc (d / 17592186044416)) + ell) := by unfold sd2 sd; rw [eq, val_tab0, s4]
   have e3 : (val [a, b, c, d] * 65536 + w) % ell = val (slo a b c d w) - val (sqc (d / 17592186044416)) + ell := by
    rw [hm, Int.add_mul_emod_self_right];unfold ell at *; omega
   rw [e1, e2, val_tab0, val_limbs (by unfold ell at *; omega), deT s2, <- e3] at hp
   exact Tree.path_val hp
  ·have hp := step_2 a b c d w
   have e1 : sun a b c d w = false := by unfold sun; rw [eq, if_neg hlt]; rfl
   have e2 : sd a b c d w = limbs (val (slo a b c d w) - val (sqc (d / 17592186044416))) := by unfold sd; rw [eq]
   have hlt2 : val (slo a b c d w) - val (sqc (d / 17592186044416)) < ell := by unfold ell; omega
   have e3 : (val [a, b, c, d] * 65536 + w) % ell = val (slo a b c d w) - val (sqc (d / 17592186044416)) := by
    rw [hm, Int.add_mul_emod_self_right];unfold ell at *; omega
   rw [e1, e2, val_tab0, val_limbs (by unfold ell at *; omega), deT hlt2, <- e3] at hp
   exact Tree.path_val hp
 ·cases h
noncomputable def D2 : Tab := D1.put 122 0 Tstep
theorem okD2 : SpecOk Tryz.prog D2 := okD1.put ok_rstep
abbrev W1 : DTy := .int .u64
def Twords (vs : List V1) (hl : Heap) : Tree (SV × Heap) :=
 match vs, hl with
 | [.c (.ro (.int .u64) wl n)], [] => Tree.chk (decide (n = List.length wl /\ n <= 1048576 /\ ∀ w ∈ (show List Int from wl), w < 65536)) (.ret (.one (ws (limbs (dg 65536 wl % ell))), []))
 | _, _ => .fail
noncomputable def rW (k : List Item) (s : St) : Tree Out := runK D2 Tryz.prog noLoops 400 k s
noncomputable def sW (wl : List Int) (n : Nat) : St := ⟨enterT Tryz.f128 [.c (.ro W1 wl n)], []⟩
noncomputable def KW : List Item := leftT [] (rW [.code (cd Tryz.f128)] (sW [] 0))
noncomputable def stW (wl : List Int) (n : Nat) (r : List Int) (i : Int) : St := ⟨slotsOf 19 [(0, one (.ro W1 wl n)), (2, pt 0), (3, pt 1), (4, one (.int false .i64 i))], [.vals [.ws .u64 4 [0, 0, 0, 0]], .vals [.ws .u64 4 r]]⟩
theorem w_a (wl : List Int) (n : Nat) : pieceT [0, 2, 3, 4] [4] [0, 1] [] (rW [.code (cd Tryz.f128)] (sW wl n)) = some ([], KW, stW wl n [0, 0, 0, 0] (IntKind.i64.wrap ((n : Int) - 1))) := by kernel_rfl
theorem w_b (wl : List Int) (n : Nat) (r : List Int) (i : Int) : pieceT [0, 2, 3, 4] [4] [0, 1] [true, true, true] (rW KW (stW wl n r i)) =
  some ([decide (i >= 0), decide (0 <= i /\ i < (n : Int)), decide (val r < ell /\ wl.getD i.toNat 0 < 65536)], KW, stW wl n (limbs ((val r * 65536 + wl.getD i.toNat 0) % ell)) (IntKind.i64.wrap (i - 1))) := by kernel_rfl
theorem w_c (wl : List Int) (n : Nat) (r : List Int) (i : Int) : endT Tryz.prog Tryz.f128 [] [false] (rW KW (stW wl n r i)) = some ([decide (i >= 0)], .one (ws r), []) := by kernel_rfl
theorem add_mod_mul (x b w : Int) : (x % ell * b + w) % ell = (x * b + w) % ell := by
 rw [Int.add_emod, emod_mul, <- Int.add_emod]
theorem words_runs {wl : List Int} {n : Nat} (hn : n = wl.length) (hb : n <= 1048576) (hw : ∀ w ∈ wl, w < 65536) : Runs Tryz.prog D2 Tryz.f128 0 [.code (cd Tryz.f128)] (sW wl n) (.one (ws (limbs (dg 65536 wl % ell)))) [] := by
 have ha := w_a wl n
 rw [wrap64 (by omega)] at ha
 refine Runs.piece okD2 mx ha rfl (by rfl) ?_
 have h0 : stW wl n [0, 0, 0, 0] ((n : Int) - 1) = stW wl n [0, 0, 0, 0] ((n : Int) - 1 - (0 : Nat)) := by rw [show ((n : Int) - 1 - (0 : Nat)) = (n : Int) - 1 from by omega]
 rw [h0];refine loopG (st := fun k (r : List Int) => stW wl n r ((n : Int) - 1 - k)) (I := fun k r => r = limbs (dg 65536 (wl.drop (n - k)) % ell)) (n := n) (fun k r hk hI => ?_) (fun r hI => ?_) n 0 [0, 0, 0, 0] (by omega) ?_
 ·subst hI;have hb2 := w_b wl n (limbs (dg 65536 (wl.drop (n - k)) % ell)) ((n : Int) - 1 - k)
  have ei : ((n : Int) - 1 - k).toNat = n - 1 - k := by omega
  have hlt : n - 1 - k < wl.length := by omega
  have hg : wl.getD (n - 1 - k) 0 = wl[n - 1 - k] := by rw [List.getD_eq_getElem?_getD, List.getElem?_eq_getElem hlt]; rfl
  have hww : wl.getD (n - 1 - k) 0 < 65536 := by rw [hg]; exact hw _ (List.getElem_mem hlt)
  have hd : wl.drop (n - (k + 1)) = wl.getD (n - 1 - k) 0 :: wl.drop (n - k) := by
   rw [show n - (k + 1) = n - 1 - k from by omega, List.drop_eq_getElem_cons hlt, hg, show n - 1 - k + 1 = n - k from by omega]
  refine ⟨_, rfl, fun hr => ?_⟩
  have e : (dg 65536 (wl.drop (n - k)) % ell * 65536 + wl.getD (n - 1 - k) 0) % ell = dg 65536 (wl.drop (n - (k + 1))) % ell := by
   rw [add_mod_mul, hd]
   show _ = (wl.getD (n - 1 - k) 0 + 65536 * dg 65536 (wl.drop (n - k))) % ell
   rw [Int.add_comm, Int.mul_comm]
  rw [ei, val_mod, deT (by omega), deT (by omega), deT ⟨(mod_bound _).2, hww⟩, e, wrap64 (by omega), show (n : Int) - 1 - k - 1 = (n : Int) - 1 - (k + 1 : Nat) from by omega] at hb2
  exact Runs.piece okD2 mx hb2 rfl (by rfl) hr
 ·subst hI;have hc := w_c wl n (limbs (dg 65536 (wl.drop (n - n)) % ell)) ((n : Int) - 1 - n)
  rw [Nat.sub_self, List.drop_zero] at hc ⊢;exact Runs.last okD2 mx hc (by rw [deF (by omega)]) (by rfl)
 ·rw [Nat.sub_zero, hn, List.drop_length]; rfl
theorem ok_rwords : EntryOk Tryz.prog G0 128 Twords := by
 refine EntryOk.runs (S := D2) (fn := Tryz.f128) (c := cd Tryz.f128) (by kernel_rfl) (by kernel_rfl) (by kernel_rfl) (fun vs hl r hl' ok h => ?_)
 unfold Twords at h;split at h
 ·obtain ⟨h1, h2⟩ := val_chk h;obtain ⟨e1, e2, e3⟩ := ofD h1;obtain ⟨rfl, rfl⟩ := Prod.mk.inj (val_ret h2);exact words_runs e1 e2 e3
 ·cases h
noncomputable def D3 : Tab := D2.put 128 0 Twords
theorem okD3 : SpecOk Tryz.prog D3 := okD2.put ok_rwords
def w4 (a : Int) : List Int := [band a 65535, band (shr a 16) 65535, band (shr a 32) 65535, shr a 48]
def w16 (a b c d : Int) : List Int := w4 a ++ w4 b ++ w4 c ++ w4 d
theorem rLeast_b (a b c d : Int) : (bodyT D3 Tryz.prog allLoops Tryz.f74 (cd Tryz.f74) [ws [a, b, c, d]] []).path [true, true, true, true, true] =
  some ([true, true, true, true, decide (16 = (w16 a b c d).length /\ 16 <= 1048576 /\ ∀ w ∈ w16 a b c d, w < 65536)], .one (ws (limbs (dg 65536 (w16 a b c d) % ell))), []) := by kernel_rfl
theorem w4_eq {a : Int} (h : R a) : w4 a = [a % 65536, a / 65536 % 65536, a / 4294967296 % 65536, a / 281474976710656] := by
 have hk : ∀ {x : Int}, R x -> band x 65535 = x % 65536 := fun h => band_mask h 16 (by decide)
 have h1 : shr a 16 = a / 65536 := shr_eq a 16
 have h2 : shr a 32 = a / 4294967296 := shr_eq a 32
 have h3 : shr a 48 = a / 281474976710656 := shr_eq a 48
 unfold w4;rw [h1, h2, h3, hk h, hk (by unfold R at *; omega), hk (by unfold R at *; omega)]
theorem w4_dg {a : Int} (h : R a) : dg 65536 (w4 a) = a /\ (∀ w ∈ w4 a, w < 65536) := by
 rw [w4_eq h];unfold R at h;constructor
 ·simp only [dg]; omega
 ·intro w hw;simp only [List.mem_cons, List.not_mem_nil, or_false] at hw;rcases hw with rfl | rfl | rfl | rfl <;> omega
theorem w16_dg {a b c d : Int} (ha : R a) (hb : R b) (hc : R c) (hd : R d) : dg 65536 (w16 a b c d) = val [a, b, c, d] /\ ∀ w ∈ w16 a b c d, w < 65536 := by
 obtain ⟨a1, a2⟩ := w4_dg ha;obtain ⟨b1, b2⟩ := w4_dg hb;obtain ⟨c1, c2⟩ := w4_dg hc;obtain ⟨d1, d2⟩ := w4_dg hd;unfold w16;constructor
 ·rw [dg_append, dg_append, dg_append, a1, b1, c1, d1];simp only [List.length_append];rw [show (w4 a).length = 4 from rfl, show (w4 b).length = 4 from rfl, show (w4 c).length = 4 from rfl, val4]
  have p4 : (65536 : Int) ^ 4 = 18446744073709551616 := by decide
  have p8 : (65536 : Int) ^ (4 + 4) = 340282366920938463463374607431768211456 := by decide
  have p12 : (65536 : Int) ^ (4 + 4 + 4) = 6277101735386680763835789423207666416102355444464034512896 := by decide
  rw [p4, p8, p12]
 ·intro w hw;rw [List.mem_append, List.mem_append, List.mem_append] at hw;rcases hw with ((h | h) | h) | h
  ·exact a2 w h
  ·exact b2 w h
  ·exact c2 w h
  ·exact d2 w h
theorem ok_rLeast : EntryOk Tryz.prog G0 74 TLeast := by
 refine EntryOk.sub (bodyT_ok okD3 mx (un := allLoops) (fn := Tryz.f74) (c := cd Tryz.f74) (by kernel_rfl) (by kernel_rfl) (by kernel_rfl)) (fun vs hl r ok h => ?_)
 unfold TLeast at h;split at h
 ·rename_i xs;obtain rfl := val_ret h;obtain ⟨a, b, c, d, rfl, ha, hb, hc, hd⟩ := okL_get (show okL xs from ok.1.1)
  have hp := rLeast_b a b c d
  obtain ⟨e1, e2⟩ := w16_dg ha hb hc hd;rw [deT ⟨rfl, by decide, e2⟩, e1] at hp
  exact Tree.path_val hp
 ·cases h
noncomputable def D4 : Tab := (D3.put 74 0 TLeast)
theorem okD4 : SpecOk Tryz.prog D4 := (okD3.put ok_rLeast)
theorem room_ok {n b : Nat} (h : n * b <= 140737488355328) : SX.room n b = true := deT h
theorem roomS {n : Nat} (h : n <= 1048576) : (SX.room n (Tryz.prog.bytesOf 26) && SX.room n 1) = true := by
 rw [bytes_S, room_ok (by omega), room_ok (by omega)]; rfl
section
variable {xs : List Int} {len : Nat} {n : Nat}
end
noncomputable def D5 : Tab := D4
theorem okD5 : SpecOk Tryz.prog D5 := okD4
end Go.Sc
