/- Contracts of parameters and bounds, part 1. -/
import Derived.Test.YtdblbibjggeikaaGreatDoorD5
set_option linter.unusedSectionVars false
set_option linter.unusedVariables false
set_option linter.unusedSimpArgs false
namespace Go.Sc
open Go Go.SX Go.Proofs
variable [Level]
def iw (x : Int) : Int := IntKind.i64.wrap x
def wnd (w : Int) : Int := iw (iw (Int.tdiv (iw (iw (256 + w) - 1)) w) + 1)
def mst (n w : Int) : Int := iw (wnd w * iw (iw (iw (n + iw (2 * 2 ^ (min w.toNat 64))) + w) + 1))
def Twindows (vs : List V1) (hl : Heap) : Tree (SV × Heap) :=
 match vs, hl with
 | [.c (.int _ .i64 w)], [] => Tree.chk (decide (1 <= w)) (.ret (.one (.c (.int false .i64 (wnd w))), []))
 | _, _ => .fail
theorem win_b (w : Int) : (bodyT D11 Tryz.prog allLoops Tryz.f229 (cd Tryz.f229) [.c (.int false .i64 w)] []).path [true] = some ([decide (w ≠ 0)], .one (.c (.int false .i64 (wnd w))), []) := by kernel_rfl
theorem ok_windows : EntryOk Tryz.prog G0 229 Twindows := by
 refine EntryOk.sub (bodyT_ok okD11 mx (un := allLoops) (fn := Tryz.f229) (c := cd Tryz.f229) (by kernel_rfl) (by kernel_rfl) (by kernel_rfl)).unlit (fun vs hl r ok h => ?_)
 unfold Twindows at h;split at h
 ·rename_i l w;obtain ⟨h1, h2⟩ := val_chk h;obtain rfl := val_ret h2;have := of_decide_eq_true h1
  have hp := win_b w
  rw [decide_eq_true (by omega)] at hp
  exact Tree.path_val hp
 ·cases h
noncomputable def E1 : Tab := (D11.put 229 0 Twindows)
theorem okE1 : SpecOk Tryz.prog E1 := (okD11.put ok_windows)
def Tmost (vs : List V1) (hl : Heap) : Tree (SV × Heap) :=
 match vs, hl with
 | [.c (.int _ .i64 n), .c (.int _ .i64 w)], [] => Tree.chk (decide (1 <= w)) (.ret (.one (.c (.int false .i64 (mst n w))), []))
 | _, _ => .fail
theorem most_b (n w : Int) : (bodyT E1 Tryz.prog allLoops Tryz.f202 (cd Tryz.f202) [.c (.int false .i64 n), .c (.int false .i64 w)] []).path [true, true] = some ([decide (1 <= w), decide (0 <= w)], .one (.c (.int false .i64 (mst n w))), []) := by kernel_rfl
theorem ok_most : EntryOk Tryz.prog G0 202 Tmost := by
 refine EntryOk.sub (bodyT_ok okE1 mx (un := allLoops) (fn := Tryz.f202) (c := cd Tryz.f202) (by kernel_rfl) (by kernel_rfl) (by kernel_rfl)).unlit (fun vs hl r ok h => ?_)
 unfold Tmost at h;split at h
 ·rename_i l n l' w;obtain ⟨h1, h2⟩ := val_chk h;obtain rfl := val_ret h2;have := of_decide_eq_true h1
  have hp := most_b n w
  rw [h1, decide_eq_true (by omega)] at hp
  exact Tree.path_val hp
 ·cases h
noncomputable def E2 : Tab := (E1.put 202 0 Tmost)
theorem okE2 : SpecOk Tryz.prog E2 := (okE1.put ok_most)
def sui (n : Int) : Nat -> Int
 | 0 => 1
 | k + 1 => if mst n (k + 2 : Nat) < mst n (sui n k) then (k + 2 : Nat) else sui n k
def lea (n : Int) : Nat -> Int
 | 0 => mst n 1
 | k + 1 => if mst n (k + 2 : Nat) < lea n k then mst n (k + 2 : Nat) else lea n k
theorem sui_pos (n : Int) : ∀ k, 1 <= sui n k /\ sui n k <= k + 1
 | 0 => ⟨Int.le_refl _, by show (1 : Int) <= _; omega⟩
 | k + 1 => by
  have := sui_pos n k
  unfold sui;split <;> omega
def Tsuits (vs : List V1) (hl : Heap) : Tree (SV × Heap) :=
 match vs, hl with
 | [.c (.int _ .i64 n)], [] => .ret (.one (.c (.int false .i64 (sui n 11))), [])
 | _, _ => .fail
noncomputable def rA (k : List Item) (s : St) : Tree Out := runK E2 Tryz.prog noLoops 400 k s
noncomputable def sA (n : Int) : St := ⟨enterT Tryz.f200 [.c (.int false .i64 n)], []⟩
noncomputable def KA : List Item := leftT [] (rA [.code (cd Tryz.f200)] (sA 0))
noncomputable def stA (n b w : Int) : St := ⟨slotsOf 18 [(0, one (.int false .i64 n)), (3, one (.int false .i64 b)), (4, one (.int false .i64 w))], []⟩
theorem a_a (n : Int) : pieceT [0, 3, 4] [3, 4] [] [] (rA [.code (cd Tryz.f200)] (sA n)) = some ([], KA, stA n 1 2) := by kernel_rfl
theorem a_b (n b w : Int) : pieceT [0, 3, 4] [3, 4] [] [true, true, true, true] (rA KA (stA n b w)) = some ([decide (w <= 12), decide (1 <= w), decide (1 <= b), decide (mst n w < mst n b)], KA, stA n w (iw (w + 1))) := by kernel_rfl
theorem a_c (n b w : Int) : pieceT [0, 3, 4] [3, 4] [] [true, true, true, false] (rA KA (stA n b w)) = some ([decide (w <= 12), decide (1 <= w), decide (1 <= b), decide (mst n w < mst n b)], KA, stA n b (iw (w + 1))) := by kernel_rfl
theorem a_d (n b w : Int) : endT Tryz.prog Tryz.f200 [] [false] (rA KA (stA n b w)) = some ([decide (w <= 12)], .one (.c (.int false .i64 b)), []) := by kernel_rfl
theorem iwk {k : Nat} (h : k < 1099511627776) : iw ((k : Int) + 1) = ((k + 1 : Nat) : Int) := wsucc h
theorem suits_runs (n : Int) : Runs Tryz.prog E2 Tryz.f200 0 [.code (cd Tryz.f200)] (sA n) (.one (.c (.int false .i64 (sui n 11)))) [] := by
 refine Runs.piece okE2 mx (a_a n) rfl (by rfl) ?_
 refine loopG (st := fun k (b : Int) => stA n b ((k + 2 : Nat) : Int)) (I := fun k b => b = sui n k) (n := 11) (fun k b hk hI => ?_) (fun b hI => ?_) 11 0 1 rfl rfl
 ·subst hI;have hp := sui_pos n k
  by_cases hlt : mst n (k + 2 : Nat) < mst n (sui n k)
  ·refine ⟨((k + 2 : Nat) : Int), by show _ = if _ then _ else _; rw [if_pos hlt], fun hr => ?_⟩
   have hb := a_b n (sui n k) (k + 2 : Nat)
   rw [iwk (by omega), decide_eq_true (by omega), decide_eq_true (by omega), decide_eq_true hp.1, decide_eq_true hlt] at hb
   exact Runs.piece okE2 mx hb rfl (by rfl) hr
  ·refine ⟨sui n k, by show _ = if _ then _ else _; rw [if_neg hlt], fun hr => ?_⟩
   have hb := a_c n (sui n k) (k + 2 : Nat)
   rw [iwk (by omega), decide_eq_true (by omega), decide_eq_true (by omega), decide_eq_true hp.1, decide_eq_false hlt] at hb
   exact Runs.piece okE2 mx hb rfl (by rfl) hr
 ·have hI : b = sui n 11 := hI
  rw [<- hI];exact Runs.last okE2 mx (a_d n b ((11 + 2 : Nat) : Int)) (by rw [decide_eq_false (by omega)]) (by rfl)
theorem ok_suits : EntryOk Tryz.prog G0 200 Tsuits := by
 refine EntryOk.runs (S := E2) (fn := Tryz.f200) (c := cd Tryz.f200) (by kernel_rfl) (by kernel_rfl) (by kernel_rfl) (fun vs hl r hl' ok h => ?_)
 unfold Tsuits at h;split at h
 ·rename_i l n;obtain ⟨rfl, rfl⟩ := Prod.mk.inj (val_ret h);exact lit_int [0] (suits_runs n) (by kernel_rfl)
 ·cases h
noncomputable def E3 : Tab := E2.put 200 0 Tsuits
theorem okE3 : SpecOk Tryz.prog E3 := okE2.put ok_suits
def bnd (n : Int) : Int := if n < 0 \/ 8192 < n then 0 else lea n 11
noncomputable def E4 : Tab := (E3)
theorem okE4 : SpecOk Tryz.prog E4 := (okE3)
def pr (b c : Int) : V1 := .g [.c (.int false .i64 b), .c (.int false .i64 c)]
def iand (x y : Int) : Int := IntKind.i64.wrap ((BitVec.ofInt 64 x &&& BitVec.ofInt 64 y).toNat : Int)
def p2 (x m : Int) : Bool := decide (1 <= x) && (decide (x <= m) && (iand x (iw (x - 1)) == 0))
def alw (b c : Int) : Bool := p2 b 64 && p2 c 16
theorem al_1 (b c : Int) : (bodyT E4 Tryz.prog allLoops Tryz.f53 (cd Tryz.f53) [pr b c] []).path [false] = some ([decide (b >= 1) == true], .one (.c (.bool true false)), []) := by kernel_rfl
theorem al_2 (b c : Int) : (bodyT E4 Tryz.prog allLoops Tryz.f53 (cd Tryz.f53) [pr b c] []).path [true, false] = some ([decide (b >= 1) == true, decide (b <= 64) == true], .one (.c (.bool true false)), []) := by kernel_rfl
theorem al_3 (b c : Int) : (bodyT E4 Tryz.prog allLoops Tryz.f53 (cd Tryz.f53) [pr b c] []).path [true, true, false] = some ([decide (b >= 1) == true, decide (b <= 64) == true, (iand b (iw (b - 1)) == 0) == true], .one (.c (.bool true false)), []) := by kernel_rfl
theorem al_4 (b c : Int) : (bodyT E4 Tryz.prog allLoops Tryz.f53 (cd Tryz.f53) [pr b c] []).path [true, true, true, false] = some ([decide (b >= 1) == true, decide (b <= 64) == true, (iand b (iw (b - 1)) == 0) == true, decide (c >= 1) == true], .one (.c (.bool true false)), []) := by kernel_rfl
theorem al_5 (b c : Int) : (bodyT E4 Tryz.prog allLoops Tryz.f53 (cd Tryz.f53) [pr b c] []).path [true, true, true, true, false] = some ([decide (b >= 1) == true, decide (b <= 64) == true, (iand b (iw (b - 1)) == 0) == true, decide (c >= 1) == true, decide (c <= 16) == true], .one (.c (.bool true false)), []) := by kernel_rfl
theorem al_6 (b c : Int) : (bodyT E4 Tryz.prog allLoops Tryz.f53 (cd Tryz.f53) [pr b c] []).path [true, true, true, true, true] = some ([decide (b >= 1) == true, decide (b <= 64) == true, (iand b (iw (b - 1)) == 0) == true, decide (c >= 1) == true, decide (c <= 16) == true], .one (.c (.bool false (iand c (iw (c - 1)) == 0))), []) := by kernel_rfl
def TAllowed (vs : List V1) (hl : Heap) : Tree (SV × Heap) :=
 match vs, hl with
 | [.g [.c (.int _ .i64 b), .c (.int _ .i64 c)]], [] => .ret (.one (.c (.bool false (alw b c))), [])
 | _, _ => .fail
theorem ok_Allowed : EntryOk Tryz.prog G0 53 TAllowed := by
 refine (EntryOk.subU (bodyT_ok okE4 mx (un := allLoops) (fn := Tryz.f53) (c := cd Tryz.f53) (by kernel_rfl) (by kernel_rfl) (by kernel_rfl)).unlitG) (fun vs hl r ok h => ?_)
 unfold TAllowed at h;split at h
 ·rename_i l b l' c;obtain rfl := val_ret h;unfold alw p2;by_cases h1 : 1 <= b
  ·by_cases h2 : b <= 64
   ·cases h3 : iand b (iw (b - 1)) == 0 with
    | true =>
     by_cases h4 : 1 <= c
     ·by_cases h5 : c <= 16
      ·refine ⟨_, Tree.path_val (cs := [true, true, true, true, true]) ((al_6 b c).trans (by rw [decide_eq_true h1, decide_eq_true h2, h3, decide_eq_true h4, decide_eq_true h5]; rfl)), ?_⟩
       rw [decide_eq_true h1, decide_eq_true h2, decide_eq_true h4, decide_eq_true h5]; rfl
      ·refine ⟨_, Tree.path_val (cs := [true, true, true, true, false]) ((al_5 b c).trans (by rw [decide_eq_true h1, decide_eq_true h2, h3, decide_eq_true h4, decide_eq_false h5]; rfl)), ?_⟩
       rw [decide_eq_false h5, Bool.false_and, Bool.and_false, Bool.and_false]; rfl
     ·refine ⟨_, Tree.path_val (cs := [true, true, true, false]) ((al_4 b c).trans (by rw [decide_eq_true h1, decide_eq_true h2, h3, decide_eq_false h4]; rfl)), ?_⟩
      rw [decide_eq_false h4, Bool.false_and, Bool.and_false]; rfl
    | false =>
     refine ⟨_, Tree.path_val (cs := [true, true, false]) ((al_3 b c).trans (by rw [decide_eq_true h1, decide_eq_true h2, h3]; rfl)), ?_⟩
     rw [Bool.and_false, Bool.and_false, Bool.false_and]; rfl
   ·refine ⟨_, Tree.path_val (cs := [true, false]) ((al_2 b c).trans (by rw [decide_eq_true h1, decide_eq_false h2]; rfl)), ?_⟩
    rw [decide_eq_false h2, Bool.false_and, Bool.and_false, Bool.false_and]; rfl
  ·refine ⟨_, Tree.path_val (cs := [false]) ((al_1 b c).trans (by rw [decide_eq_false h1]; rfl)), ?_⟩
   rw [decide_eq_false h1, Bool.false_and, Bool.false_and]; rfl
 ·cases h
theorem alw_of {b c : Int} (h : alw b c = true) : (1 <= b /\ b <= 64) /\ (1 <= c /\ c <= 16) := by
 unfold alw p2 at h;simp only [Bool.and_eq_true, decide_eq_true_eq] at h;omega
def TSize (vs : List V1) (hl : Heap) : Tree (SV × Heap) :=
 match vs, hl with
 | [.g [.c (.int _ .i64 b), .c (.int _ .i64 c)]], [] => .ret (.one (.c (.int false .i64 (iw (b * c)))), [])
 | _, _ => .fail
theorem sz_b (b c : Int) : (bodyT E4 Tryz.prog allLoops Tryz.f50 (cd Tryz.f50) [pr b c] []).path [] = some ([], .one (.c (.int false .i64 (iw (b * c)))), []) := by kernel_rfl
theorem ok_Size : EntryOk Tryz.prog G0 50 TSize := by
 refine EntryOk.sub (bodyT_ok okE4 mx (un := allLoops) (fn := Tryz.f50) (c := cd Tryz.f50) (by kernel_rfl) (by kernel_rfl) (by kernel_rfl)).unlitG (fun vs hl r ok h => ?_)
 unfold TSize at h;split at h
 ·rename_i l b l' c;obtain rfl := val_ret h;exact Tree.path_val (sz_b b c)
 ·cases h
noncomputable def E5 : Tab := (E4.put 53 0 TAllowed).put 50 0 TSize
theorem okE5 : SpecOk Tryz.prog E5 := (okE4.put ok_Allowed).put ok_Size
noncomputable def E6 : Tab := E5
theorem okE6 : SpecOk Tryz.prog E6 := okE5
def Trpower (vs : List V1) (hl : Heap) : Tree (SV × Heap) :=
 match vs, hl with
 | [.g [.ws .u64 4 xs], .c (.int _ .i64 n)], [] => Tree.chk (decide (0 <= n)) (.ret (.one (ws (limbs (val xs ^ n.toNat % ell))), []))
 | _, _ => .fail
theorem rpw_b (xs : List Int) (n : Int) : (bodyT E6 Tryz.prog allLoops Tryz.f66 (cd Tryz.f66) [ws xs, .c (.int false .i64 n)] []).path [] = some ([], .one (ws (limbs (val xs ^ (um n).toNat % ell))), []) := by kernel_rfl
theorem inI {x : Int} : InK .i64 x ↔ -9223372036854775808 <= x /\ x <= 9223372036854775807 := by
 unfold InK;simp [IntKind.min, IntKind.max, IntKind.signed, IntKind.bits]
theorem ok_rpower : EntryOk Tryz.prog G0 66 Trpower := by
 refine EntryOk.sub (bodyT_ok okE6 mx (un := allLoops) (fn := Tryz.f66) (c := cd Tryz.f66) (by kernel_rfl) (by kernel_rfl) (by kernel_rfl)).unlit (fun vs hl r ok h => ?_)
 unfold Trpower at h;split at h
 ·rename_i xs l n;obtain ⟨h1, h2⟩ := val_chk h;obtain rfl := val_ret h2;have hn := of_decide_eq_true h1
  have hi := inI.mp ok.2.1
  have hp := rpw_b xs n
  have e : um n = n := by unfold um; rw [wrapU]; omega
  rw [e] at hp;exact Tree.path_val hp
 ·cases h
noncomputable def E7 : Tab := ((E6)).put 66 0 Trpower
theorem okE7 : SpecOk Tryz.prog E7 := ((okE6)).put ok_rpower
def TOne (vs : List V1) (hl : Heap) : Tree (SV × Heap) :=
 match vs, hl with
 | [.g [.ws .u64 4 _]], [] => .ret (.one (ws [1, 0, 0, 0]), [])
 | _, _ => .fail
theorem one_b (xs : List Int) : (bodyT E7 Tryz.prog allLoops Tryz.f298 (cd Tryz.f298) [ws xs] []).path [] = some ([], .one (ws [1, 0, 0, 0]), []) := by kernel_rfl
theorem ok_One : EntryOk Tryz.prog G0 298 TOne := by
 refine EntryOk.sub (bodyT_ok okE7 mx (un := allLoops) (fn := Tryz.f298) (c := cd Tryz.f298) (by kernel_rfl) (by kernel_rfl) (by kernel_rfl)) (fun vs hl r ok h => ?_)
 unfold TOne at h;split at h
 ·rename_i xs;obtain rfl := val_ret h;exact Tree.path_val (one_b xs)
 ·cases h
noncomputable def E8 : Tab := E7.put 298 0 TOne
theorem okE8 : SpecOk Tryz.prog E8 := okE7.put ok_One
def powL (x : Int) (n : Nat) : List (List Int) := (List.range n).map fun i => limbs (x ^ i % ell)
def TPowers (vs : List V1) (hl : Heap) : Tree (SV × Heap) :=
 match vs, hl with
 | [.g [.ws .u64 4 xs], .c (.int _ .i64 n)], [] => Tree.chk (decide (0 <= n /\ n <= 4096)) (.ret (.tup [.c (.sl 0 0 n.toNat), .c (.int true .i64 0)], [.arr WS (powL (val xs) n.toNat) 0 []]))
 | _, _ => .fail
noncomputable def rF (k : List Item) (s : St) : Tree Out := runK E8 Tryz.prog noLoops 400 k s
noncomputable def sF (xs : List Int) (n : Int) : St := ⟨enterT Tryz.f114 [ws xs, .c (.int false .i64 n)], []⟩
noncomputable def KF : List Item := leftT [true, false, true] (rF [.code (cd Tryz.f114)] (sF [] 0))
noncomputable def stF (xs p : List Int) (n : Nat) (ys : List (List Int)) (i : Int) : St := ⟨slotsOf 35 [(2, pt 0), (6, one (.sl 1 0 n)), (7, pt 2), (21, one (.int false .i64 n)), (22, one (.int false .i64 i))], [.vals [.ws .u64 4 xs], .arr WS ys 0 [], .vals [.ws .u64 4 p]]⟩
theorem f_a (xs : List Int) (n : Int) : pieceT [2, 6, 7, 21, 22] [22] [0, 1, 2] [true, false, true] (rF [.code (cd Tryz.f114)] (sF xs n)) =
  some ([decide (n < 0) == false, decide (n > 4096), decide (0 <= n /\ n <= n /\ n <= 281474976710656 /\ (Tryz.prog.bytesOf 26 : Int) * n <= 281474976710656)], KF, stF xs [1, 0, 0, 0] n.toNat (List.replicate n.toNat [0, 0, 0, 0]) (0 : Nat)) := by kernel_rfl
theorem f_b (xs p : List Int) (n i : Nat) (ys : List (List Int)) : pieceT [2, 6, 7, 21, 22] [22] [0, 1, 2] [true, true] (rF KF (stF xs p n ys i)) =
  some ([decide ((i : Int) < n), decide (0 <= (i : Int) /\ (i : Int) < n)], KF, stF xs (limbs (val p * val xs % ell)) n (ys.set (0 + i) p) (iw ((i : Int) + 1))) := by kernel_rfl
theorem f_c (xs p : List Int) (n i : Nat) (ys : List (List Int)) : endT Tryz.prog Tryz.f114 [1] [false] (rF KF (stF xs p n ys i)) =
  some ([decide ((i : Int) < n)], .tup [.c (.sl 0 0 n), .c (.int true .i64 0)], [.arr WS ys 0 []]) := by kernel_rfl
theorem powers_runs {xs : List Int} {n : Nat} (hn : n <= 4096) : Runs Tryz.prog E8 Tryz.f114 0 [.code (cd Tryz.f114)] (sF xs n) (.tup [.c (.sl 0 0 n), .c (.int true .i64 0)]) [.arr WS (powL (val xs) n) 0 []] := by
 have ha := f_a xs n
 rw [bytes_S, decide_eq_false (by omega), decide_eq_false (by omega), decide_eq_true (by omega), Int.toNat_natCast] at ha
 refine Runs.piece okE8 mx ha rfl (by rfl) ?_
 refine loopG (st := fun k (q : List Int × List (List Int)) => stF xs q.1 n q.2 k) (I := fun k q => q.1 = limbs (val xs ^ k % ell) /\ q.2 = (powL (val xs) n).take k ++ List.replicate (n - k) [0, 0, 0, 0]) (n := n) (fun k q hk hI => ?_) (fun q hI => ?_) n 0 ([1, 0, 0, 0], List.replicate n [0, 0, 0, 0]) (by omega) ⟨by rw [Int.pow_zero]; rfl, rfl⟩
 ·obtain ⟨p, ys⟩ := q;obtain ⟨rfl, rfl⟩ := hI;have hl : (powL (val xs) n).length = n := by unfold powL; rw [List.length_map, List.length_range]
  have hx : (powL (val xs) n)[k]? = some (limbs (val xs ^ k % ell)) := by
   unfold powL; rw [List.getElem?_map, List.getElem?_range hk]; rfl
  refine ⟨(limbs (val xs ^ (k + 1) % ell), _), ⟨rfl, fill_set hl hk hx⟩, fun hr => ?_⟩
  have hb := f_b xs (limbs (val xs ^ k % ell)) n k ((powL (val xs) n).take k ++ List.replicate (n - k) [0, 0, 0, 0])
  rw [val_mod, emod_mul, <- Int.pow_succ, iwk (by omega), Nat.zero_add, decide_eq_true (by omega), decide_eq_true (by omega)] at hb
  exact Runs.piece okE8 mx hb rfl (by rfl) hr
 ·obtain ⟨p, ys⟩ := q;obtain ⟨rfl, hI⟩ := hI;have hI : ys = powL (val xs) n := by
   have hI : ys = List.take n (powL (val xs) n) ++ List.replicate (n - n) [0, 0, 0, 0] := hI
   have hl : (powL (val xs) n).length = n := by unfold powL; rw [List.length_map, List.length_range]
   rw [hI, List.take_of_length_le (by omega), Nat.sub_self]; exact List.append_nil _
  subst hI;exact Runs.last okE8 mx (f_c xs _ n n (powL (val xs) n)) (by rw [decide_eq_false (by omega)]) (by rfl)
theorem ok_APowers : EntryOk Tryz.prog G0 114 TPowers := by
 refine EntryOk.runs (S := E8) (fn := Tryz.f114) (c := cd Tryz.f114) (by kernel_rfl) (by kernel_rfl) (by kernel_rfl) (fun vs hl r hl' ok h => ?_)
 unfold TPowers at h;split at h
 ·rename_i xs l n;obtain ⟨h1, h2⟩ := val_chk h;obtain ⟨h3, h4⟩ := of_decide_eq_true h1;obtain ⟨rfl, rfl⟩ := Prod.mk.inj (val_ret h2);obtain ⟨m, rfl⟩ : ∃ m : Nat, n = (m : Int) := ⟨n.toNat, by omega⟩
  rw [Int.toNat_natCast];exact lit_int [1] (powers_runs (by omega)) (by kernel_rfl)
 ·cases h
theorem mod_add2 (a b : Int) : (a % ell + b) % ell = (a + b) % ell := by unfold ell; omega
noncomputable def E9 : Tab := (E8.put 114 1 TPowers)
theorem okE9 : SpecOk Tryz.prog E9 := (okE8.put ok_APowers)
def stepRow (x : Int) (n : Nat) : List (List Int) := (List.range n).map fun k => limbs (x * 2 ^ k % ell)
def stepL (z : Int) (b c : Nat) : List (List Int) := (List.range c).flatMap fun j => stepRow (z ^ (2 + j)) b
theorem stepRow_succ (x : Int) (n : Nat) : stepRow x (n + 1) = stepRow x n ++ [limbs (x * 2 ^ n % ell)] := by
 unfold stepRow; rw [List.range_succ, List.map_append]; rfl
theorem stepL_succ (z : Int) (b c : Nat) : stepL z b (c + 1) = stepL z b c ++ stepRow (z ^ (2 + c)) b := by
 unfold stepL; rw [List.range_succ, List.flatMap_append]; simp
theorem stepRow_len (x : Int) (n : Nat) : (stepRow x n).length = n := by unfold stepRow; rw [List.length_map, List.length_range]
theorem stepL_len (z : Int) (b : Nat) : ∀ c, (stepL z b c).length = c * b
 | 0 => by rw [Nat.zero_mul]; rfl
 | c + 1 => by rw [stepL_succ, List.length_append, stepL_len z b c, stepRow_len, Nat.add_mul, Nat.one_mul]
noncomputable def rI (k : List Item) (s : St) : Tree Out := runK E9 Tryz.prog noLoops 400 k s
noncomputable def sI (b c : Int) (y z : List Int) : St := ⟨enterT Tryz.f56 [pr b c, ws y, ws z], []⟩
noncomputable def KI : List Item := leftT [true] (rI [.code (cd Tryz.f56)] (sI 0 0 [] []))
def hI (b c : Int) (z w : List Int) (ys : List (List Int)) : Heap := [.vals [.c (.int false .i64 b), .c (.int false .i64 c)], .vals [.ws .u64 4 z], .arr WS ys 0 [], .vals [.ws .u64 4 w]]
noncomputable def stI (b c : Int) (z w : List Int) (ys : List (List Int)) (n : Nat) (sc : Cell) (i : Int) (h : Heap) : St :=
 ⟨slotsOf 43 [(3, pt 0), (5, pt 1), (6, one (.sl 2 0 n)), (7, one sc), (8, pt 3), (21, one (.int false .i64 c)), (22, one (.int false .i64 i))], hI b c z w ys ++ h⟩
noncomputable def KJ : List Item := leftT [true] (rI KI (stI 0 0 [] [] [] 0 .nils 0 []))
noncomputable def stJ (b c : Int) (z w : List Int) (ys : List (List Int)) (n : Nat) (sc : Cell) (i : Int) (q : Nat) (k : Int) (h : Heap) : St :=
 ⟨slotsOf 43 [(3, pt 0), (5, pt 1), (6, one (.sl 2 0 n)), (7, one sc), (8, pt 3), (9, pt q), (21, one (.int false .i64 c)), (22, one (.int false .i64 i)), (26, one (.int false .i64 b)), (27, one (.int false .i64 k))], hI b c z w ys ++ h⟩
theorem i_a (b c : Int) (y z : List Int) : pieceT [3, 5, 6, 7, 8, 21, 22] [22] [0, 2, 3, 4] [true] (rI [.code (cd Tryz.f56)] (sI b c y z)) =
  some ([decide (0 <= iw (b * c) /\ iw (b * c) <= 4096)], KI, stI b c z (limbs (val z * val z % ell)) (powL (val y) (iw (b * c)).toNat) (iw (b * c)).toNat .nils (0 : Nat) []) := by kernel_rfl
theorem i_bZ (b c : Int) (z w : List Int) (ys : List (List Int)) (n i : Nat) : pieceT [3, 5, 6, 7, 8, 9, 21, 22, 26, 27] [27] [0, 1, 2, 3, 4] [true] (rI KI (stI b c z w ys n .nils i [])) =
  some ([decide ((i : Int) < c)], KJ, stJ b c z w ys n .nils i 4 (0 : Nat) [.vals [.ws .u64 4 w]]) := by kernel_rfl
theorem i_bN (b c : Int) (z w : List Int) (ys ss : List (List Int)) (n m i : Nat) : pieceT [3, 5, 6, 7, 8, 9, 21, 22, 26, 27] [27] [0, 1, 2, 3, 4, 5] [true] (rI KI (stI b c z w ys n (.sl 4 0 m) i [.arr WS ss 0 []])) =
  some ([decide ((i : Int) < c)], KJ, stJ b c z w ys n (.sl 4 0 m) i 5 (0 : Nat) [.arr WS ss 0 [], .vals [.ws .u64 4 w]]) := by kernel_rfl
theorem i_c (b c : Int) (z w : List Int) (ys ss : List (List Int)) (n m i : Nat) : endT Tryz.prog Tryz.f56 [2, 4] [false] (rI KI (stI b c z w ys n (.sl 4 0 m) i [.arr WS ss 0 []])) =
  some ([decide ((i : Int) < c)], .tup [.c (.sl 0 0 n), .c (.sl 1 0 m)], [.arr WS ys 0 [], .arr WS ss 0 []]) := by kernel_rfl
theorem i_dZ (b c : Int) (z w s : List Int) (ys : List (List Int)) (n i k : Nat) : pieceT [3, 5, 6, 7, 8, 9, 21, 22, 26, 27] [27] [0, 1, 2, 3, 6, 4] [true, true] (rI KJ (stJ b c z w ys n .nils i 4 k [.vals [.ws .u64 4 s]])) =
  some ([decide ((k : Int) < b), true], KJ, stJ b c z w ys n (.sl 4 0 1) i 5 (iw ((k : Int) + 1)) [.arr WS [s] 0 [], .vals [.ws .u64 4 (limbs ((val s + val s) % ell))]]) := by kernel_rfl
theorem i_dN (b c : Int) (z w s : List Int) (ys ss : List (List Int)) (n m i k : Nat) : pieceT [3, 5, 6, 7, 8, 9, 21, 22, 26, 27] [27] [0, 1, 2, 3, 7, 5] [true, true] (rI KJ (stJ b c z w ys n (.sl 4 0 m) i 5 k [.arr WS ss 0 [], .vals [.ws .u64 4 s]])) =
  some ([decide ((k : Int) < b), decide (m = ss.length) && (SX.room (m + 1) (Tryz.prog.bytesOf 26) && SX.room (m + 1) 1)], KJ, stJ b c z w ys n (.sl 4 0 (m + 1)) i 5 (iw ((k : Int) + 1)) [.arr WS (ss ++ [s]) 0 [], .vals [.ws .u64 4 (limbs ((val s + val s) % ell))]]) := by kernel_rfl
theorem i_e (b c : Int) (z w s : List Int) (ys ss : List (List Int)) (n m i k : Nat) : pieceT [3, 5, 6, 7, 8, 21, 22] [22] [0, 1, 2, 3, 4] [false] (rI KJ (stJ b c z w ys n (.sl 4 0 m) i 5 k [.arr WS ss 0 [], .vals [.ws .u64 4 s]])) =
  some ([decide ((k : Int) < b)], KI, stI b c z (limbs (val w * val z % ell)) ys n (.sl 4 0 m) (iw ((i : Int) + 1)) [.arr WS ss 0 []]) := by kernel_rfl
section
variable {b c : Nat} {z : List Int} {ys : List (List Int)} {n : Nat}
abbrev RI (K : List Item) (s : St) (ys : List (List Int)) (n : Nat) (L : List (List Int)) : Prop := Runs Tryz.prog E9 Tryz.f56 0 K s (.tup [.c (.sl 0 0 n), .c (.sl 1 0 L.length)]) [.arr WS ys 0 [], .arr WS L 0 []]
theorem dbl (x : Int) (k : Nat) : limbs ((val (limbs (x * 2 ^ k % ell)) + val (limbs (x * 2 ^ k % ell))) % ell) = limbs (x * 2 ^ (k + 1) % ell) := by
 rw [val_mod, <- Int.add_emod, Int.pow_succ, <- Int.mul_assoc]
 congr 2; omega
theorem wnext (Z : Int) (j : Nat) : limbs (val (limbs (Z ^ (2 + j) % ell)) * Z % ell) = limbs (Z ^ (2 + (j + 1)) % ell) := by
 rw [val_mod, emod_mul, <- Int.pow_succ]; rfl
theorem innerJ {j : Nat} (ss : List (List Int)) (hb : b <= 64) (hj : j <= 16) (hs : ss.length <= 1024) {L : List (List Int)} (hr : RI KI (stI b c z (limbs (val z ^ (2 + (j + 1)) % ell)) ys n (.sl 4 0 (ss ++ stepRow (val z ^ (2 + j)) b).length) (j + 1 : Nat) [.arr WS (ss ++ stepRow (val z ^ (2 + j)) b) 0 []]) ys n L) :
  ∀ d k, k + d = b -> RI KJ (stJ b c z (limbs (val z ^ (2 + j) % ell)) ys n (.sl 4 0 (ss ++ stepRow (val z ^ (2 + j)) k).length) j 5 k [.arr WS (ss ++ stepRow (val z ^ (2 + j)) k) 0 [], .vals [.ws .u64 4 (limbs (val z ^ (2 + j) * 2 ^ k % ell))]]) ys n L
 | 0, k, h => by
  obtain rfl : k = b := by omega
  have he := i_e k c z (limbs (val z ^ (2 + j) % ell)) (limbs (val z ^ (2 + j) * 2 ^ k % ell)) ys (ss ++ stepRow (val z ^ (2 + j)) k) n (ss ++ stepRow (val z ^ (2 + j)) k).length j k
  rw [wnext, iwk (by omega), decide_eq_false (by omega)] at he
  exact Runs.piece okE9 mx he rfl (by rfl) hr
 | d + 1, k, h => by
  have hd := i_dN b c z (limbs (val z ^ (2 + j) % ell)) (limbs (val z ^ (2 + j) * 2 ^ k % ell)) ys (ss ++ stepRow (val z ^ (2 + j)) k) n (ss ++ stepRow (val z ^ (2 + j)) k).length j k
  have hl : (ss ++ stepRow (val z ^ (2 + j)) k).length + 1 = (ss ++ stepRow (val z ^ (2 + j)) (k + 1)).length := by rw [stepRow_succ, <- List.append_assoc, List.length_append (bs := [_])]; rfl
  have hle : (ss ++ stepRow (val z ^ (2 + j)) k).length + 1 <= 1048576 := by rw [List.length_append, stepRow_len]; omega
  rw [dbl, roomS hle, decide_eq_true rfl, iwk (by omega), decide_eq_true (by omega), hl, List.append_assoc, <- stepRow_succ] at hd
  exact Runs.piece okE9 mx hd rfl (by rfl) (innerJ ss hb hj hs hr d (k + 1) (by omega))
theorem plan_runs {y : List Int} (hb : 1 <= b /\ b <= 64) (hc : 1 <= c /\ c <= 16) : RI [.code (cd Tryz.f56)] (sI b c y z) (powL (val y) (b * c)) (b * c) (stepL (val z) b c) := by
 have hbc : b * c <= 1024 := Nat.mul_le_mul hb.2 hc.2
 have ha := i_a b c y z
 have e : iw ((b : Int) * c) = ((b * c : Nat) : Int) := by
  rw [<- Int.natCast_mul]; exact wrap64 (by omega)
 rw [e, Int.toNat_natCast, decide_eq_true (by omega)] at ha
 refine Runs.piece okE9 mx ha rfl (by rfl) ?_
 have hw : limbs (val z * val z % ell) = limbs (val z ^ (2 + 0) % ell) := by
  rw [show val z ^ (2 + 0) = val z * val z from by rw [Nat.add_zero, show (2 : Nat) = 1 + 1 from rfl, Int.pow_succ, Int.pow_succ, Int.pow_zero, Int.one_mul]]
 rw [hw];have outer : ∀ d j, j + d = c -> RI KI (stI b c z (limbs (val z ^ (2 + j) % ell)) (powL (val y) (b * c)) (b * c) (.sl 4 0 (stepL (val z) b j).length) j [.arr WS (stepL (val z) b j) 0 []]) (powL (val y) (b * c)) (b * c) (stepL (val z) b c) := by
  intro d
  induction d with
  | zero =>
   intro j hj;obtain rfl : j = c := by omega
   exact Runs.last okE9 mx (i_c b j z _ _ _ _ _ j) (by rw [decide_eq_false (by omega)]) (by rfl)
  | succ d ih =>
   intro j hj;have hb2 := i_bN b c z (limbs (val z ^ (2 + j) % ell)) (powL (val y) (b * c)) (stepL (val z) b j) (b * c) (stepL (val z) b j).length j
   rw [decide_eq_true (by omega)] at hb2
   refine Runs.piece okE9 mx hb2 rfl (by rfl) ?_
   have hle : (stepL (val z) b j).length <= 1024 := by
    rw [stepL_len];have : j * b <= 16 * 64 := Nat.mul_le_mul (by omega) hb.2
    omega
   have hi := innerJ (b := b) (c := c) (z := z) (ys := powL (val y) (b * c)) (n := b * c) (stepL (val z) b j) (j := j) hb.2 (by omega) hle (L := stepL (val z) b c) (by rw [<- stepL_succ]; exact ih (j + 1) (by omega)) b 0 (by omega)
   rw [show stepRow (val z ^ (2 + j)) 0 = [] from rfl, List.append_nil, Int.pow_zero, Int.mul_one] at hi
   exact hi
 have hz := i_bZ b c z (limbs (val z ^ (2 + 0) % ell)) (powL (val y) (b * c)) (b * c) 0
 rw [decide_eq_true (by omega)] at hz
 refine Runs.piece okE9 mx hz rfl (by rfl) ?_
 have hd := i_dZ b c z (limbs (val z ^ (2 + 0) % ell)) (limbs (val z ^ (2 + 0) % ell)) (powL (val y) (b * c)) (b * c) 0 0
 have hdb := dbl (val z ^ (2 + 0)) 0
 rw [Int.pow_zero, Int.mul_one] at hdb;rw [hdb, iwk (by omega), decide_eq_true (by omega)] at hd
 refine Runs.piece okE9 mx hd rfl (by rfl) ?_
 have hi := innerJ (b := b) (c := c) (z := z) (ys := powL (val y) (b * c)) (n := b * c) [] (j := 0) hb.2 (by omega) (by simp) (L := stepL (val z) b c) (by
  have h1 := outer (c - 1) 1 (by omega)
  have e1 : stepL (val z) b 1 = [] ++ stepRow (val z ^ (2 + 0)) b := by
   rw [stepL_succ]; rfl
  rw [e1] at h1;exact h1) (b - 1) 1 (by omega)
 have e1 : ([] : List (List Int)) ++ stepRow (val z ^ (2 + 0)) 1 = [limbs (val z ^ (2 + 0) % ell)] := by
  rw [stepRow_succ, Int.pow_zero, Int.mul_one]; rfl
 rw [e1] at hi;exact hi
end
def Tplan (vs : List V1) (hl : Heap) : Tree (SV × Heap) :=
 match vs, hl with
 | [.g [.c (.int _ .i64 b), .c (.int _ .i64 c)], .g [.ws .u64 4 y], .g [.ws .u64 4 z]], [] =>
  Tree.chk (alw b c) (.ret (.tup [.c (.sl 0 0 (b.toNat * c.toNat)), .c (.sl 1 0 (stepL (val z) b.toNat c.toNat).length)], [.arr WS (powL (val y) (b.toNat * c.toNat)) 0 [], .arr WS (stepL (val z) b.toNat c.toNat) 0 []]))
 | _, _ => .fail
theorem ok_plan : EntryOk Tryz.prog G0 56 Tplan := by
 refine EntryOk.unlitRuns (S := E9) (fn := Tryz.f56) (c := cd Tryz.f56) (by kernel_rfl) (by kernel_rfl) (by kernel_rfl) (fun vs hl r hl' ok h => ?_)
 unfold Tplan at h;split at h
 ·rename_i l b l' c y z;obtain ⟨h1, h2⟩ := val_chk h;obtain ⟨rfl, rfl⟩ := Prod.mk.inj (val_ret h2);obtain ⟨⟨a1, a2⟩, a3, a4⟩ := alw_of h1;obtain ⟨B, rfl⟩ : ∃ B : Nat, b = (B : Int) := ⟨b.toNat, by omega⟩
  obtain ⟨C, rfl⟩ : ∃ C : Nat, c = (C : Int) := ⟨c.toNat, by omega⟩
  rw [Int.toNat_natCast, Int.toNat_natCast];exact plan_runs ⟨by omega, by omega⟩ ⟨by omega, by omega⟩
 ·cases h
noncomputable def E10 : Tab := E9.put 56 2 Tplan
theorem okE10 : SpecOk Tryz.prog E10 := okE9.put ok_plan
def s2 : Nat -> Int
 | 0 => 0
 | k + 1 => s2 k + 2 ^ k
noncomputable def E11 : Tab := E10
theorem okE11 : SpecOk Tryz.prog E11 := okE10
noncomputable def E12 : Tab := E11
theorem okE12 : SpecOk Tryz.prog E12 := okE11
def hH (b c : Int) (y z s : List Int) : Heap := [.vals [.c (.int false .i64 b), .c (.int false .i64 c)], .vals [.ws .u64 4 y], .vals [.ws .u64 4 z], .vals [.ws .u64 4 [0, 0, 0, 0]], .vals [.ws .u64 4 s]]
section
variable {b c : Nat} {y z : List Int}
end
noncomputable def E13 : Tab := E12
theorem okE13 : SpecOk Tryz.prog E13 := okE12
end Go.Sc
