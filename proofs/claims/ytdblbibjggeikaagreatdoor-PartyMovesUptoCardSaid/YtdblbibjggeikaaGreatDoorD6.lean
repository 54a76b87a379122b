/- Contracts of parameters and bounds, part 1. -/
import Derived.Test.YtdblbibjggeikaaGreatDoorD5
set_option linter.unusedSectionVars false
set_option linter.unusedVariables false
set_option linter.unusedSimpArgs false
namespace Go.Sc
open Go Go.SX Go.Proofs
variable [Level]
def iw (x : Int) : Int := IntKind.i64.wrap x
def wnd (w : Int) : Int := iw (iw (Int.tdiv (iw (iw (256 + w) - 1)) w) + 1)
def mst (n w : Int) : Int := iw (wnd w * iw (iw (iw (n + iw (2 * 2 ^ (min w.toNat 64))) + w) + 1))
def Twindows (vs : List V1) (hl : Heap) : Tree (SV × Heap) :=
 match vs, hl with
 | [.c (.int _ .i64 w)], [] => Tree.chk (decide (1 <= w)) (.ret (.one (.c (.int false .i64 (wnd w))), []))
 | _, _ => .fail
theorem win_b (w : Int) : (bodyT D11 Tryz.prog allLoops Tryz.f229 (cd Tryz.f229) [.c (.int false .i64 w)] []).path [true] = some ([decide (w ≠ 0)], .one (.c (.int false .i64 (wnd w))), []) := by kernel_rfl
theorem ok_windows : EntryOk Tryz.prog G0 229 Twindows := by
 refine EntryOk.sub (bodyT_ok okD11 mx (un := allLoops) (fn := Tryz.f229) (c := cd Tryz.f229) (by kernel_rfl) (by kernel_rfl) (by kernel_rfl)).unlit (fun vs hl r ok h => ?_)
 unfold Twindows at h;split at h
 ·rename_i l w;obtain ⟨h1, h2⟩ := val_chk h;obtain rfl := val_ret h2;have := ofD h1
  have hp := win_b w
  rw [deT (by omega)] at hp
  exact Tree.path_val hp
 ·cases h
noncomputable def E1 : Tab := (D11.put 229 0 Twindows)
theorem okE1 : SpecOk Tryz.prog E1 := (okD11.put ok_windows)
def Tmost (vs : List V1) (hl : Heap) : Tree (SV × Heap) :=
 match vs, hl with
 | [.c (.int _ .i64 n), .c (.int _ .i64 w)], [] => Tree.chk (decide (1 <= w)) (.ret (.one (.c (.int false .i64 (mst n w))), []))
 | _, _ => .fail
theorem most_b (n w : Int) : (bodyT E1 Tryz.prog allLoops Tryz.f202 (cd Tryz.f202) [.c (.int false .i64 n), .c (.int false .i64 w)] []).path [true, true] = some ([decide (1 <= w), decide (0 <= w)], .one (.c (.int false .i64 (mst n w))), []) := by kernel_rfl
theorem ok_most : EntryOk Tryz.prog G0 202 Tmost := by
 refine EntryOk.sub (bodyT_ok okE1 mx (un := allLoops) (fn := Tryz.f202) (c := cd Tryz.f202) (by kernel_rfl) (by kernel_rfl) (by kernel_rfl)).unlit (fun vs hl r ok h => ?_)
 unfold Tmost at h;split at h
 ·rename_i l n l' w;obtain ⟨h1, h2⟩ := val_chk h;obtain rfl := val_ret h2;have := ofD h1
  have hp := most_b n w
  rw [h1, deT (by omega)] at hp
  exact Tree.path_val hp
 ·cases h
noncomputable def E2 : Tab := (E1.put 202 0 Tmost)
theorem okE2 : SpecOk Tryz.prog E2 := (okE1.put ok_most)
def sui (n : Int) : Nat -> Int
 | 0 => 1
 | k + 1 => if mst n (k + 2 : Nat) < mst n (sui n k) then (k + 2 : Nat) else sui n k
def lea (n : Int) : Nat -> Int
 | 0 => mst n 1
 | k + 1 => if mst n (k + 2 : Nat) < lea n k then mst n (k + 2 : Nat) else lea n k
theorem sui_pos (n : Int) : ∀ k, 1 <= sui n k /\ sui n k <= k + 1
 | 0 => ⟨Int.le_refl _, by show (1 : Int) <= _; omega⟩
 | k + 1 => by
  have := sui_pos n k
  unfold sui;split <;> omega
def Tsuits (vs : List V1) (hl : Heap) : Tree (SV × Heap) :=
 match vs, hl with
 | [.c (.int _ .i64 n)], [] => .ret (.one (.c (.int false .i64 (sui n 11))), [])
 | _, _ => .fail
noncomputable def rA (k : List Item) (s : St) : Tree Out := runK E2 Tryz.prog noLoops 400 k s
noncomputable def sA (n : Int) : St := ⟨enterT Tryz.f200 [.c (.int false .i64 n)], []⟩
noncomputable def KA : List Item := leftT [] (rA [.code (cd Tryz.f200)] (sA 0))
noncomputable def stA (n b w : Int) : St := ⟨slotsOf 18 [(0, one (.int false .i64 n)), (3, one (.int false .i64 b)), (4, one (.int false .i64 w))], []⟩
theorem a_a (n : Int) : pieceT [0, 3, 4] [3, 4] [] [] (rA [.code (cd Tryz.f200)] (sA n)) = some ([], KA, stA n 1 2) := by kernel_rfl
theorem a_b (n b w : Int) : pieceT [0, 3, 4] [3, 4] [] [true, true, true, true] (rA KA (stA n b w)) = some ([decide (w <= 12), decide (1 <= w), decide (1 <= b), decide (mst n w < mst n b)], KA, stA n w (iw (w + 1))) := by kernel_rfl
theorem a_c (n b w : Int) : pieceT [0, 3, 4] [3, 4] [] [true, true, true, false] (rA KA (stA n b w)) = some ([decide (w <= 12), decide (1 <= w), decide (1 <= b), decide (mst n w < mst n b)], KA, stA n b (iw (w + 1))) := by kernel_rfl
theorem a_d (n b w : Int) : endT Tryz.prog Tryz.f200 [] [false] (rA KA (stA n b w)) = some ([decide (w <= 12)], .one (.c (.int false .i64 b)), []) := by kernel_rfl
theorem iwk {k : Nat} (h : k < 1099511627776) : iw ((k : Int) + 1) = ((k + 1 : Nat) : Int) := wsucc h
theorem suits_runs (n : Int) : Runs Tryz.prog E2 Tryz.f200 0 [.code (cd Tryz.f200)] (sA n) (.one (.c (.int false .i64 (sui n 11)))) [] := by
 refine Runs.piece okE2 mx (a_a n) rfl (by rfl) ?_
 refine loopG (st := fun k (b : Int) => stA n b ((k + 2 : Nat) : Int)) (I := fun k b => b = sui n k) (n := 11) (fun k b hk hI => ?_) (fun b hI => ?_) 11 0 1 rfl rfl
 ·subst hI;have hp := sui_pos n k
  by_cases hlt : mst n (k + 2 : Nat) < mst n (sui n k)
  ·refine ⟨((k + 2 : Nat) : Int), by show _ = if _ then _ else _; rw [if_pos hlt], fun hr => ?_⟩
   have hb := a_b n (sui n k) (k + 2 : Nat)
   rw [iwk (by omega), deT (by omega), deT (by omega), deT hp.1, deT hlt] at hb
   exact Runs.piece okE2 mx hb rfl (by rfl) hr
  ·refine ⟨sui n k, by show _ = if _ then _ else _; rw [if_neg hlt], fun hr => ?_⟩
   have hb := a_c n (sui n k) (k + 2 : Nat)
   rw [iwk (by omega), deT (by omega), deT (by omega), deT hp.1, deF hlt] at hb
   exact Runs.piece okE2 mx hb rfl (by rfl) hr
 ·have hI : b = sui n 11 := hI
  rw [<- hI];exact Runs.last okE2 mx (a_d n b ((11 + 2 : Nat) : Int)) (by rw [deF (by omega)]) (by rfl)
theorem ok_suits : EntryOk Tryz.prog G0 200 Tsuits := by
 refine EntryOk.runs (S := E2) (fn := Tryz.f200) (c := cd Tryz.f200) (by kernel_rfl) (by kernel_rfl) (by kernel_rfl) (fun vs hl r hl' ok h => ?_)
 unfold Tsuits at h;split at h
 ·rename_i l n;obtain ⟨rfl, rfl⟩ := Prod.mk.inj (val_ret h);exact lit_int [0] (suits_runs n) (by kernel_rfl)
 ·cases h
noncomputable def E3 : Tab := E2.put 200 0 Tsuits
theorem okE3 : SpecOk Tryz.prog E3 := okE2.put ok_suits
def bnd (n : Int) : Int := if n < 0 \/ 8192 < n then 0 else lea n 11
noncomputable def E4 : Tab := (E3)
theorem okE4 : SpecOk Tryz.prog E4 := (okE3)
def pr (b c : Int) : V1 := .g [.c (.int false .i64 b), .c (.int false .i64 c)]
def iand (x y : Int) : Int := IntKind.i64.wrap ((BitVec.ofInt 64 x &&& BitVec.ofInt 64 y).toNat : Int)
def p2 (x m : Int) : Bool := decide (1 <= x) && (decide (x <= m) && (iand x (iw (x - 1)) == 0))
def alw (b c : Int) : Bool := p2 b 64 && p2 c 16
theorem al_1 (b c : Int) : (bodyT E4 Tryz.prog allLoops Tryz.f53 (cd Tryz.f53) [pr b c] []).path [false] = some ([decide (b >= 1) == true], .one (.c (.bool true false)), []) := by kernel_rfl
theorem al_2 (b c : Int) : (bodyT E4 Tryz.prog allLoops Tryz.f53 (cd Tryz.f53) [pr b c] []).path [true, false] = some ([decide (b >= 1) == true, decide (b <= 64) == true], .one (.c (.bool true false)), []) := by kernel_rfl
theorem al_3 (b c : Int) : (bodyT E4 Tryz.prog allLoops Tryz.f53 (cd Tryz.f53) [pr b c] []).path [true, true, false] = some ([decide (b >= 1) == true, decide (b <= 64) == true, (iand b (iw (b - 1)) == 0) == true], .one (.c (.bool true false)), []) := by kernel_rfl
theorem al_4 (b c : Int) : (bodyT E4 Tryz.prog allLoops Tryz.f53 (cd Tryz.f53) [pr b c] []).path [true, true, true, false] = some ([decide (b >= 1) == true, decide (b <= 64) == true, (iand b (iw (b - 1)) == 0) == true, decide (c >= 1) == true], .one (.c (.bool true false)), []) := by kernel_rfl
theorem al_5 (b c : Int) : (bodyT E4 Tryz.prog allLoops Tryz.f53 (cd Tryz.f53) [pr b c] []).path [true, true, true, true, false] = some ([decide (b >= 1) == true, decide (b <= 64) == true, (iand b (iw (b - 1)) == 0) == true, decide (c >= 1) == true, decide (c <= 16) == true], .one (.c (.bool true false)), []) := by kernel_rfl
theorem al_6 (b c : Int) : (bodyT E4 Tryz.prog allLoops Tryz.f53 (cd Tryz.f53) [pr b c] []).path [true, true, true, true, true] = some ([decide (b >= 1) == true, decide (b <= 64) == true, (iand b (iw (b - 1)) == 0) == true, decide (c >= 1) == true, decide (c <= 16) == true], .one (.c (.bool false (iand c (iw (c - 1)) == 0))), []) := by kernel_rfl
def TAllowed (vs : List V1) (hl : Heap) : Tree (SV × Heap) :=
 match vs, hl with
 | [.g [.c (.int _ .i64 b), .c (.int _ .i64 c)]], [] => .ret (.one (.c (.bool false (alw b c))), [])
 | _, _ => .fail
theorem ok_Allowed : EntryOk Tryz.prog G0 53 TAllowed := by
 refine (EntryOk.subU (bodyT_ok okE4 mx (un := allLoops) (fn := Tryz.f53) (c := cd Tryz.f53) (by kernel_rfl) (by kernel_rfl) (by kernel_rfl)).unlitG) (fun vs hl r ok h => ?_)
 unfold TAllowed at h;split at h
 ·rename_i l b l' c;obtain rfl := val_ret h;unfold alw p2;by_cases h1 : 1 <= b
  ·by_cases h2 : b <= 64
   ·cases h3 : iand b (iw (b - 1)) == 0 with
    | true =>
     by_cases h4 : 1 <= c
     ·by_cases h5 : c <= 16
      ·refine ⟨_, Tree.path_val (cs := [true, true, true, true, true]) ((al_6 b c).trans (by rw [deT h1, deT h2, h3, deT h4, deT h5]; rfl)), ?_⟩
       rw [deT h1, deT h2, deT h4, deT h5]; rfl
      ·refine ⟨_, Tree.path_val (cs := [true, true, true, true, false]) ((al_5 b c).trans (by rw [deT h1, deT h2, h3, deT h4, deF h5]; rfl)), ?_⟩
       rw [deF h5, Bool.false_and, Bool.and_false, Bool.and_false]; rfl
     ·refine ⟨_, Tree.path_val (cs := [true, true, true, false]) ((al_4 b c).trans (by rw [deT h1, deT h2, h3, deF h4]; rfl)), ?_⟩
      rw [deF h4, Bool.false_and, Bool.and_false]; rfl
    | false =>
     refine ⟨_, Tree.path_val (cs := [true, true, false]) ((al_3 b c).trans (by rw [deT h1, deT h2, h3]; rfl)), ?_⟩
     rw [Bool.and_false, Bool.and_false, Bool.false_and]; rfl
   ·refine ⟨_, Tree.path_val (cs := [true, false]) ((al_2 b c).trans (by rw [deT h1, deF h2]; rfl)), ?_⟩
    rw [deF h2, Bool.false_and, Bool.and_false, Bool.false_and]; rfl
  ·refine ⟨_, Tree.path_val (cs := [false]) ((al_1 b c).trans (by rw [deF h1]; rfl)), ?_⟩
   rw [deF h1, Bool.false_and, Bool.false_and]; rfl
 ·cases h
theorem alw_of {b c : Int} (h : alw b c = true) : (1 <= b /\ b <= 64) /\ (1 <= c /\ c <= 16) := by
 unfold alw p2 at h;simp only [Bool.and_eq_true, decide_eq_true_eq] at h;omega
def TSize (vs : List V1) (hl : Heap) : Tree (SV × Heap) :=
 match vs, hl with
 | [.g [.c (.int _ .i64 b), .c (.int _ .i64 c)]], [] => .ret (.one (.c (.int false .i64 (iw (b * c)))), [])
 | _, _ => .fail
theorem sz_b (b c : Int) : (bodyT E4 Tryz.prog allLoops Tryz.f50 (cd Tryz.f50) [pr b c] []).path [] = some ([], .one (.c (.int false .i64 (iw (b * c)))), []) := by kernel_rfl
theorem ok_Size : EntryOk Tryz.prog G0 50 TSize := by
 refine EntryOk.sub (bodyT_ok okE4 mx (un := allLoops) (fn := Tryz.f50) (c := cd Tryz.f50) (by kernel_rfl) (by kernel_rfl) (by kernel_rfl)).unlitG (fun vs hl r ok h => ?_)
 unfold TSize at h;split at h
 ·rename_i l b l' c;obtain rfl := val_ret h;exact Tree.path_val (sz_b b c)
 ·cases h
noncomputable def E5 : Tab := (E4.put 53 0 TAllowed).put 50 0 TSize
theorem okE5 : SpecOk Tryz.prog E5 := (okE4.put ok_Allowed).put ok_Size
noncomputable def E6 : Tab := E5
theorem okE6 : SpecOk Tryz.prog E6 := okE5
theorem inI {x : Int} : InK .i64 x ↔ -9223372036854775808 <= x /\ x <= 9223372036854775807 := by
 unfold InK;simp [IntKind.min, IntKind.max, IntKind.signed, IntKind.bits]
noncomputable def E7 : Tab := ((E6))
theorem okE7 : SpecOk Tryz.prog E7 := ((okE6))
noncomputable def E8 : Tab := E7
theorem okE8 : SpecOk Tryz.prog E8 := okE7
theorem mod_add2 (a b : Int) : (a % ell + b) % ell = (a + b) % ell := by unfold ell; omega
noncomputable def E9 : Tab := (E8)
theorem okE9 : SpecOk Tryz.prog E9 := (okE8)
def hI (b c : Int) (z w : List Int) (ys : List (List Int)) : Heap := [.vals [.c (.int false .i64 b), .c (.int false .i64 c)], .vals [.ws .u64 4 z], .arr WS ys 0 [], .vals [.ws .u64 4 w]]
section
variable {b c : Nat} {z : List Int} {ys : List (List Int)} {n : Nat}
theorem dbl (x : Int) (k : Nat) : limbs ((val (limbs (x * 2 ^ k % ell)) + val (limbs (x * 2 ^ k % ell))) % ell) = limbs (x * 2 ^ (k + 1) % ell) := by
 rw [val_mod, <- Int.add_emod, Int.pow_succ, <- Int.mul_assoc]
 congr 2; omega
end
noncomputable def E10 : Tab := E9
theorem okE10 : SpecOk Tryz.prog E10 := okE9
def s2 : Nat -> Int
 | 0 => 0
 | k + 1 => s2 k + 2 ^ k
noncomputable def E11 : Tab := E10
theorem okE11 : SpecOk Tryz.prog E11 := okE10
noncomputable def E12 : Tab := E11
theorem okE12 : SpecOk Tryz.prog E12 := okE11
def hH (b c : Int) (y z s : List Int) : Heap := [.vals [.c (.int false .i64 b), .c (.int false .i64 c)], .vals [.ws .u64 4 y], .vals [.ws .u64 4 z], .vals [.ws .u64 4 [0, 0, 0, 0]], .vals [.ws .u64 4 s]]
section
variable {b c : Nat} {y z : List Int}
end
noncomputable def E13 : Tab := E12
theorem okE13 : SpecOk Tryz.prog E13 := okE12
end Go.Sc
