/-
  Contracts of parameters and bounds, part 1.
  Contracts of parameters and bounds, part 2.
  Contracts of powers and sums of scalars.
  The plan of a range proof: powers of y, and z^(2+j) 2^k.
  Delta, by the program and by the document.
  ReadTape, by the program and by the document.
  The law's own functions: is, num, sameNums.
-/
import Derived.Test.YticfnbhbpcpgeaaDoorRf
namespace Go.Sc
open Go Go.SX Go.Proofs

def iw (x : Int) : Int := IntKind.i64.wrap x
def wnd (w : Int) : Int := iw (iw (Int.tdiv (iw (iw (256 + w) - 1)) w) + 1)
def mst (n w : Int) : Int := iw (wnd w * iw (iw (iw (n + iw (2 * 2 ^ (min w.toNat 64))) + w) + 1))
def Twindows (vs : List V1) (hl : Heap) : Tree (SV × Heap) :=
  match vs, hl with
  | [.c (.int _ .i64 w)], [] => Tree.chk (decide (1 ≤ w)) (.ret (.one (.c (.int false .i64 (wnd w))), []))
  | _, _ => .fail
theorem win_b (w : Int) : (bodyT D11 Tryd.prog allLoops Tryd.f89 (cd Tryd.f89) [.c (.int false .i64 w)] []).path [true] = some ([decide (w ≠ 0)], .one (.c (.int false .i64 (wnd w))), []) := by kernel_rfl
theorem rwin_b (w : Int) : (bodyT D11 Tryd.prog allLoops Tryd.f90 (cd Tryd.f90) [.c (.int false .i64 w)] []).path [true] = some ([decide (w ≠ 0)], .one (.c (.int false .i64 (wnd w))), []) := by kernel_rfl
theorem ok_windows : EntryOk Tryd.prog G0 89 Twindows := by
  refine EntryOk.sub (bodyT_ok okD11 mx (un := allLoops) (fn := Tryd.f89) (c := cd Tryd.f89) (by kernel_rfl) (by kernel_rfl) (by kernel_rfl)).unlit (fun vs hl r ok h => ?_)
  unfold Twindows at h
  split at h
  · rename_i l w
    obtain ⟨h1, h2⟩ := val_chk h
    obtain rfl := val_ret h2
    have := of_decide_eq_true h1
    have hp := win_b w
    rw [decide_eq_true (by omega)] at hp
    exact Tree.path_val hp
  · cases h
theorem ok_r7Windows : EntryOk Tryd.prog G0 90 Twindows := by
  refine EntryOk.sub (bodyT_ok okD11 mx (un := allLoops) (fn := Tryd.f90) (c := cd Tryd.f90) (by kernel_rfl) (by kernel_rfl) (by kernel_rfl)).unlit (fun vs hl r ok h => ?_)
  unfold Twindows at h
  split at h
  · rename_i l w
    obtain ⟨h1, h2⟩ := val_chk h
    obtain rfl := val_ret h2
    have := of_decide_eq_true h1
    have hp := rwin_b w
    rw [decide_eq_true (by omega)] at hp
    exact Tree.path_val hp
  · cases h
noncomputable def E1 : Tab := (D11.put 89 0 Twindows).put 90 0 Twindows
theorem okE1 : SpecOk Tryd.prog E1 := (okD11.put ok_windows).put ok_r7Windows
def Tmost (vs : List V1) (hl : Heap) : Tree (SV × Heap) :=
  match vs, hl with
  | [.c (.int _ .i64 n), .c (.int _ .i64 w)], [] => Tree.chk (decide (1 ≤ w)) (.ret (.one (.c (.int false .i64 (mst n w))), []))
  | _, _ => .fail
theorem most_b (n w : Int) : (bodyT E1 Tryd.prog allLoops Tryd.f67 (cd Tryd.f67) [.c (.int false .i64 n), .c (.int false .i64 w)] []).path [true, true] = some ([decide (1 ≤ w), decide (0 ≤ w)], .one (.c (.int false .i64 (mst n w))), []) := by kernel_rfl
theorem rmost_b (n w : Int) : (bodyT E1 Tryd.prog allLoops Tryd.f69 (cd Tryd.f69) [.c (.int false .i64 n), .c (.int false .i64 w)] []).path [true, true] = some ([decide (1 ≤ w), decide (0 ≤ w)], .one (.c (.int false .i64 (mst n w))), []) := by kernel_rfl
theorem ok_most : EntryOk Tryd.prog G0 67 Tmost := by
  refine EntryOk.sub (bodyT_ok okE1 mx (un := allLoops) (fn := Tryd.f67) (c := cd Tryd.f67) (by kernel_rfl) (by kernel_rfl) (by kernel_rfl)).unlit (fun vs hl r ok h => ?_)
  unfold Tmost at h
  split at h
  · rename_i l n l' w
    obtain ⟨h1, h2⟩ := val_chk h
    obtain rfl := val_ret h2
    have := of_decide_eq_true h1
    have hp := most_b n w
    rw [h1, decide_eq_true (by omega)] at hp
    exact Tree.path_val hp
  · cases h
theorem ok_PippengerMost : EntryOk Tryd.prog G0 69 Tmost := by
  refine EntryOk.sub (bodyT_ok okE1 mx (un := allLoops) (fn := Tryd.f69) (c := cd Tryd.f69) (by kernel_rfl) (by kernel_rfl) (by kernel_rfl)).unlit (fun vs hl r ok h => ?_)
  unfold Tmost at h
  split at h
  · rename_i l n l' w
    obtain ⟨h1, h2⟩ := val_chk h
    obtain rfl := val_ret h2
    have := of_decide_eq_true h1
    have hp := rmost_b n w
    rw [h1, decide_eq_true (by omega)] at hp
    exact Tree.path_val hp
  · cases h
noncomputable def E2 : Tab := (E1.put 67 0 Tmost).put 69 0 Tmost
theorem okE2 : SpecOk Tryd.prog E2 := (okE1.put ok_most).put ok_PippengerMost

/-! ### suits -/
def sui (n : Int) : Nat → Int
  | 0 => 1
  | k + 1 => if mst n (k + 2 : Nat) < mst n (sui n k) then (k + 2 : Nat) else sui n k
def lea (n : Int) : Nat → Int
  | 0 => mst n 1
  | k + 1 => if mst n (k + 2 : Nat) < lea n k then mst n (k + 2 : Nat) else lea n k
theorem sui_lea (n : Int) : ∀ k, mst n (sui n k) = lea n k
  | 0 => rfl
  | k + 1 => by
    unfold sui lea
    rw [sui_lea n k]
    split
    · rfl
    · exact sui_lea n k
theorem sui_pos (n : Int) : ∀ k, 1 ≤ sui n k ∧ sui n k ≤ k + 1
  | 0 => ⟨Int.le_refl _, by show (1 : Int) ≤ _; omega⟩
  | k + 1 => by
    have := sui_pos n k
    unfold sui
    split <;> omega
def Tsuits (vs : List V1) (hl : Heap) : Tree (SV × Heap) :=
  match vs, hl with
  | [.c (.int _ .i64 n)], [] => .ret (.one (.c (.int false .i64 (sui n 11))), [])
  | _, _ => .fail
noncomputable def rA (k : List Item) (s : St) : Tree Out := runK E2 Tryd.prog noLoops 400 k s
noncomputable def sA (n : Int) : St := ⟨enterT Tryd.f68 [.c (.int false .i64 n)], []⟩
noncomputable def KA : List Item := leftT [] (rA [.code (cd Tryd.f68)] (sA 0))
noncomputable def stA (n b w : Int) : St := ⟨slotsOf 18 [(0, one (.int false .i64 n)), (3, one (.int false .i64 b)), (4, one (.int false .i64 w))], []⟩
theorem a_a (n : Int) : pieceT [0, 3, 4] [3, 4] [] [] (rA [.code (cd Tryd.f68)] (sA n)) = some ([], KA, stA n 1 2) := by kernel_rfl
theorem a_b (n b w : Int) : pieceT [0, 3, 4] [3, 4] [] [true, true, true, true] (rA KA (stA n b w)) = some ([decide (w ≤ 12), decide (1 ≤ w), decide (1 ≤ b), decide (mst n w < mst n b)], KA, stA n w (iw (w + 1))) := by kernel_rfl
theorem a_c (n b w : Int) : pieceT [0, 3, 4] [3, 4] [] [true, true, true, false] (rA KA (stA n b w)) = some ([decide (w ≤ 12), decide (1 ≤ w), decide (1 ≤ b), decide (mst n w < mst n b)], KA, stA n b (iw (w + 1))) := by kernel_rfl
theorem a_d (n b w : Int) : endT Tryd.prog Tryd.f68 [] [false] (rA KA (stA n b w)) = some ([decide (w ≤ 12)], .one (.c (.int false .i64 b)), []) := by kernel_rfl
theorem iwk {k : Nat} (h : k < 1099511627776) : iw ((k : Int) + 1) = ((k + 1 : Nat) : Int) := wsucc h
theorem suits_runs (n : Int) : Runs Tryd.prog E2 Tryd.f68 0 [.code (cd Tryd.f68)] (sA n) (.one (.c (.int false .i64 (sui n 11)))) [] := by
  refine Runs.piece okE2 mx (a_a n) rfl (by rfl) ?_
  refine loopG (st := fun k (b : Int) => stA n b ((k + 2 : Nat) : Int)) (I := fun k b => b = sui n k) (n := 11) (fun k b hk hI => ?_) (fun b hI => ?_) 11 0 1 rfl rfl
  · subst hI
    have hp := sui_pos n k
    by_cases hlt : mst n (k + 2 : Nat) < mst n (sui n k)
    · refine ⟨((k + 2 : Nat) : Int), by show _ = if _ then _ else _; rw [if_pos hlt], fun hr => ?_⟩
      have hb := a_b n (sui n k) (k + 2 : Nat)
      rw [iwk (by omega), decide_eq_true (by omega), decide_eq_true (by omega), decide_eq_true hp.1, decide_eq_true hlt] at hb
      exact Runs.piece okE2 mx hb rfl (by rfl) hr
    · refine ⟨sui n k, by show _ = if _ then _ else _; rw [if_neg hlt], fun hr => ?_⟩
      have hb := a_c n (sui n k) (k + 2 : Nat)
      rw [iwk (by omega), decide_eq_true (by omega), decide_eq_true (by omega), decide_eq_true hp.1, decide_eq_false hlt] at hb
      exact Runs.piece okE2 mx hb rfl (by rfl) hr
  · have hI : b = sui n 11 := hI
    rw [← hI]
    exact Runs.last okE2 mx (a_d n b ((11 + 2 : Nat) : Int)) (by rw [decide_eq_false (by omega)]) (by rfl)
theorem ok_suits : EntryOk Tryd.prog G0 68 Tsuits := by
  refine EntryOk.runs (S := E2) (fn := Tryd.f68) (c := cd Tryd.f68) (by kernel_rfl) (by kernel_rfl) (by kernel_rfl) (fun vs hl r hl' ok h => ?_)
  unfold Tsuits at h
  split at h
  · rename_i l n
    obtain ⟨rfl, rfl⟩ := Prod.mk.inj (val_ret h)
    exact lit_int [0] (suits_runs n) (by kernel_rfl)
  · cases h
noncomputable def E3 : Tab := E2.put 68 0 Tsuits
theorem okE3 : SpecOk Tryd.prog E3 := okE2.put ok_suits

/-! ### Bound -/
def bnd (n : Int) : Int := if n < 0 ∨ 8192 < n then 0 else lea n 11
def TBound (vs : List V1) (hl : Heap) : Tree (SV × Heap) :=
  match vs, hl with
  | [.c (.int _ .i64 n)], [] => .ret (.one (.c (.int false .i64 (bnd n))), [])
  | _, _ => .fail
theorem bd_a (n : Int) : (bodyT E3 Tryd.prog allLoops Tryd.f47 (cd Tryd.f47) [.c (.int false .i64 n)] []).path [false] = some ([decide (n < 0) == false], .one (.c (.int true .i64 0)), []) := by kernel_rfl
theorem bd_b (n : Int) : (bodyT E3 Tryd.prog allLoops Tryd.f47 (cd Tryd.f47) [.c (.int false .i64 n)] []).path [true, true] = some ([decide (n < 0) == false, decide (n > 8192)], .one (.c (.int true .i64 0)), []) := by kernel_rfl
theorem bd_c (n : Int) : (bodyT E3 Tryd.prog allLoops Tryd.f47 (cd Tryd.f47) [.c (.int false .i64 n)] []).path [true, false, true] = some ([decide (n < 0) == false, decide (n > 8192), decide (1 ≤ sui n 11)], .one (.c (.int false .i64 (mst n (sui n 11)))), []) := by kernel_rfl
theorem ok_mBound : EntryOk Tryd.prog G0 47 TBound := by
  refine (EntryOk.subU (bodyT_ok okE3 mx (un := allLoops) (fn := Tryd.f47) (c := cd Tryd.f47) (by kernel_rfl) (by kernel_rfl) (by kernel_rfl)).unlit) (fun vs hl r ok h => ?_)
  unfold TBound at h
  split at h
  · rename_i l n
    obtain rfl := val_ret h
    by_cases h0 : n < 0
    · refine ⟨_, Tree.path_val (cs := [false]) ((bd_a n).trans (by rw [decide_eq_true h0]; rfl)), ?_⟩
      unfold bnd; rw [if_pos (.inl h0)]; rfl
    · by_cases h1 : 8192 < n
      · refine ⟨_, Tree.path_val (cs := [true, true]) ((bd_b n).trans (by rw [decide_eq_false h0, decide_eq_true h1]; rfl)), ?_⟩
        unfold bnd; rw [if_pos (.inr h1)]; rfl
      · refine ⟨_, Tree.path_val (cs := [true, false, true]) ((bd_c n).trans (by rw [decide_eq_false h0, decide_eq_false h1, decide_eq_true (sui_pos n 11).1]; rfl)), ?_⟩
        unfold bnd; rw [if_neg (by omega), ← sui_lea]; rfl
  · cases h
noncomputable def rB (k : List Item) (s : St) : Tree Out := runK E3 Tryd.prog noLoops 400 k s
noncomputable def sB (n : Int) : St := ⟨enterT Tryd.f49 [.c (.int false .i64 n)], []⟩
noncomputable def KB : List Item := leftT [true, false, true] (rB [.code (cd Tryd.f49)] (sB 0))
noncomputable def stB (n b w : Int) : St := ⟨slotsOf 26 [(0, one (.int false .i64 n)), (3, one (.int false .i64 b)), (4, one (.int false .i64 w))], []⟩
theorem be_a (n : Int) : endT Tryd.prog Tryd.f49 [] [false] (rB [.code (cd Tryd.f49)] (sB n)) = some ([decide (n < 0) == false], .one (.c (.int true .i64 0)), []) := by kernel_rfl
theorem be_b (n : Int) : endT Tryd.prog Tryd.f49 [] [true, true] (rB [.code (cd Tryd.f49)] (sB n)) = some ([decide (n < 0) == false, decide (n > 8192)], .one (.c (.int true .i64 0)), []) := by kernel_rfl
theorem be_c (n : Int) : pieceT [0, 3, 4] [3, 4] [] [true, false, true] (rB [.code (cd Tryd.f49)] (sB n)) = some ([decide (n < 0) == false, decide (n > 8192), true], KB, stB n (mst n 1) 2) := by kernel_rfl
theorem be_d (n b w : Int) : pieceT [0, 3, 4] [3, 4] [] [true, true, true] (rB KB (stB n b w)) = some ([decide (w < 13), decide (1 ≤ w), decide (mst n w < b)], KB, stB n (mst n w) (iw (w + 1))) := by kernel_rfl
theorem be_e (n b w : Int) : pieceT [0, 3, 4] [3, 4] [] [true, true, false] (rB KB (stB n b w)) = some ([decide (w < 13), decide (1 ≤ w), decide (mst n w < b)], KB, stB n b (iw (w + 1))) := by kernel_rfl
theorem be_f (n b w : Int) : endT Tryd.prog Tryd.f49 [] [false] (rB KB (stB n b w)) = some ([decide (w < 13)], .one (.c (.int false .i64 b)), []) := by kernel_rfl
theorem bound_runs (n : Int) (h : ¬ (n < 0 ∨ 8192 < n)) : Runs Tryd.prog E3 Tryd.f49 0 [.code (cd Tryd.f49)] (sB n) (.one (.c (.int false .i64 (lea n 11)))) [] := by
  refine Runs.piece okE3 mx (be_c n) (by rw [decide_eq_false (by omega), decide_eq_false (by omega)]; rfl) (by rfl) ?_
  refine loopG (st := fun k (b : Int) => stB n b ((k + 2 : Nat) : Int)) (I := fun k b => b = lea n k) (n := 11) (fun k b hk hI => ?_) (fun b hI => ?_) 11 0 (mst n 1) rfl rfl
  · subst hI
    by_cases hlt : mst n (k + 2 : Nat) < lea n k
    · refine ⟨_, by show _ = if _ then _ else _; rw [if_pos hlt], fun hr => ?_⟩
      have hb := be_d n (lea n k) (k + 2 : Nat)
      rw [iwk (by omega), decide_eq_true (by omega), decide_eq_true (by omega), decide_eq_true hlt] at hb
      exact Runs.piece okE3 mx hb rfl (by rfl) hr
    · refine ⟨lea n k, by show _ = if _ then _ else _; rw [if_neg hlt], fun hr => ?_⟩
      have hb := be_e n (lea n k) (k + 2 : Nat)
      rw [iwk (by omega), decide_eq_true (by omega), decide_eq_true (by omega), decide_eq_false hlt] at hb
      exact Runs.piece okE3 mx hb rfl (by rfl) hr
  · have hI : b = lea n 11 := hI
    rw [← hI]
    exact Runs.last okE3 mx (be_f n b ((11 + 2 : Nat) : Int)) (by rw [decide_eq_false (by omega)]) (by rfl)
theorem ok_r7Bound : EntryOk Tryd.prog G0 49 TBound := by
  refine EntryOk.runs (S := E3) (fn := Tryd.f49) (c := cd Tryd.f49) (by kernel_rfl) (by kernel_rfl) (by kernel_rfl) (fun vs hl r hl' ok h => ?_)
  unfold TBound at h
  split at h
  · rename_i l n
    obtain ⟨rfl, rfl⟩ := Prod.mk.inj (val_ret h)
    refine lit_int [0] (s' := sB n) ?_ (by kernel_rfl)
    by_cases h0 : n < 0 ∨ 8192 < n
    · have e : bnd n = 0 := by unfold bnd; rw [if_pos h0]
      rw [e]
      by_cases h1 : n < 0
      · exact Runs.resU (v := .one (.c (.int true .i64 0))) (Runs.last okE3 mx (be_a n) (by rw [decide_eq_true h1]; rfl) (by rfl))
      · exact Runs.resU (v := .one (.c (.int true .i64 0))) (Runs.last okE3 mx (be_b n) (by rw [decide_eq_false h1, decide_eq_true (by omega)]; rfl) (by rfl))
    · have e : bnd n = lea n 11 := by unfold bnd; rw [if_neg h0]
      rw [e]
      exact bound_runs n h0
  · cases h
noncomputable def E4 : Tab := (E3.put 47 0 TBound).put 49 0 TBound
theorem okE4 : SpecOk Tryd.prog E4 := (okE3.put ok_mBound).put ok_r7Bound
end Go.Sc

namespace Go.Sc
open Go Go.SX Go.Proofs

def pr (b c : Int) : V1 := .g [.c (.int false .i64 b), .c (.int false .i64 c)]
def iand (x y : Int) : Int := IntKind.i64.wrap ((BitVec.ofInt 64 x &&& BitVec.ofInt 64 y).toNat : Int)
def p2 (x m : Int) : Bool := decide (1 ≤ x) && (decide (x ≤ m) && (iand x (iw (x - 1)) == 0))
def alw (b c : Int) : Bool := p2 b 64 && p2 c 16
theorem al_1 (b c : Int) : (bodyT E4 Tryd.prog allLoops Tryd.f28 (cd Tryd.f28) [pr b c] []).path [false] = some ([decide (b ≥ 1) == true], .one (.c (.bool true false)), []) := by kernel_rfl
theorem al_2 (b c : Int) : (bodyT E4 Tryd.prog allLoops Tryd.f28 (cd Tryd.f28) [pr b c] []).path [true, false] = some ([decide (b ≥ 1) == true, decide (b ≤ 64) == true], .one (.c (.bool true false)), []) := by kernel_rfl
theorem al_3 (b c : Int) : (bodyT E4 Tryd.prog allLoops Tryd.f28 (cd Tryd.f28) [pr b c] []).path [true, true, false] = some ([decide (b ≥ 1) == true, decide (b ≤ 64) == true, (iand b (iw (b - 1)) == 0) == true], .one (.c (.bool true false)), []) := by kernel_rfl
theorem al_4 (b c : Int) : (bodyT E4 Tryd.prog allLoops Tryd.f28 (cd Tryd.f28) [pr b c] []).path [true, true, true, false] = some ([decide (b ≥ 1) == true, decide (b ≤ 64) == true, (iand b (iw (b - 1)) == 0) == true, decide (c ≥ 1) == true], .one (.c (.bool true false)), []) := by kernel_rfl
theorem al_5 (b c : Int) : (bodyT E4 Tryd.prog allLoops Tryd.f28 (cd Tryd.f28) [pr b c] []).path [true, true, true, true, false] = some ([decide (b ≥ 1) == true, decide (b ≤ 64) == true, (iand b (iw (b - 1)) == 0) == true, decide (c ≥ 1) == true, decide (c ≤ 16) == true], .one (.c (.bool true false)), []) := by kernel_rfl
theorem al_6 (b c : Int) : (bodyT E4 Tryd.prog allLoops Tryd.f28 (cd Tryd.f28) [pr b c] []).path [true, true, true, true, true] = some ([decide (b ≥ 1) == true, decide (b ≤ 64) == true, (iand b (iw (b - 1)) == 0) == true, decide (c ≥ 1) == true, decide (c ≤ 16) == true], .one (.c (.bool false (iand c (iw (c - 1)) == 0))), []) := by kernel_rfl
def TAllowed (vs : List V1) (hl : Heap) : Tree (SV × Heap) :=
  match vs, hl with
  | [.g [.c (.int _ .i64 b), .c (.int _ .i64 c)]], [] => .ret (.one (.c (.bool false (alw b c))), [])
  | _, _ => .fail
theorem ok_Allowed : EntryOk Tryd.prog G0 28 TAllowed := by
  refine (EntryOk.subU (bodyT_ok okE4 mx (un := allLoops) (fn := Tryd.f28) (c := cd Tryd.f28) (by kernel_rfl) (by kernel_rfl) (by kernel_rfl)).unlitG) (fun vs hl r ok h => ?_)
  unfold TAllowed at h
  split at h
  · rename_i l b l' c
    obtain rfl := val_ret h
    unfold alw p2
    by_cases h1 : 1 ≤ b
    · by_cases h2 : b ≤ 64
      · cases h3 : iand b (iw (b - 1)) == 0 with
        | true =>
          by_cases h4 : 1 ≤ c
          · by_cases h5 : c ≤ 16
            · refine ⟨_, Tree.path_val (cs := [true, true, true, true, true]) ((al_6 b c).trans (by rw [decide_eq_true h1, decide_eq_true h2, h3, decide_eq_true h4, decide_eq_true h5]; rfl)), ?_⟩
              rw [decide_eq_true h1, decide_eq_true h2, decide_eq_true h4, decide_eq_true h5]; rfl
            · refine ⟨_, Tree.path_val (cs := [true, true, true, true, false]) ((al_5 b c).trans (by rw [decide_eq_true h1, decide_eq_true h2, h3, decide_eq_true h4, decide_eq_false h5]; rfl)), ?_⟩
              rw [decide_eq_false h5, Bool.false_and, Bool.and_false, Bool.and_false]; rfl
          · refine ⟨_, Tree.path_val (cs := [true, true, true, false]) ((al_4 b c).trans (by rw [decide_eq_true h1, decide_eq_true h2, h3, decide_eq_false h4]; rfl)), ?_⟩
            rw [decide_eq_false h4, Bool.false_and, Bool.and_false]; rfl
        | false =>
          refine ⟨_, Tree.path_val (cs := [true, true, false]) ((al_3 b c).trans (by rw [decide_eq_true h1, decide_eq_true h2, h3]; rfl)), ?_⟩
          rw [Bool.and_false, Bool.and_false, Bool.false_and]; rfl
      · refine ⟨_, Tree.path_val (cs := [true, false]) ((al_2 b c).trans (by rw [decide_eq_true h1, decide_eq_false h2]; rfl)), ?_⟩
        rw [decide_eq_false h2, Bool.false_and, Bool.and_false, Bool.false_and]; rfl
    · refine ⟨_, Tree.path_val (cs := [false]) ((al_1 b c).trans (by rw [decide_eq_false h1]; rfl)), ?_⟩
      rw [decide_eq_false h1, Bool.false_and, Bool.false_and]; rfl
  · cases h
/-- what is allowed -/
theorem alw_of {b c : Int} (h : alw b c = true) : (1 ≤ b ∧ b ≤ 64) ∧ (1 ≤ c ∧ c ≤ 16) := by
  unfold alw p2 at h
  simp only [Bool.and_eq_true, decide_eq_true_eq] at h
  omega
def TSize (vs : List V1) (hl : Heap) : Tree (SV × Heap) :=
  match vs, hl with
  | [.g [.c (.int _ .i64 b), .c (.int _ .i64 c)]], [] => .ret (.one (.c (.int false .i64 (iw (b * c)))), [])
  | _, _ => .fail
theorem sz_b (b c : Int) : (bodyT E4 Tryd.prog allLoops Tryd.f44 (cd Tryd.f44) [pr b c] []).path [] = some ([], .one (.c (.int false .i64 (iw (b * c)))), []) := by kernel_rfl
theorem ok_Size : EntryOk Tryd.prog G0 44 TSize := by
  refine EntryOk.sub (bodyT_ok okE4 mx (un := allLoops) (fn := Tryd.f44) (c := cd Tryd.f44) (by kernel_rfl) (by kernel_rfl) (by kernel_rfl)).unlitG (fun vs hl r ok h => ?_)
  unfold TSize at h
  split at h
  · rename_i l b l' c
    obtain rfl := val_ret h
    exact Tree.path_val (sz_b b c)
  · cases h
noncomputable def E5 : Tab := (E4.put 28 0 TAllowed).put 44 0 TSize
theorem okE5 : SpecOk Tryd.prog E5 := (okE4.put ok_Allowed).put ok_Size

/-! ### Rounds -/
def rnd (s : Int) : Nat → Nat → Nat
  | 0, k => k
  | d + 1, k => if iw (1 * 2 ^ (min k 64)) < s then rnd s d (k + 1) else k
def TRounds (vs : List V1) (hl : Heap) : Tree (SV × Heap) :=
  match vs, hl with
  | [.g [.c (.int _ .i64 b), .c (.int _ .i64 c)]], [] => Tree.chk (decide (iw (b * c) ≤ 1024)) (.ret (.one (.c (.int false .i64 (rnd (iw (b * c)) 10 0 : Nat))), []))
  | _, _ => .fail
noncomputable def rR (k : List Item) (s : St) : Tree Out := runK E5 Tryd.prog noLoops 400 k s
noncomputable def sR (b c : Int) : St := ⟨enterT Tryd.f48 [pr b c], []⟩
noncomputable def KR : List Item := leftT [] (rR [.code (cd Tryd.f48)] (sR 0 0))
noncomputable def stR (b c k : Int) : St := ⟨slotsOf 12 [(1, pt 0), (3, one (.int false .i64 k))], [.vals [.c (.int false .i64 b), .c (.int false .i64 c)]]⟩
theorem rr_a (b c : Int) : pieceT [1, 3] [3] [0] [] (rR [.code (cd Tryd.f48)] (sR b c)) = some ([], KR, stR b c (0 : Nat)) := by kernel_rfl
theorem rr_b (b c : Int) (k : Nat) : pieceT [1, 3] [3] [0] [true, true] (rR KR (stR b c k)) = some ([decide (0 ≤ (k : Int)), decide (iw (1 * 2 ^ (min k 64)) < iw (b * c))], KR, stR b c (iw ((k : Int) + 1))) := by kernel_rfl
theorem rr_c (b c : Int) (k : Nat) : endT Tryd.prog Tryd.f48 [] [true, false] (rR KR (stR b c k)) = some ([decide (0 ≤ (k : Int)), decide (iw (1 * 2 ^ (min k 64)) < iw (b * c))], .one (.c (.int false .i64 k)), []) := by kernel_rfl
theorem rounds_runs {b c : Int} (h : iw (b * c) ≤ 1024) : ∀ (d k : Nat), k + d = 10 → Runs Tryd.prog E5 Tryd.f48 0 KR (stR b c k) (.one (.c (.int false .i64 (rnd (iw (b * c)) d k : Nat)))) []
  | 0, k, hk => by
    obtain rfl : k = 10 := by omega
    have hc := rr_c b c 10
    have e : iw (1 * 2 ^ (min 10 64)) = 1024 := by decide
    rw [e, decide_eq_false (show ¬ (1024 : Int) < iw (b * c) by omega)] at hc
    exact Runs.last okE5 mx hc rfl (by rfl)
  | d + 1, k, hk => by
    by_cases hlt : iw (1 * 2 ^ (min k 64)) < iw (b * c)
    · have hb := rr_b b c k
      have hr := rounds_runs h d (k + 1) (by omega)
      have e : rnd (iw (b * c)) (d + 1) k = rnd (iw (b * c)) d (k + 1) := by show (if _ then _ else _) = _; rw [if_pos hlt]
      rw [e]
      rw [iwk (by omega), decide_eq_true hlt, decide_eq_true (by omega)] at hb
      exact Runs.piece okE5 mx hb rfl (by rfl) hr
    · have hc := rr_c b c k
      have e : rnd (iw (b * c)) (d + 1) k = k := by show (if _ then _ else _) = _; rw [if_neg hlt]
      rw [e]
      rw [decide_eq_false hlt, decide_eq_true (by omega)] at hc
      exact Runs.last okE5 mx hc rfl (by rfl)
theorem ok_Rounds : EntryOk Tryd.prog G0 48 TRounds := by
  refine EntryOk.unlitRuns (S := E5) (fn := Tryd.f48) (c := cd Tryd.f48) (by kernel_rfl) (by kernel_rfl) (by kernel_rfl) (fun vs hl r hl' ok h => ?_)
  unfold TRounds at h
  split at h
  · rename_i l b l' c
    obtain ⟨h1, h2⟩ := val_chk h
    obtain ⟨rfl, rfl⟩ := Prod.mk.inj (val_ret h2)
    exact Runs.piece okE5 mx (rr_a b c) rfl (by rfl) (rounds_runs (of_decide_eq_true h1) 10 0 rfl)
  · cases h
noncomputable def E6 : Tab := E5.put 48 0 TRounds
theorem okE6 : SpecOk Tryd.prog E6 := okE5.put ok_Rounds
def TrBound (vs : List V1) (hl : Heap) : Tree (SV × Heap) :=
  match vs, hl with
  | [.g [.c (.int _ .i64 b), .c (.int _ .i64 c)]], [] => .ret (.one (.c (.int false .i64 (if alw b c then bnd (iw (iw (iw (iw (2 * iw (b * c)) + c) + iw (2 * (rnd (iw (b * c)) 10 0 : Nat))) + 7)) else 0))), [])
  | _, _ => .fail
theorem rb_1 (b c : Int) : (bodyT E6 Tryd.prog allLoops Tryd.f25 (cd Tryd.f25) [pr b c] []).path [true] = some ([!alw b c], .one (.c (.int true .i64 0)), []) := by kernel_rfl
theorem rb_2 (b c : Int) : (bodyT E6 Tryd.prog allLoops Tryd.f25 (cd Tryd.f25) [pr b c] []).path [false, true] =
    some ([!alw b c, decide (iw (b * c) ≤ 1024)], .one (.c (.int false .i64 (bnd (iw (iw (iw (iw (2 * iw (b * c)) + c) + iw (2 * (rnd (iw (b * c)) 10 0 : Nat))) + 7))))), []) := by kernel_rfl
theorem rb_3 (b c : Int) : (bodyT E6 Tryd.prog allLoops Tryd.f26 (cd Tryd.f26) [pr b c] []).path [true] = some ([!alw b c], .one (.c (.int true .i64 0)), []) := by kernel_rfl
theorem rb_4 (b c : Int) : (bodyT E6 Tryd.prog allLoops Tryd.f26 (cd Tryd.f26) [pr b c] []).path [false, true] =
    some ([!alw b c, decide (iw (b * c) ≤ 1024)], .one (.c (.int false .i64 (bnd (iw (iw (iw (iw (2 * iw (b * c)) + c) + iw (2 * (rnd (iw (b * c)) 10 0 : Nat))) + 7))))), []) := by kernel_rfl
theorem size_le {b c : Int} (h : alw b c = true) : iw (b * c) = b * c ∧ 1 ≤ b * c ∧ b * c ≤ 1024 := by
  obtain ⟨⟨h1, h2⟩, h3, h4⟩ := alw_of h
  have h5 := mul_bound (A := 64) (B := 16) (by omega) h2 (by omega) h4
  have h6 : 1 * 1 ≤ b * c := Int.mul_le_mul h1 h3 (by decide) (by omega)
  exact ⟨wrap64 (by omega), by omega, by omega⟩
theorem ok_Bound : EntryOk Tryd.prog G0 25 TrBound := by
  refine (EntryOk.subU (bodyT_ok okE6 mx (un := allLoops) (fn := Tryd.f25) (c := cd Tryd.f25) (by kernel_rfl) (by kernel_rfl) (by kernel_rfl)).unlitG) (fun vs hl r ok h => ?_)
  unfold TrBound at h
  split at h
  · rename_i l b l' c
    obtain rfl := val_ret h
    cases ha : alw b c with
    | true =>
      obtain ⟨e1, e2, e3⟩ := size_le ha
      exact ⟨_, Tree.path_val (cs := [false, true]) ((rb_2 b c).trans (by rw [ha, decide_eq_true (by omega)]; rfl)), rfl⟩
    | false => exact ⟨_, Tree.path_val (cs := [true]) ((rb_1 b c).trans (by rw [ha]; rfl)), rfl⟩
  · cases h
theorem ok_rBound : EntryOk Tryd.prog G0 26 TrBound := by
  refine (EntryOk.subU (bodyT_ok okE6 mx (un := allLoops) (fn := Tryd.f26) (c := cd Tryd.f26) (by kernel_rfl) (by kernel_rfl) (by kernel_rfl)).unlitG) (fun vs hl r ok h => ?_)
  unfold TrBound at h
  split at h
  · rename_i l b l' c
    obtain rfl := val_ret h
    cases ha : alw b c with
    | true =>
      obtain ⟨e1, e2, e3⟩ := size_le ha
      exact ⟨_, Tree.path_val (cs := [false, true]) ((rb_4 b c).trans (by rw [ha, decide_eq_true (by omega)]; rfl)), rfl⟩
    | false => exact ⟨_, Tree.path_val (cs := [true]) ((rb_3 b c).trans (by rw [ha]; rfl)), rfl⟩
  · cases h
def Trpower (vs : List V1) (hl : Heap) : Tree (SV × Heap) :=
  match vs, hl with
  | [.g [.ws .u64 4 xs], .c (.int _ .i64 n)], [] => Tree.chk (decide (0 ≤ n)) (.ret (.one (ws (limbs (val xs ^ n.toNat % ell))), []))
  | _, _ => .fail
theorem rpw_b (xs : List Int) (n : Int) : (bodyT E6 Tryd.prog allLoops Tryd.f51 (cd Tryd.f51) [ws xs, .c (.int false .i64 n)] []).path [] = some ([], .one (ws (limbs (val xs ^ (um n).toNat % ell))), []) := by kernel_rfl
theorem inI {x : Int} : InK .i64 x ↔ -9223372036854775808 ≤ x ∧ x ≤ 9223372036854775807 := by
  unfold InK
  simp [IntKind.min, IntKind.max, IntKind.signed, IntKind.bits]
theorem ok_rpower : EntryOk Tryd.prog G0 51 Trpower := by
  refine EntryOk.sub (bodyT_ok okE6 mx (un := allLoops) (fn := Tryd.f51) (c := cd Tryd.f51) (by kernel_rfl) (by kernel_rfl) (by kernel_rfl)).unlit (fun vs hl r ok h => ?_)
  unfold Trpower at h
  split at h
  · rename_i xs l n
    obtain ⟨h1, h2⟩ := val_chk h
    obtain rfl := val_ret h2
    have hn := of_decide_eq_true h1
    have hi := inI.mp ok.2.1
    have hp := rpw_b xs n
    have e : um n = n := by unfold um; rw [wrapU]; omega
    rw [e] at hp
    exact Tree.path_val hp
  · cases h
noncomputable def E7 : Tab := ((E6.put 25 0 TrBound).put 26 0 TrBound).put 51 0 Trpower
theorem okE7 : SpecOk Tryd.prog E7 := ((okE6.put ok_Bound).put ok_rBound).put ok_rpower
end Go.Sc

namespace Go.Sc
open Go Go.SX Go.Proofs

def TOne (vs : List V1) (hl : Heap) : Tree (SV × Heap) :=
  match vs, hl with
  | [.g [.ws .u64 4 _]], [] => .ret (.one (ws [1, 0, 0, 0]), [])
  | _, _ => .fail
theorem one_b (xs : List Int) : (bodyT E7 Tryd.prog allLoops Tryd.f130 (cd Tryd.f130) [ws xs] []).path [] = some ([], .one (ws [1, 0, 0, 0]), []) := by kernel_rfl
theorem ok_One : EntryOk Tryd.prog G0 130 TOne := by
  refine EntryOk.sub (bodyT_ok okE7 mx (un := allLoops) (fn := Tryd.f130) (c := cd Tryd.f130) (by kernel_rfl) (by kernel_rfl) (by kernel_rfl)) (fun vs hl r ok h => ?_)
  unfold TOne at h
  split at h
  · rename_i xs
    obtain rfl := val_ret h
    exact Tree.path_val (one_b xs)
  · cases h
noncomputable def E8 : Tab := E7.put 130 0 TOne
theorem okE8 : SpecOk Tryd.prog E8 := okE7.put ok_One

/-! ### Powers -/
def powL (x : Int) (n : Nat) : List (List Int) := (List.range n).map fun i => limbs (x ^ i % ell)
def TPowers (vs : List V1) (hl : Heap) : Tree (SV × Heap) :=
  match vs, hl with
  | [.g [.ws .u64 4 xs], .c (.int _ .i64 n)], [] => Tree.chk (decide (0 ≤ n ∧ n ≤ 4096)) (.ret (.tup [.c (.sl 0 0 n.toNat), .c (.int true .i64 0)], [.arr WS (powL (val xs) n.toNat) 0 []]))
  | _, _ => .fail
noncomputable def rF (k : List Item) (s : St) : Tree Out := runK E8 Tryd.prog noLoops 400 k s
noncomputable def sF (xs : List Int) (n : Int) : St := ⟨enterT Tryd.f91 [ws xs, .c (.int false .i64 n)], []⟩
noncomputable def KF : List Item := leftT [true, false, true] (rF [.code (cd Tryd.f91)] (sF [] 0))
noncomputable def stF (xs p : List Int) (n : Nat) (ys : List (List Int)) (i : Int) : St := ⟨slotsOf 35 [(2, pt 0), (6, one (.sl 1 0 n)), (7, pt 2), (21, one (.int false .i64 n)), (22, one (.int false .i64 i))], [.vals [.ws .u64 4 xs], .arr WS ys 0 [], .vals [.ws .u64 4 p]]⟩
theorem f_a (xs : List Int) (n : Int) : pieceT [2, 6, 7, 21, 22] [22] [0, 1, 2] [true, false, true] (rF [.code (cd Tryd.f91)] (sF xs n)) =
    some ([decide (n < 0) == false, decide (n > 4096), decide (0 ≤ n ∧ n ≤ n ∧ n ≤ 281474976710656 ∧ (Tryd.prog.bytesOf 28 : Int) * n ≤ 281474976710656)], KF, stF xs [1, 0, 0, 0] n.toNat (List.replicate n.toNat [0, 0, 0, 0]) (0 : Nat)) := by kernel_rfl
theorem f_b (xs p : List Int) (n i : Nat) (ys : List (List Int)) : pieceT [2, 6, 7, 21, 22] [22] [0, 1, 2] [true, true] (rF KF (stF xs p n ys i)) =
    some ([decide ((i : Int) < n), decide (0 ≤ (i : Int) ∧ (i : Int) < n)], KF, stF xs (limbs (val p * val xs % ell)) n (ys.set (0 + i) p) (iw ((i : Int) + 1))) := by kernel_rfl
theorem f_c (xs p : List Int) (n i : Nat) (ys : List (List Int)) : endT Tryd.prog Tryd.f91 [1] [false] (rF KF (stF xs p n ys i)) =
    some ([decide ((i : Int) < n)], .tup [.c (.sl 0 0 n), .c (.int true .i64 0)], [.arr WS ys 0 []]) := by kernel_rfl
theorem powers_runs {xs : List Int} {n : Nat} (hn : n ≤ 4096) : Runs Tryd.prog E8 Tryd.f91 0 [.code (cd Tryd.f91)] (sF xs n) (.tup [.c (.sl 0 0 n), .c (.int true .i64 0)]) [.arr WS (powL (val xs) n) 0 []] := by
  have ha := f_a xs n
  rw [bytes_S, decide_eq_false (by omega), decide_eq_false (by omega), decide_eq_true (by omega), Int.toNat_natCast] at ha
  refine Runs.piece okE8 mx ha rfl (by rfl) ?_
  refine loopG (st := fun k (q : List Int × List (List Int)) => stF xs q.1 n q.2 k) (I := fun k q => q.1 = limbs (val xs ^ k % ell) ∧ q.2 = (powL (val xs) n).take k ++ List.replicate (n - k) [0, 0, 0, 0]) (n := n) (fun k q hk hI => ?_) (fun q hI => ?_) n 0 ([1, 0, 0, 0], List.replicate n [0, 0, 0, 0]) (by omega) ⟨by rw [Int.pow_zero]; rfl, rfl⟩
  · obtain ⟨p, ys⟩ := q
    obtain ⟨rfl, rfl⟩ := hI
    have hl : (powL (val xs) n).length = n := by unfold powL; rw [List.length_map, List.length_range]
    have hx : (powL (val xs) n)[k]? = some (limbs (val xs ^ k % ell)) := by
      unfold powL; rw [List.getElem?_map, List.getElem?_range hk]; rfl
    refine ⟨(limbs (val xs ^ (k + 1) % ell), _), ⟨rfl, fill_set hl hk hx⟩, fun hr => ?_⟩
    have hb := f_b xs (limbs (val xs ^ k % ell)) n k ((powL (val xs) n).take k ++ List.replicate (n - k) [0, 0, 0, 0])
    rw [val_mod, emod_mul, ← Int.pow_succ, iwk (by omega), Nat.zero_add, decide_eq_true (by omega), decide_eq_true (by omega)] at hb
    exact Runs.piece okE8 mx hb rfl (by rfl) hr
  · obtain ⟨p, ys⟩ := q
    obtain ⟨rfl, hI⟩ := hI
    have hI : ys = powL (val xs) n := by
      have hI : ys = List.take n (powL (val xs) n) ++ List.replicate (n - n) [0, 0, 0, 0] := hI
      have hl : (powL (val xs) n).length = n := by unfold powL; rw [List.length_map, List.length_range]
      rw [hI, List.take_of_length_le (by omega), Nat.sub_self]; exact List.append_nil _
    subst hI
    exact Runs.last okE8 mx (f_c xs _ n n (powL (val xs) n)) (by rw [decide_eq_false (by omega)]) (by rfl)
theorem ok_APowers : EntryOk Tryd.prog G0 91 TPowers := by
  refine EntryOk.runs (S := E8) (fn := Tryd.f91) (c := cd Tryd.f91) (by kernel_rfl) (by kernel_rfl) (by kernel_rfl) (fun vs hl r hl' ok h => ?_)
  unfold TPowers at h
  split at h
  · rename_i xs l n
    obtain ⟨h1, h2⟩ := val_chk h
    obtain ⟨h3, h4⟩ := of_decide_eq_true h1
    obtain ⟨rfl, rfl⟩ := Prod.mk.inj (val_ret h2)
    obtain ⟨m, rfl⟩ : ∃ m : Nat, n = (m : Int) := ⟨n.toNat, by omega⟩
    rw [Int.toNat_natCast]
    exact lit_int [1] (powers_runs (by omega)) (by kernel_rfl)
  · cases h

/-! ### Sum -/
def TSum (vs : List V1) (hl : Heap) : Tree (SV × Heap) :=
  match vs, hl with
  | [.c (.ro (.ws .u64 4) xs n)], [] => Tree.chk (decide (n = List.length (α := List Int) xs ∧ n ≤ 1048576)) (.ret (.one (ws (limbs ((List.map val xs).sum % ell))), []))
  | _, _ => .fail
noncomputable def rG (k : List Item) (s : St) : Tree Out := runK E8 Tryd.prog noLoops 400 k s
noncomputable def sG (xs : List (List Int)) (n : Nat) : St := ⟨enterT Tryd.f73 [.c (.ro WS xs n)], []⟩
noncomputable def KG : List Item := leftT [] (rG [.code (cd Tryd.f73)] (sG [] 0))
noncomputable def stG (xs : List (List Int)) (n : Nat) (s : List Int) (i : Int) : St := ⟨slotsOf 18 [(2, pt 0), (3, pt 1), (6, one (.ro WS xs n)), (7, one (.int false .i64 n)), (8, one (.int false .i64 i))], [.vals [.ws .u64 4 [0, 0, 0, 0]], .vals [.ws .u64 4 s]]⟩
theorem g_a (xs : List (List Int)) (n : Nat) : pieceT [2, 3, 6, 7, 8] [8] [0, 1] [] (rG [.code (cd Tryd.f73)] (sG xs n)) = some ([], KG, stG xs n [0, 0, 0, 0] (0 : Nat)) := by kernel_rfl
theorem g_b (xs : List (List Int)) (n i : Nat) (s : List Int) : pieceT [2, 3, 6, 7, 8] [8] [0, 1] [true, true] (rG KG (stG xs n s i)) =
    some ([decide ((i : Int) < n), decide (0 ≤ (i : Int) ∧ (i : Int) < n)], KG, stG xs n (limbs ((val s + val (xs.getD i [0, 0, 0, 0])) % ell)) (iw ((i : Int) + 1))) := by kernel_rfl
theorem g_c (xs : List (List Int)) (n i : Nat) (s : List Int) : endT Tryd.prog Tryd.f73 [] [false] (rG KG (stG xs n s i)) = some ([decide ((i : Int) < n)], .one (ws s), []) := by kernel_rfl
theorem mod_add2 (a b : Int) : (a % ell + b) % ell = (a + b) % ell := by unfold ell; omega
theorem sum_take_succ {f : List Int → Int} {xs : List (List Int)} {k : Nat} (h : k < xs.length) : ((xs.take (k + 1)).map f).sum = ((xs.take k).map f).sum + f (xs.getD k [0, 0, 0, 0]) := by
  rw [List.take_succ_eq_append_getElem h, List.map_append, List.sum_append, List.getD_eq_getElem?_getD, List.getElem?_eq_getElem h]
  simp
theorem sum_runs {xs : List (List Int)} {n : Nat} (hn : n = xs.length) (hb : n ≤ 1048576) : Runs Tryd.prog E8 Tryd.f73 0 [.code (cd Tryd.f73)] (sG xs n) (.one (ws (limbs ((xs.map val).sum % ell)))) [] := by
  refine Runs.piece okE8 mx (g_a xs n) rfl (by rfl) ?_
  refine loopG (st := fun k (s : List Int) => stG xs n s k) (I := fun k s => s = limbs (((xs.take k).map val).sum % ell)) (n := n) (fun k s hk hI => ?_) (fun s hI => ?_) n 0 [0, 0, 0, 0] (by omega) rfl
  · subst hI
    refine ⟨_, rfl, fun hr => ?_⟩
    have hb := g_b xs n k (limbs (((xs.take k).map val).sum % ell))
    rw [val_mod, mod_add2, ← sum_take_succ (by omega), iwk (by omega), decide_eq_true (by omega), decide_eq_true (by omega)] at hb
    exact Runs.piece okE8 mx hb rfl (by rfl) hr
  · have hI : s = limbs (((xs.take n).map val).sum % ell) := hI
    rw [List.take_of_length_le (by omega)] at hI
    subst hI
    exact Runs.last okE8 mx (g_c xs n n _) (by rw [decide_eq_false (by omega)]) (by rfl)
theorem ok_ASum : EntryOk Tryd.prog G0 73 TSum := by
  refine EntryOk.runs (S := E8) (fn := Tryd.f73) (c := cd Tryd.f73) (by kernel_rfl) (by kernel_rfl) (by kernel_rfl) (fun vs hl r hl' ok h => ?_)
  unfold TSum at h
  split at h
  · rename_i xs n
    obtain ⟨h1, h2⟩ := val_chk h
    obtain ⟨h3, h4⟩ := of_decide_eq_true h1
    obtain ⟨rfl, rfl⟩ := Prod.mk.inj (val_ret h2)
    exact sum_runs h3 h4
  · cases h
noncomputable def E9 : Tab := (E8.put 91 1 TPowers).put 73 0 TSum
theorem okE9 : SpecOk Tryd.prog E9 := (okE8.put ok_APowers).put ok_ASum
end Go.Sc

namespace Go.Sc
open Go Go.SX Go.Proofs

def stepRow (x : Int) (n : Nat) : List (List Int) := (List.range n).map fun k => limbs (x * 2 ^ k % ell)
def stepL (z : Int) (b c : Nat) : List (List Int) := (List.range c).flatMap fun j => stepRow (z ^ (2 + j)) b
theorem stepRow_succ (x : Int) (n : Nat) : stepRow x (n + 1) = stepRow x n ++ [limbs (x * 2 ^ n % ell)] := by
  unfold stepRow; rw [List.range_succ, List.map_append]; rfl
theorem stepL_succ (z : Int) (b c : Nat) : stepL z b (c + 1) = stepL z b c ++ stepRow (z ^ (2 + c)) b := by
  unfold stepL; rw [List.range_succ, List.flatMap_append]; simp
theorem stepRow_len (x : Int) (n : Nat) : (stepRow x n).length = n := by unfold stepRow; rw [List.length_map, List.length_range]
theorem stepL_len (z : Int) (b : Nat) : ∀ c, (stepL z b c).length = c * b
  | 0 => by rw [Nat.zero_mul]; rfl
  | c + 1 => by rw [stepL_succ, List.length_append, stepL_len z b c, stepRow_len, Nat.add_mul, Nat.one_mul]

noncomputable def rI (k : List Item) (s : St) : Tree Out := runK E9 Tryd.prog noLoops 400 k s
noncomputable def sI (b c : Int) (y z : List Int) : St := ⟨enterT Tryd.f70 [pr b c, ws y, ws z], []⟩
noncomputable def KI : List Item := leftT [true] (rI [.code (cd Tryd.f70)] (sI 0 0 [] []))
def hI (b c : Int) (z w : List Int) (ys : List (List Int)) : Heap := [.vals [.c (.int false .i64 b), .c (.int false .i64 c)], .vals [.ws .u64 4 z], .arr WS ys 0 [], .vals [.ws .u64 4 w]]
noncomputable def stI (b c : Int) (z w : List Int) (ys : List (List Int)) (n : Nat) (sc : Cell) (i : Int) (h : Heap) : St :=
  ⟨slotsOf 43 [(3, pt 0), (5, pt 1), (6, one (.sl 2 0 n)), (7, one sc), (8, pt 3), (21, one (.int false .i64 c)), (22, one (.int false .i64 i))], hI b c z w ys ++ h⟩
noncomputable def KJ : List Item := leftT [true] (rI KI (stI 0 0 [] [] [] 0 .nils 0 []))
noncomputable def stJ (b c : Int) (z w : List Int) (ys : List (List Int)) (n : Nat) (sc : Cell) (i : Int) (q : Nat) (k : Int) (h : Heap) : St :=
  ⟨slotsOf 43 [(3, pt 0), (5, pt 1), (6, one (.sl 2 0 n)), (7, one sc), (8, pt 3), (9, pt q), (21, one (.int false .i64 c)), (22, one (.int false .i64 i)), (26, one (.int false .i64 b)), (27, one (.int false .i64 k))], hI b c z w ys ++ h⟩
theorem i_a (b c : Int) (y z : List Int) : pieceT [3, 5, 6, 7, 8, 21, 22] [22] [0, 2, 3, 4] [true] (rI [.code (cd Tryd.f70)] (sI b c y z)) =
    some ([decide (0 ≤ iw (b * c) ∧ iw (b * c) ≤ 4096)], KI, stI b c z (limbs (val z * val z % ell)) (powL (val y) (iw (b * c)).toNat) (iw (b * c)).toNat .nils (0 : Nat) []) := by kernel_rfl
theorem i_bZ (b c : Int) (z w : List Int) (ys : List (List Int)) (n i : Nat) : pieceT [3, 5, 6, 7, 8, 9, 21, 22, 26, 27] [27] [0, 1, 2, 3, 4] [true] (rI KI (stI b c z w ys n .nils i [])) =
    some ([decide ((i : Int) < c)], KJ, stJ b c z w ys n .nils i 4 (0 : Nat) [.vals [.ws .u64 4 w]]) := by kernel_rfl
theorem i_bN (b c : Int) (z w : List Int) (ys ss : List (List Int)) (n m i : Nat) : pieceT [3, 5, 6, 7, 8, 9, 21, 22, 26, 27] [27] [0, 1, 2, 3, 4, 5] [true] (rI KI (stI b c z w ys n (.sl 4 0 m) i [.arr WS ss 0 []])) =
    some ([decide ((i : Int) < c)], KJ, stJ b c z w ys n (.sl 4 0 m) i 5 (0 : Nat) [.arr WS ss 0 [], .vals [.ws .u64 4 w]]) := by kernel_rfl
theorem i_c (b c : Int) (z w : List Int) (ys ss : List (List Int)) (n m i : Nat) : endT Tryd.prog Tryd.f70 [2, 4] [false] (rI KI (stI b c z w ys n (.sl 4 0 m) i [.arr WS ss 0 []])) =
    some ([decide ((i : Int) < c)], .tup [.c (.sl 0 0 n), .c (.sl 1 0 m)], [.arr WS ys 0 [], .arr WS ss 0 []]) := by kernel_rfl
theorem i_dZ (b c : Int) (z w s : List Int) (ys : List (List Int)) (n i k : Nat) : pieceT [3, 5, 6, 7, 8, 9, 21, 22, 26, 27] [27] [0, 1, 2, 3, 6, 4] [true, true] (rI KJ (stJ b c z w ys n .nils i 4 k [.vals [.ws .u64 4 s]])) =
    some ([decide ((k : Int) < b), true], KJ, stJ b c z w ys n (.sl 4 0 1) i 5 (iw ((k : Int) + 1)) [.arr WS [s] 0 [], .vals [.ws .u64 4 (limbs ((val s + val s) % ell))]]) := by kernel_rfl
theorem i_dN (b c : Int) (z w s : List Int) (ys ss : List (List Int)) (n m i k : Nat) : pieceT [3, 5, 6, 7, 8, 9, 21, 22, 26, 27] [27] [0, 1, 2, 3, 7, 5] [true, true] (rI KJ (stJ b c z w ys n (.sl 4 0 m) i 5 k [.arr WS ss 0 [], .vals [.ws .u64 4 s]])) =
    some ([decide ((k : Int) < b), decide (m = ss.length) && (SX.room (m + 1) (Tryd.prog.bytesOf 28) && SX.room (m + 1) 1)], KJ, stJ b c z w ys n (.sl 4 0 (m + 1)) i 5 (iw ((k : Int) + 1)) [.arr WS (ss ++ [s]) 0 [], .vals [.ws .u64 4 (limbs ((val s + val s) % ell))]]) := by kernel_rfl
theorem i_e (b c : Int) (z w s : List Int) (ys ss : List (List Int)) (n m i k : Nat) : pieceT [3, 5, 6, 7, 8, 21, 22] [22] [0, 1, 2, 3, 4] [false] (rI KJ (stJ b c z w ys n (.sl 4 0 m) i 5 k [.arr WS ss 0 [], .vals [.ws .u64 4 s]])) =
    some ([decide ((k : Int) < b)], KI, stI b c z (limbs (val w * val z % ell)) ys n (.sl 4 0 m) (iw ((i : Int) + 1)) [.arr WS ss 0 []]) := by kernel_rfl

section
variable {b c : Nat} {z : List Int} {ys : List (List Int)} {n : Nat}
abbrev RI (K : List Item) (s : St) (ys : List (List Int)) (n : Nat) (L : List (List Int)) : Prop := Runs Tryd.prog E9 Tryd.f70 0 K s (.tup [.c (.sl 0 0 n), .c (.sl 1 0 L.length)]) [.arr WS ys 0 [], .arr WS L 0 []]
theorem dbl (x : Int) (k : Nat) : limbs ((val (limbs (x * 2 ^ k % ell)) + val (limbs (x * 2 ^ k % ell))) % ell) = limbs (x * 2 ^ (k + 1) % ell) := by
  rw [val_mod, ← Int.add_emod, Int.pow_succ, ← Int.mul_assoc]
  congr 2; omega
theorem wnext (Z : Int) (j : Nat) : limbs (val (limbs (Z ^ (2 + j) % ell)) * Z % ell) = limbs (Z ^ (2 + (j + 1)) % ell) := by
  rw [val_mod, emod_mul, ← Int.pow_succ]; rfl
/-- the inner loop, from a slice on -/
theorem innerJ {j : Nat} (ss : List (List Int)) (hb : b ≤ 64) (hj : j ≤ 16) (hs : ss.length ≤ 1024) {L : List (List Int)} (hr : RI KI (stI b c z (limbs (val z ^ (2 + (j + 1)) % ell)) ys n (.sl 4 0 (ss ++ stepRow (val z ^ (2 + j)) b).length) (j + 1 : Nat) [.arr WS (ss ++ stepRow (val z ^ (2 + j)) b) 0 []]) ys n L) :
    ∀ d k, k + d = b → RI KJ (stJ b c z (limbs (val z ^ (2 + j) % ell)) ys n (.sl 4 0 (ss ++ stepRow (val z ^ (2 + j)) k).length) j 5 k [.arr WS (ss ++ stepRow (val z ^ (2 + j)) k) 0 [], .vals [.ws .u64 4 (limbs (val z ^ (2 + j) * 2 ^ k % ell))]]) ys n L
  | 0, k, h => by
    obtain rfl : k = b := by omega
    have he := i_e k c z (limbs (val z ^ (2 + j) % ell)) (limbs (val z ^ (2 + j) * 2 ^ k % ell)) ys (ss ++ stepRow (val z ^ (2 + j)) k) n (ss ++ stepRow (val z ^ (2 + j)) k).length j k
    rw [wnext, iwk (by omega), decide_eq_false (by omega)] at he
    exact Runs.piece okE9 mx he rfl (by rfl) hr
  | d + 1, k, h => by
    have hd := i_dN b c z (limbs (val z ^ (2 + j) % ell)) (limbs (val z ^ (2 + j) * 2 ^ k % ell)) ys (ss ++ stepRow (val z ^ (2 + j)) k) n (ss ++ stepRow (val z ^ (2 + j)) k).length j k
    have hl : (ss ++ stepRow (val z ^ (2 + j)) k).length + 1 = (ss ++ stepRow (val z ^ (2 + j)) (k + 1)).length := by rw [stepRow_succ, ← List.append_assoc, List.length_append (bs := [_])]; rfl
    have hle : (ss ++ stepRow (val z ^ (2 + j)) k).length + 1 ≤ 1048576 := by rw [List.length_append, stepRow_len]; omega
    rw [dbl, roomS hle, decide_eq_true rfl, iwk (by omega), decide_eq_true (by omega), hl, List.append_assoc, ← stepRow_succ] at hd
    exact Runs.piece okE9 mx hd rfl (by rfl) (innerJ ss hb hj hs hr d (k + 1) (by omega))
theorem plan_runs {y : List Int} (hb : 1 ≤ b ∧ b ≤ 64) (hc : 1 ≤ c ∧ c ≤ 16) : RI [.code (cd Tryd.f70)] (sI b c y z) (powL (val y) (b * c)) (b * c) (stepL (val z) b c) := by
  have hbc : b * c ≤ 1024 := Nat.mul_le_mul hb.2 hc.2
  have ha := i_a b c y z
  have e : iw ((b : Int) * c) = ((b * c : Nat) : Int) := by
    rw [← Int.natCast_mul]; exact wrap64 (by omega)
  rw [e, Int.toNat_natCast, decide_eq_true (by omega)] at ha
  refine Runs.piece okE9 mx ha rfl (by rfl) ?_
  have hw : limbs (val z * val z % ell) = limbs (val z ^ (2 + 0) % ell) := by
    rw [show val z ^ (2 + 0) = val z * val z from by rw [Nat.add_zero, show (2 : Nat) = 1 + 1 from rfl, Int.pow_succ, Int.pow_succ, Int.pow_zero, Int.one_mul]]
  rw [hw]
  -- the outer loop, from a slice on
  have outer : ∀ d j, j + d = c → RI KI (stI b c z (limbs (val z ^ (2 + j) % ell)) (powL (val y) (b * c)) (b * c) (.sl 4 0 (stepL (val z) b j).length) j [.arr WS (stepL (val z) b j) 0 []]) (powL (val y) (b * c)) (b * c) (stepL (val z) b c) := by
    intro d
    induction d with
    | zero =>
      intro j hj
      obtain rfl : j = c := by omega
      exact Runs.last okE9 mx (i_c b j z _ _ _ _ _ j) (by rw [decide_eq_false (by omega)]) (by rfl)
    | succ d ih =>
      intro j hj
      have hb2 := i_bN b c z (limbs (val z ^ (2 + j) % ell)) (powL (val y) (b * c)) (stepL (val z) b j) (b * c) (stepL (val z) b j).length j
      rw [decide_eq_true (by omega)] at hb2
      refine Runs.piece okE9 mx hb2 rfl (by rfl) ?_
      have hle : (stepL (val z) b j).length ≤ 1024 := by
        rw [stepL_len]
        have : j * b ≤ 16 * 64 := Nat.mul_le_mul (by omega) hb.2
        omega
      have hi := innerJ (b := b) (c := c) (z := z) (ys := powL (val y) (b * c)) (n := b * c) (stepL (val z) b j) (j := j) hb.2 (by omega) hle (L := stepL (val z) b c) (by rw [← stepL_succ]; exact ih (j + 1) (by omega)) b 0 (by omega)
      rw [show stepRow (val z ^ (2 + j)) 0 = [] from rfl, List.append_nil, Int.pow_zero, Int.mul_one] at hi
      exact hi
  have hz := i_bZ b c z (limbs (val z ^ (2 + 0) % ell)) (powL (val y) (b * c)) (b * c) 0
  rw [decide_eq_true (by omega)] at hz
  refine Runs.piece okE9 mx hz rfl (by rfl) ?_
  have hd := i_dZ b c z (limbs (val z ^ (2 + 0) % ell)) (limbs (val z ^ (2 + 0) % ell)) (powL (val y) (b * c)) (b * c) 0 0
  have hdb := dbl (val z ^ (2 + 0)) 0
  rw [Int.pow_zero, Int.mul_one] at hdb
  rw [hdb, iwk (by omega), decide_eq_true (by omega)] at hd
  refine Runs.piece okE9 mx hd rfl (by rfl) ?_
  have hi := innerJ (b := b) (c := c) (z := z) (ys := powL (val y) (b * c)) (n := b * c) [] (j := 0) hb.2 (by omega) (by simp) (L := stepL (val z) b c) (by
    have h1 := outer (c - 1) 1 (by omega)
    have e1 : stepL (val z) b 1 = [] ++ stepRow (val z ^ (2 + 0)) b := by
      rw [stepL_succ]; rfl
    rw [e1] at h1
    exact h1) (b - 1) 1 (by omega)
  have e1 : ([] : List (List Int)) ++ stepRow (val z ^ (2 + 0)) 1 = [limbs (val z ^ (2 + 0) % ell)] := by
    rw [stepRow_succ, Int.pow_zero, Int.mul_one]; rfl
  rw [e1] at hi
  exact hi
end
def Tplan (vs : List V1) (hl : Heap) : Tree (SV × Heap) :=
  match vs, hl with
  | [.g [.c (.int _ .i64 b), .c (.int _ .i64 c)], .g [.ws .u64 4 y], .g [.ws .u64 4 z]], [] =>
    Tree.chk (alw b c) (.ret (.tup [.c (.sl 0 0 (b.toNat * c.toNat)), .c (.sl 1 0 (stepL (val z) b.toNat c.toNat).length)], [.arr WS (powL (val y) (b.toNat * c.toNat)) 0 [], .arr WS (stepL (val z) b.toNat c.toNat) 0 []]))
  | _, _ => .fail
theorem ok_plan : EntryOk Tryd.prog G0 70 Tplan := by
  refine EntryOk.unlitRuns (S := E9) (fn := Tryd.f70) (c := cd Tryd.f70) (by kernel_rfl) (by kernel_rfl) (by kernel_rfl) (fun vs hl r hl' ok h => ?_)
  unfold Tplan at h
  split at h
  · rename_i l b l' c y z
    obtain ⟨h1, h2⟩ := val_chk h
    obtain ⟨rfl, rfl⟩ := Prod.mk.inj (val_ret h2)
    obtain ⟨⟨a1, a2⟩, a3, a4⟩ := alw_of h1
    obtain ⟨B, rfl⟩ : ∃ B : Nat, b = (B : Int) := ⟨b.toNat, by omega⟩
    obtain ⟨C, rfl⟩ : ∃ C : Nat, c = (C : Int) := ⟨c.toNat, by omega⟩
    rw [Int.toNat_natCast, Int.toNat_natCast]
    exact plan_runs ⟨by omega, by omega⟩ ⟨by omega, by omega⟩
  · cases h
noncomputable def E10 : Tab := E9.put 70 2 Tplan
theorem okE10 : SpecOk Tryd.prog E10 := okE9.put ok_plan
end Go.Sc

namespace Go.Sc
open Go Go.SX Go.Proofs

/-- equal modulo l -/
def Cg (a b : Int) : Prop := a % ell = b % ell
theorem Cg.refl (a : Int) : Cg a a := rfl
theorem Cg.symm {a b : Int} (h : Cg a b) : Cg b a := Eq.symm h
theorem Cg.trans {a b c : Int} (h : Cg a b) (h' : Cg b c) : Cg a c := Eq.trans h h'
theorem Cg.mod (a : Int) : Cg (a % ell) a := by unfold Cg; rw [Int.emod_emod_of_dvd _ (Int.dvd_refl _)]
theorem Cg.add {a b c d : Int} (h : Cg a b) (h' : Cg c d) : Cg (a + c) (b + d) := by unfold Cg at *; rw [Int.add_emod, h, h', ← Int.add_emod]
theorem Cg.sub {a b c d : Int} (h : Cg a b) (h' : Cg c d) : Cg (a - c) (b - d) := by unfold Cg at *; rw [Int.sub_emod, h, h', ← Int.sub_emod]
theorem Cg.mul {a b c d : Int} (h : Cg a b) (h' : Cg c d) : Cg (a * c) (b * d) := by unfold Cg at *; rw [Int.mul_emod, h, h', ← Int.mul_emod]
theorem Cg.pow {a b : Int} (h : Cg a b) : ∀ n : Nat, Cg (a ^ n) (b ^ n)
  | 0 => by rw [Int.pow_zero, Int.pow_zero]; exact Cg.refl _
  | n + 1 => by rw [Int.pow_succ, Int.pow_succ]; exact (Cg.pow h n).mul h

def s2 : Nat → Int
  | 0 => 0
  | k + 1 => s2 k + 2 ^ k
def sYs (Y : Int) : Nat → Int
  | 0 => 0
  | i + 1 => sYs Y i + Y ^ i
def sZs (Z U : Int) : Nat → Int
  | 0 => 0
  | j + 1 => sZs Z U j + Z ^ (2 + j) * U
def dlt (Y Z : Int) (b c : Nat) : Int := (Z - Z * Z) * sYs Y (b * c) - Z * sZs Z (s2 b) c
theorem sYs_cg {Y Y' : Int} (h : Cg Y Y') : ∀ n, Cg (sYs Y n) (sYs Y' n)
  | 0 => Cg.refl _
  | n + 1 => (sYs_cg h n).add (h.pow n)
theorem sZs_cg {Z Z' U : Int} (h : Cg Z Z') : ∀ n, Cg (sZs Z U n) (sZs Z' U n)
  | 0 => Cg.refl _
  | n + 1 => (sZs_cg h n).add ((h.pow (2 + n)).mul (Cg.refl U))
theorem dlt_cg {Y Y' Z Z' : Int} (hy : Cg Y Y') (hz : Cg Z Z') (b c : Nat) : Cg (dlt Y Z b c) (dlt Y' Z' b c) :=
  ((hz.sub (hz.mul hz)).mul (sYs_cg hy _)).sub (hz.mul (sZs_cg hz c))

theorem pow_sum (Y : Int) : ∀ n, Cg ((powL Y n).map val).sum (sYs Y n)
  | 0 => Cg.refl _
  | n + 1 => by
    have e : powL Y (n + 1) = powL Y n ++ [limbs (Y ^ n % ell)] := by unfold powL; rw [List.range_succ, List.map_append]; rfl
    rw [e, List.map_append, List.sum_append]
    refine (pow_sum Y n).add ?_
    show Cg (val (limbs (Y ^ n % ell)) + 0) _
    rw [Int.add_zero, val_mod]
    exact Cg.mod _
theorem row_sum (x : Int) : ∀ n, Cg ((stepRow x n).map val).sum (x * s2 n)
  | 0 => by rw [show s2 0 = 0 from rfl, Int.mul_zero]; exact Cg.refl _
  | n + 1 => by
    rw [stepRow_succ, List.map_append, List.sum_append, show s2 (n + 1) = s2 n + 2 ^ n from rfl, Int.mul_add]
    refine (row_sum x n).add ?_
    show Cg (val (limbs (x * 2 ^ n % ell)) + 0) _
    rw [Int.add_zero, val_mod]
    exact Cg.mod _
theorem step_sum (Z : Int) (b : Nat) : ∀ c, Cg ((stepL Z b c).map val).sum (sZs Z (s2 b) c)
  | 0 => Cg.refl _
  | c + 1 => by
    rw [stepL_succ, List.map_append, List.sum_append]
    exact (step_sum Z b c).add (row_sum _ b)

/-! ### the program's -/
def Tdelta (vs : List V1) (hl : Heap) : Tree (SV × Heap) :=
  match vs, hl with
  | [.g [.c (.int _ .i64 b), .c (.int _ .i64 c)], .g [.ws .u64 4 y], .g [.ws .u64 4 z]], [] => Tree.chk (alw b c) (.ret (.one (ws (limbs (dlt (val y) (val z) b.toNat c.toNat % ell))), []))
  | _, _ => .fail
def dA (z : List Int) : List Int := limbs ((val z - val (limbs (val z * val z % ell))) % ell)
def dS (l : List (List Int)) : List Int := limbs (((l.drop 0).map val).sum % ell)
theorem dl_b (b c : Int) (y z : List Int) : (bodyT E10 Tryd.prog allLoops Tryd.f50 (cd Tryd.f50) [pr b c, ws y, ws z] []).path [true, true, true] =
    some ([alw b c, decide (b.toNat * c.toNat = (List.drop 0 (powL (val y) (b.toNat * c.toNat))).length ∧ b.toNat * c.toNat ≤ 1048576),
      decide ((stepL (val z) b.toNat c.toNat).length = (List.drop 0 (stepL (val z) b.toNat c.toNat)).length ∧ (stepL (val z) b.toNat c.toNat).length ≤ 1048576)],
      .one (ws (limbs ((val (limbs (val (dA z) * val (dS (powL (val y) (b.toNat * c.toNat))) % ell)) - val (limbs (val z * val (dS (stepL (val z) b.toNat c.toNat)) % ell))) % ell))), []) := by kernel_rfl
theorem dl_eq (y z : List Int) (b c : Nat) : (val (limbs (val (dA z) * val (dS (powL (val y) (b * c))) % ell)) - val (limbs (val z * val (dS (stepL (val z) b c)) % ell))) % ell = dlt (val y) (val z) b c % ell := by
  unfold dA dS
  rw [val_mod, val_mod, val_mod, val_mod, val_mod, val_mod, List.drop_zero, List.drop_zero]
  refine Cg.sub ((Cg.mod _).trans (Cg.mul ((Cg.mod _).trans (Cg.sub (Cg.refl _) (Cg.mod _))) ((Cg.mod _).trans (pow_sum _ _)))) ((Cg.mod _).trans (Cg.mul (Cg.refl _) ((Cg.mod _).trans (step_sum _ _ _))))
theorem alw_nat {b c : Int} (h : alw b c = true) : ∃ B C : Nat, b = B ∧ c = C ∧ 1 ≤ B ∧ B ≤ 64 ∧ 1 ≤ C ∧ C ≤ 16 := by
  obtain ⟨⟨a1, a2⟩, a3, a4⟩ := alw_of h
  exact ⟨b.toNat, c.toNat, by omega, by omega, by omega, by omega, by omega, by omega⟩
theorem ok_delta : EntryOk Tryd.prog G0 50 Tdelta := by
  refine EntryOk.sub (bodyT_ok okE10 mx (un := allLoops) (fn := Tryd.f50) (c := cd Tryd.f50) (by kernel_rfl) (by kernel_rfl) (by kernel_rfl)).unlitG (fun vs hl r ok h => ?_)
  unfold Tdelta at h
  split at h
  · rename_i l b l' c y z
    obtain ⟨h1, h2⟩ := val_chk h
    obtain rfl := val_ret h2
    have hp := dl_b b c y z
    obtain ⟨B, C, rfl, rfl, b1, b2, b3, b4⟩ := alw_nat h1
    have hBC : B * C ≤ 64 * 16 := Nat.mul_le_mul b2 b4
    have hCB : C * B = B * C := Nat.mul_comm _ _
    have e1 : (powL (val y) (B * C)).length = B * C := by unfold powL; rw [List.length_map, List.length_range]
    rw [Int.toNat_natCast, Int.toNat_natCast, dl_eq, h1, List.drop_zero, List.drop_zero, decide_eq_true ⟨e1.symm, by omega⟩, decide_eq_true ⟨rfl, by rw [stepL_len]; omega⟩] at hp
    exact Tree.path_val hp
  · cases h
noncomputable def E11 : Tab := E10.put 50 0 Tdelta
theorem okE11 : SpecOk Tryd.prog E11 := okE10.put ok_delta
def TDelta (vs : List V1) (hl : Heap) : Tree (SV × Heap) :=
  match vs, hl with
  | [.g [.c (.int _ .i64 b), .c (.int _ .i64 c)], .g [.ws .u64 4 y], .g [.ws .u64 4 z]], [] =>
    .br (alw b c) (.ret (.tup [ws (limbs (dlt (val y) (val z) b.toNat c.toNat % ell)), .c (.int true .i64 0)], [])) (.ret (.tup [ws [0, 0, 0, 0], .c (.int true .i64 130)], []))
  | _, _ => .fail
theorem De_a (b c : Int) (y z : List Int) : (bodyT E11 Tryd.prog allLoops Tryd.f27 (cd Tryd.f27) [pr b c, ws y, ws z] []).path [true] = some ([!alw b c], .tup [ws [0, 0, 0, 0], .c (.int true .i64 130)], []) := by kernel_rfl
theorem De_b (b c : Int) (y z : List Int) : (bodyT E11 Tryd.prog allLoops Tryd.f27 (cd Tryd.f27) [pr b c, ws y, ws z] []).path [false, true] =
    some ([!alw b c, alw b c], .tup [ws (limbs (dlt (val y) (val z) b.toNat c.toNat % ell)), .c (.int true .i64 0)], []) := by kernel_rfl
theorem ok_Delta : EntryOk Tryd.prog G0 27 TDelta := by
  refine EntryOk.sub (bodyT_ok okE11 mx (un := allLoops) (fn := Tryd.f27) (c := cd Tryd.f27) (by kernel_rfl) (by kernel_rfl) (by kernel_rfl)).unlitG (fun vs hl r ok h => ?_)
  unfold TDelta at h
  split at h
  · rename_i l b l' c y z
    simp only [Tree.val] at h
    cases ha : alw b c with
    | true =>
      rw [ha] at h
      obtain rfl := Option.some.inj h
      exact Tree.path_val (cs := [false, true]) ((De_b b c y z).trans (by rw [ha]; rfl))
    | false =>
      rw [ha] at h
      obtain rfl := Option.some.inj h
      exact Tree.path_val (cs := [true]) ((De_a b c y z).trans (by rw [ha]; rfl))
  · cases h
noncomputable def E12 : Tab := E11.put 27 0 TDelta
theorem okE12 : SpecOk Tryd.prog E12 := okE11.put ok_Delta

/-! ### the document's -/
noncomputable def rH (k : List Item) (s : St) : Tree Out := runK E12 Tryd.prog noLoops 400 k s
noncomputable def sH (b c : Int) (y z : List Int) : St := ⟨enterT Tryd.f29 [pr b c, ws y, ws z], []⟩
def hH (b c : Int) (y z s : List Int) : Heap := [.vals [.c (.int false .i64 b), .c (.int false .i64 c)], .vals [.ws .u64 4 y], .vals [.ws .u64 4 z], .vals [.ws .u64 4 [0, 0, 0, 0]], .vals [.ws .u64 4 s]]
noncomputable def stH (b c : Int) (y z s : List Int) (i : Int) : St := ⟨slotsOf 59 [(3, pt 0), (4, pt 1), (5, pt 2), (6, pt 3), (7, pt 4), (8, one (.int false .i64 i))], hH b c y z s⟩
noncomputable def KH : List Item := leftT [] (rH [.code (cd Tryd.f29)] (sH 0 0 [] []))
noncomputable def KH2 : List Item := leftT [false, true] (rH KH (stH 0 0 [] [] [] 0))
noncomputable def stH2 (b c : Int) (z d t : List Int) (k : Int) : St := ⟨slotsOf 59 [(3, pt 0), (5, pt 1), (6, pt 2), (9, pt 3), (10, pt 4), (11, one (.int false .i64 k))], [.vals [.c (.int false .i64 b), .c (.int false .i64 c)], .vals [.ws .u64 4 z], .vals [.ws .u64 4 [0, 0, 0, 0]], .vals [.ws .u64 4 d], .vals [.ws .u64 4 t]]⟩
noncomputable def KH3 : List Item := leftT [false] (rH KH2 (stH2 0 0 [] [] [] 0))
noncomputable def stH3 (b c : Int) (z d t : List Int) (k : Int) : St := ⟨slotsOf 59 [(3, pt 0), (5, pt 1), (6, pt 2), (9, pt 3), (10, pt 4), (12, one (.int false .i64 k))], [.vals [.c (.int false .i64 b), .c (.int false .i64 c)], .vals [.ws .u64 4 z], .vals [.ws .u64 4 [0, 0, 0, 0]], .vals [.ws .u64 4 d], .vals [.ws .u64 4 t]]⟩
theorem hh_a (b c : Int) (y z : List Int) : pieceT [3, 4, 5, 6, 7, 8] [8] [0, 1, 2, 3, 4] [] (rH [.code (cd Tryd.f29)] (sH b c y z)) = some ([], KH, stH b c y z [0, 0, 0, 0] (0 : Nat)) := by kernel_rfl
theorem hh_b (b c : Int) (y z s : List Int) (i : Nat) : pieceT [3, 4, 5, 6, 7, 8] [8] [0, 1, 2, 3, 4] [true, true, true] (rH KH (stH b c y z s i)) =
    some ([decide ((i : Int) < iw (b * c)), decide (0 ≤ (i : Int)), decide (val s < ell ∧ val (limbs (val y ^ i % ell)) < ell)], KH, stH b c y z (limbs ((val s + val (limbs (val y ^ i % ell))) % ell)) (iw ((i : Int) + 1))) := by kernel_rfl
theorem hh_c (b c : Int) (y z s : List Int) (i : Nat) : pieceT [3, 5, 6, 9, 10, 11] [11] [0, 2, 3, 5, 6] [false, true] (rH KH (stH b c y z s i)) =
    some ([decide ((i : Int) < iw (b * c)), decide (val z < ell ∧ val (limbs (val z * val z % ell)) < ell)], KH2, stH2 b c z (limbs (val (dA z) * val s % ell)) [0, 0, 0, 0] (0 : Nat)) := by kernel_rfl
theorem hh_d (b c : Int) (z d t : List Int) (k : Nat) : pieceT [3, 5, 6, 9, 10, 11] [11] [0, 1, 2, 3, 4] [true, true, true] (rH KH2 (stH2 b c z d t k)) =
    some ([decide ((k : Int) < b), decide (0 ≤ (k : Int)), decide (val t < ell ∧ val [um (1 * 2 ^ (min k 64)), 0, 0, 0] < ell)], KH2, stH2 b c z d (limbs ((val t + val [um (1 * 2 ^ (min k 64)), 0, 0, 0]) % ell)) (iw ((k : Int) + 1))) := by kernel_rfl
theorem hh_e (b c : Int) (z d t : List Int) (k : Nat) : pieceT [3, 5, 6, 9, 10, 12] [12] [0, 1, 2, 3, 4] [false] (rH KH2 (stH2 b c z d t k)) =
    some ([decide ((k : Int) < b)], KH3, stH3 b c z d t (0 : Nat)) := by kernel_rfl
def h3x (z t : List Int) (j : Int) : List Int := limbs (val (limbs (val z ^ (iw (3 + j)).toNat % ell)) * val t % ell)
theorem hh_f (b c : Int) (z d t : List Int) (j : Nat) : pieceT [3, 5, 6, 9, 10, 12] [12] [0, 1, 2, 3, 4] [true, true, true] (rH KH3 (stH3 b c z d t j)) =
    some ([decide ((j : Int) < c), decide (0 ≤ iw (3 + (j : Int))), decide (val d < ell ∧ val (h3x z t j) < ell)], KH3, stH3 b c z (limbs ((val d - val (h3x z t j)) % ell)) t (iw ((j : Int) + 1))) := by kernel_rfl
theorem hh_g (b c : Int) (z d t : List Int) (j : Nat) : endT Tryd.prog Tryd.f29 [] [false] (rH KH3 (stH3 b c z d t j)) = some ([decide ((j : Int) < c)], .one (ws d), []) := by kernel_rfl
theorem Cg.limbs {a b : Int} (h : Cg a b) : limbs (a % ell) = limbs (b % ell) := by rw [show a % ell = b % ell from h]
section
variable {b c : Nat} {y z : List Int}
abbrev RH (K : List Item) (s : St) (x : Int) : Prop := Runs Tryd.prog E12 Tryd.f29 0 K s (.one (ws (limbs (x % ell)))) []
theorem pow_two_val {k : Nat} (h : k < 64) : val [um (1 * 2 ^ (min k 64)), 0, 0, 0] = 2 ^ k ∧ (2 : Int) ^ k < 18446744073709551616 := by
  have h1 : (2 : Int) ^ k < 18446744073709551616 := by
    have : (2 : Nat) ^ k < 2 ^ 64 := Nat.pow_lt_pow_right (by decide) h
    have e : ((2 ^ k : Nat) : Int) = 2 ^ k := by simp
    rw [← e]
    have e2 : (2 : Nat) ^ 64 = 18446744073709551616 := by decide
    omega
  have h0 : (0 : Int) ≤ 2 ^ k := Int.pow_nonneg (by decide)
  refine ⟨?_, h1⟩
  have : um (1 * 2 ^ (min k 64)) = 2 ^ k := by
    rw [Nat.min_eq_left (by omega), Int.one_mul]
    unfold um; rw [wrapU]; omega
  rw [this, val4]; omega
theorem lp3 (hb : 1 ≤ b ∧ b ≤ 64) (hc : 1 ≤ c ∧ c ≤ 16) (D : Int) : RH KH3 (stH3 b c z (limbs (D % ell)) (limbs (s2 b % ell)) (0 : Nat)) (D - val z * sZs (val z) (s2 b) c) := by
  refine loopG (st := fun j (d : List Int) => stH3 b c z d (limbs (s2 b % ell)) j) (I := fun j d => d = limbs ((D - val z * sZs (val z) (s2 b) j) % ell)) (n := c) (fun j d hj hI => ?_) (fun d hI => ?_) c 0 (limbs (D % ell)) (by omega) ?_
  · subst hI
    have hf := hh_f b c z (limbs ((D - val z * sZs (val z) (s2 b) j) % ell)) (limbs (s2 b % ell)) j
    have e3 : iw (3 + (j : Int)) = ((3 + j : Nat) : Int) := by
      rw [show (3 : Int) + j = ((3 + j : Nat) : Int) from by omega]; exact wrap64 (by omega)
    have ex : h3x z (limbs (s2 b % ell)) j = limbs (val z * (val z ^ (2 + j) * s2 b) % ell) := by
      unfold h3x
      rw [e3, Int.toNat_natCast, val_mod, val_mod]
      refine Cg.limbs ((Cg.mul (Cg.mod _) (Cg.mod _)).trans ?_)
      rw [show 3 + j = (2 + j) + 1 from by omega, Int.pow_succ, Int.mul_comm (val z ^ (2 + j)) (val z), Int.mul_assoc]
      exact Cg.refl _
    refine ⟨limbs ((D - val z * sZs (val z) (s2 b) (j + 1)) % ell), rfl, fun hr => ?_⟩
    have ed : limbs ((val (limbs ((D - val z * sZs (val z) (s2 b) j) % ell)) - val (h3x z (limbs (s2 b % ell)) j)) % ell) = limbs ((D - val z * sZs (val z) (s2 b) (j + 1)) % ell) := by
      rw [ex, val_mod, val_mod]
      refine Cg.limbs ((Cg.sub (Cg.mod _) (Cg.mod _)).trans ?_)
      rw [show sZs (val z) (s2 b) (j + 1) = sZs (val z) (s2 b) j + val z ^ (2 + j) * s2 b from rfl, Int.mul_add, Int.sub_sub]
      exact Cg.refl _
    have hlt : val (h3x z (limbs (s2 b % ell)) j) < ell := by rw [ex, val_mod]; exact (mod_bound _).2
    rw [ed, iwk (by omega), decide_eq_true (show (j : Int) < c by omega), decide_eq_true (show 0 ≤ iw (3 + (j : Int)) by rw [e3]; omega), decide_eq_true ⟨by rw [val_mod]; exact (mod_bound _).2, hlt⟩] at hf
    exact Runs.piece okE12 mx hf rfl (by rfl) hr
  · have hI : d = limbs ((D - val z * sZs (val z) (s2 b) c) % ell) := hI
    rw [← hI]
    exact Runs.last okE12 mx (hh_g b c z d _ c) (by rw [decide_eq_false (by omega)]) (by rfl)
  · show _ = limbs ((D - val z * 0) % ell)
    rw [Int.mul_zero, Int.sub_zero]
theorem lp2 (hb : 1 ≤ b ∧ b ≤ 64) (hc : 1 ≤ c ∧ c ≤ 16) (D : Int) : RH KH2 (stH2 b c z (limbs (D % ell)) [0, 0, 0, 0] (0 : Nat)) (D - val z * sZs (val z) (s2 b) c) := by
  refine loopG (st := fun k (t : List Int) => stH2 b c z (limbs (D % ell)) t k) (I := fun k t => t = limbs (s2 k % ell)) (n := b) (fun k t hk hI => ?_) (fun t hI => ?_) b 0 [0, 0, 0, 0] (by omega) rfl
  · subst hI
    obtain ⟨p1, p2⟩ := pow_two_val (k := k) (by omega)
    have hd := hh_d b c z (limbs (D % ell)) (limbs (s2 k % ell)) k
    refine ⟨limbs (s2 (k + 1) % ell), rfl, fun hr => ?_⟩
    have ed : limbs ((val (limbs (s2 k % ell)) + val [um (1 * 2 ^ (min k 64)), 0, 0, 0]) % ell) = limbs (s2 (k + 1) % ell) := by
      rw [val_mod, p1]
      exact Cg.limbs ((Cg.mod _).add (Cg.refl _))
    rw [ed, iwk (by omega), decide_eq_true (show (k : Int) < b by omega), decide_eq_true (show 0 ≤ (k : Int) by omega), decide_eq_true ⟨by rw [val_mod]; exact (mod_bound _).2, by rw [p1]; unfold ell; omega⟩] at hd
    exact Runs.piece okE12 mx hd rfl (by rfl) hr
  · have hI : t = limbs (s2 b % ell) := hI
    subst hI
    exact Runs.piece okE12 mx (hh_e b c z _ _ b) (by rw [decide_eq_false (by omega)]) (by rfl) (lp3 hb hc D)
theorem rDelta_runs (hb : 1 ≤ b ∧ b ≤ 64) (hc : 1 ≤ c ∧ c ≤ 16) (hz : val z < ell) : RH [.code (cd Tryd.f29)] (sH b c y z) (dlt (val y) (val z) b c) := by
  have hBC : b * c ≤ 64 * 16 := Nat.mul_le_mul hb.2 hc.2
  have e : iw ((b : Int) * c) = ((b * c : Nat) : Int) := by
    rw [← Int.natCast_mul]; exact wrap64 (by omega)
  refine Runs.piece okE12 mx (hh_a b c y z) rfl (by rfl) ?_
  refine loopG (st := fun i (s : List Int) => stH b c y z s i) (I := fun i s => s = limbs (sYs (val y) i % ell)) (n := b * c) (fun i s hi hI => ?_) (fun s hI => ?_) (b * c) 0 [0, 0, 0, 0] (by omega) rfl
  · subst hI
    have hb2 := hh_b b c y z (limbs (sYs (val y) i % ell)) i
    refine ⟨limbs (sYs (val y) (i + 1) % ell), rfl, fun hr => ?_⟩
    have ed : limbs ((val (limbs (sYs (val y) i % ell)) + val (limbs (val y ^ i % ell))) % ell) = limbs (sYs (val y) (i + 1) % ell) := by
      rw [val_mod, val_mod]
      exact Cg.limbs ((Cg.mod _).add (Cg.mod _))
    rw [ed, iwk (by omega), e, decide_eq_true (show (i : Int) < ((b * c : Nat) : Int) by omega), decide_eq_true (show 0 ≤ (i : Int) by omega), decide_eq_true ⟨by rw [val_mod]; exact (mod_bound _).2, by rw [val_mod]; exact (mod_bound _).2⟩] at hb2
    exact Runs.piece okE12 mx hb2 rfl (by rfl) hr
  · have hI : s = limbs (sYs (val y) (b * c) % ell) := hI
    subst hI
    have hc2 := hh_c b c y z (limbs (sYs (val y) (b * c) % ell)) (b * c)
    have ed : limbs (val (dA z) * val (limbs (sYs (val y) (b * c) % ell)) % ell) = limbs ((val z - val z * val z) * sYs (val y) (b * c) % ell) := by
      unfold dA
      rw [val_mod, val_mod, val_mod]
      exact Cg.limbs (((Cg.mod _).trans ((Cg.refl _).sub (Cg.mod _))).mul (Cg.mod _))
    rw [ed, e, decide_eq_false (show ¬ ((b * c : Nat) : Int) < ((b * c : Nat) : Int) by omega), decide_eq_true ⟨hz, by rw [val_mod]; exact (mod_bound _).2⟩] at hc2
    exact Runs.piece okE12 mx hc2 rfl (by rfl) (lp2 hb hc _)
end
def TrDelta (vs : List V1) (hl : Heap) : Tree (SV × Heap) :=
  match vs, hl with
  | [.g [.c (.int _ .i64 b), .c (.int _ .i64 c)], .g [.ws .u64 4 y], .g [.ws .u64 4 z]], [] => Tree.chk (alw b c && decide (val z < ell)) (.ret (.one (ws (limbs (dlt (val y) (val z) b.toNat c.toNat % ell))), []))
  | _, _ => .fail
theorem ok_rDelta : EntryOk Tryd.prog G0 29 TrDelta := by
  refine EntryOk.unlitRuns (S := E12) (fn := Tryd.f29) (c := cd Tryd.f29) (by kernel_rfl) (by kernel_rfl) (by kernel_rfl) (fun vs hl r hl' ok h => ?_)
  unfold TrDelta at h
  split at h
  · rename_i l b l' c y z
    obtain ⟨h1, h2⟩ := val_chk h
    rw [Bool.and_eq_true] at h1
    obtain ⟨rfl, rfl⟩ := Prod.mk.inj (val_ret h2)
    obtain ⟨B, C, rfl, rfl, b1, b2, b3, b4⟩ := alw_nat h1.1
    rw [Int.toNat_natCast, Int.toNat_natCast]
    exact rDelta_runs ⟨b1, b2⟩ ⟨b3, b4⟩ (of_decide_eq_true h1.2)
  · cases h
noncomputable def E13 : Tab := E12.put 29 0 TrDelta
theorem okE13 : SpecOk Tryd.prog E13 := okE12.put ok_rDelta
end Go.Sc

namespace Go.Sc
open Go Go.SX Go.Proofs

def nN (s : Int) : Int := iw (iw (2 * s) + 4)
def n1 (s : Int) : Int := iw (2 + s)
def n2 (s : Int) : Int := iw (2 + iw (2 * s))
def n3 (s : Int) : Int := iw (3 + iw (2 * s))
def n2' (s : Int) : Int := iw (iw (2 * s) + 2)
def n3' (s : Int) : Int := iw (iw (2 * s) + 3)
def tz : List FCell := [.ws .u64 4 [0, 0, 0, 0], .ws .u64 4 [0, 0, 0, 0], .ws .u64 4 [0, 0, 0, 0], .ws .u64 4 [0, 0, 0, 0], .c .nils, .c .nils]
def tl (xs : List Int) (s : Int) : List (List Int) := tapeL xs (nN s).toNat
def z4 : List Int := [0, 0, 0, 0]
def cA (s : Int) (len : Nat) : Bool := decide (nN s < 0 ∨ 4096 < nN s)
def cB (s : Int) (len : Nat) : Bool := decide ((len : Int) < 64 * nN s)
def cS (xs : List Int) (s : Int) : Bool := decide (0 ≤ n1 s) && decide (2 ≤ (n1 s).toNat ∧ 0 + (n1 s).toNat ≤ (tl xs s).length)
def cR (xs : List Int) (s : Int) : Bool := decide (0 ≤ n1 s) && decide (0 ≤ n2 s) && decide ((n1 s).toNat ≤ (n2 s).toNat ∧ 0 + (n2 s).toNat ≤ (tl xs s).length)
def pS (xs : List Int) (s : Int) : List (List Int) := ((tl xs s).drop (0 + 2)).take ((n1 s).toNat - 2)
def pR (xs : List Int) (s : Int) : List (List Int) := ((tl xs s).drop (0 + (n1 s).toNat)).take ((n2 s).toNat - (n1 s).toNat)
def pSl (xs : List Int) (s : Int) : Nat := (pS xs s).length
def pRl (xs : List Int) (s : Int) : Nat := (pR xs s).length
noncomputable def rmS (l : List (List Int)) : Bool := SX.room l.length (Tryd.prog.bytesOf 28) && SX.room l.length 1
def at_ (xs : List Int) (s i : Int) : List Int := (tl xs s).getD (0 + i.toNat) z4
theorem rt_1 (b c : Int) (xs : List Int) (len : Nat) : (bodyT E13 Tryd.prog allLoops Tryd.f21 (cd Tryd.f21) [pr b c, .c (.ro B1 xs len)] []).path [true] = some ([!alw b c], .tup [.g tz, .c (.int true .i64 130)], []) := by kernel_rfl
theorem rt_2 (b c : Int) (xs : List Int) (len : Nat) : (bodyT E13 Tryd.prog allLoops Tryd.f21 (cd Tryd.f21) [pr b c, .c (.ro B1 xs len)] []).path [false, true, false, true] =
    some ([!alw b c, decide (len ≤ 1099511627776), cA (iw (b * c)) len, cB (iw (b * c)) len], .tup [.g tz, .c (.int true .i64 5)], []) := by kernel_rfl
theorem rt_3 (b c : Int) (xs : List Int) (len : Nat) : (bodyT E13 Tryd.prog allLoops Tryd.f21 (cd Tryd.f21) [pr b c, .c (.ro B1 xs len)] []).path [false, true, false, false, true, true, true, true, true, true, true, true] =
    some ([!alw b c, decide (len ≤ 1099511627776), cA (iw (b * c)) len, cB (iw (b * c)) len, cS xs (iw (b * c)), rmS (pS xs (iw (b * c))), cR xs (iw (b * c)), rmS (pR xs (iw (b * c))),
      decide (0 ≤ (0 : Int) ∧ (0 : Int) < (nN (iw (b * c))).toNat), decide (0 ≤ (1 : Int) ∧ (1 : Int) < (nN (iw (b * c))).toNat), decide (0 ≤ n2' (iw (b * c)) ∧ n2' (iw (b * c)) < (nN (iw (b * c))).toNat), decide (0 ≤ n3' (iw (b * c)) ∧ n3' (iw (b * c)) < (nN (iw (b * c))).toNat)],
      .tup [.g [.ws .u64 4 (at_ xs (iw (b * c)) 0), .ws .u64 4 (at_ xs (iw (b * c)) 1), .ws .u64 4 (at_ xs (iw (b * c)) (n2' (iw (b * c)))), .ws .u64 4 (at_ xs (iw (b * c)) (n3' (iw (b * c)))), .c (.sl 0 0 (pSl xs (iw (b * c)))), .c (.sl 1 0 (pRl xs (iw (b * c))))], .c (.int true .i64 0)],
      [.arr WS (pS xs (iw (b * c))) 0 [], .arr WS (pR xs (iw (b * c))) 0 []]) := by kernel_rfl
theorem ru_1 (b c : Int) (xs : List Int) (len : Nat) : (bodyT E13 Tryd.prog allLoops Tryd.f22 (cd Tryd.f22) [pr b c, .c (.ro B1 xs len)] []).path [true] = some ([!alw b c], .tup [.g tz, .c (.int true .i64 130)], []) := by kernel_rfl
theorem ru_2 (b c : Int) (xs : List Int) (len : Nat) : (bodyT E13 Tryd.prog allLoops Tryd.f22 (cd Tryd.f22) [pr b c, .c (.ro B1 xs len)] []).path [false, true, false, true] =
    some ([!alw b c, decide (len ≤ 1099511627776 ∧ nN (iw (b * c)) ≠ 0), cA (iw (b * c)) len, cB (iw (b * c)) len], .tup [.g tz, .c (.int true .i64 5)], []) := by kernel_rfl
theorem ru_3 (b c : Int) (xs : List Int) (len : Nat) : (bodyT E13 Tryd.prog allLoops Tryd.f22 (cd Tryd.f22) [pr b c, .c (.ro B1 xs len)] []).path [false, true, false, false, true, true, true, true, true, true] =
    some ([!alw b c, decide (len ≤ 1099511627776 ∧ nN (iw (b * c)) ≠ 0), cA (iw (b * c)) len, cB (iw (b * c)) len, decide (0 ≤ (0 : Int) ∧ (0 : Int) < (nN (iw (b * c))).toNat), decide (0 ≤ (1 : Int) ∧ (1 : Int) < (nN (iw (b * c))).toNat), cS xs (iw (b * c)), cR xs (iw (b * c)),
      decide (0 ≤ n2 (iw (b * c)) ∧ n2 (iw (b * c)) < (nN (iw (b * c))).toNat), decide (0 ≤ n3 (iw (b * c)) ∧ n3 (iw (b * c)) < (nN (iw (b * c))).toNat)],
      .tup [.g [.ws .u64 4 (at_ xs (iw (b * c)) 0), .ws .u64 4 (at_ xs (iw (b * c)) 1), .ws .u64 4 (at_ xs (iw (b * c)) (n2 (iw (b * c)))), .ws .u64 4 (at_ xs (iw (b * c)) (n3 (iw (b * c)))), .c (.sl 0 (0 + 2) ((n1 (iw (b * c))).toNat - 2)), .c (.sl 0 (0 + (n1 (iw (b * c))).toNat) ((n2 (iw (b * c))).toNat - (n1 (iw (b * c))).toNat))], .c (.int true .i64 0)],
      [.arr WS (tl xs (iw (b * c))) 0 []]) := by kernel_rfl

theorem tapeL_len (xs : List Int) (n : Nat) : (tapeL xs n).length = n := by unfold tapeL; rw [List.length_map, List.length_range]
theorem nums {s : Nat} (h : 1 ≤ s ∧ s ≤ 1024) : nN s = ((2 * s + 4 : Nat) : Int) ∧ n1 s = ((2 + s : Nat) : Int) ∧ n2 s = ((2 + 2 * s : Nat) : Int) ∧ n3 s = ((3 + 2 * s : Nat) : Int) ∧ n2' s = ((2 + 2 * s : Nat) : Int) ∧ n3' s = ((3 + 2 * s : Nat) : Int) := by
  unfold nN n1 n2 n3 n2' n3'
  have e : iw (2 * (s : Int)) = ((2 * s : Nat) : Int) := by rw [show 2 * (s : Int) = ((2 * s : Nat) : Int) from by omega]; exact wrap64 (by omega)
  rw [e]
  refine ⟨?_, ?_, ?_, ?_, ?_, ?_⟩ <;> (refine (wrap64 ?_).trans ?_ <;> omega)
def tpS (xs : List Int) (s : Nat) : List (List Int) := ((tapeL xs (2 * s + 4)).drop 2).take s
def tpR (xs : List Int) (s : Nat) : List (List Int) := ((tapeL xs (2 * s + 4)).drop (2 + s)).take s
def tpA (xs : List Int) (s i : Nat) : List Int := (tapeL xs (2 * s + 4)).getD i z4
theorem tpS_len (xs : List Int) (s : Nat) : (tpS xs s).length = s := by unfold tpS; rw [List.length_take, List.length_drop, tapeL_len]; omega
theorem tpR_len (xs : List Int) (s : Nat) : (tpR xs s).length = s := by unfold tpR; rw [List.length_take, List.length_drop, tapeL_len]; omega
theorem rt_facts {s : Nat} (h : 1 ≤ s ∧ s ≤ 1024) (xs : List Int) (len : Nat) :
    cA s len = false ∧ cB s len = decide (len < 64 * (2 * s + 4)) ∧ cS xs s = true ∧ cR xs s = true ∧ pS xs s = tpS xs s ∧ pR xs s = tpR xs s ∧ tl xs s = tapeL xs (2 * s + 4) := by
  obtain ⟨e, e1, e2, _⟩ := nums h
  have et : tl xs s = tapeL xs (2 * s + 4) := by unfold tl; rw [e, Int.toNat_natCast]
  refine ⟨?_, ?_, ?_, ?_, ?_, ?_, et⟩
  · unfold cA; rw [e]; exact decide_eq_false (by omega)
  · unfold cB; rw [e]; exact decide_eq_decide.mpr (by omega)
  · unfold cS; rw [et, e1, tapeL_len, decide_eq_true (by omega), decide_eq_true (by omega)]; rfl
  · unfold cR; rw [et, e1, e2, tapeL_len, decide_eq_true (by omega), decide_eq_true (by omega), decide_eq_true (by omega)]; rfl
  · unfold pS tpS; rw [et, e1, Nat.zero_add]; congr 1; omega
  · unfold pR tpR; rw [et, e1, e2, Nat.zero_add]; congr 1; omega
theorem at_eq {s : Nat} (h : 1 ≤ s ∧ s ≤ 1024) (xs : List Int) (i : Nat) : at_ xs s (i : Int) = tpA xs s i := by
  unfold at_ tpA; rw [(rt_facts h xs 0).2.2.2.2.2.2, Int.toNat_natCast, Nat.zero_add]
theorem le_of_eq_le' {a b c : Nat} (h : a = b) (h' : b ≤ c) : a ≤ c := h ▸ h'
theorem rmS_ok {l : List (List Int)} (h : l.length ≤ 1024) : rmS l = true := by
  unfold rmS; rw [bytes_S]; simp [SX.room, h]; omega
theorem alw_mul {B C : Nat} (b1 : 1 ≤ B) (b2 : B ≤ 64) (b3 : 1 ≤ C) (b4 : C ≤ 16) : iw ((B : Int) * C) = ((B * C : Nat) : Int) ∧ 1 ≤ B * C ∧ B * C ≤ 1024 := by
  have hBC : B * C ≤ 64 * 16 := Nat.mul_le_mul b2 b4
  have h1 : 1 * 1 ≤ B * C := Nat.mul_le_mul b1 b3
  refine ⟨?_, by omega, by omega⟩
  rw [← Int.natCast_mul]; exact wrap64 (by omega)
def vT (xs : List Int) (s : Nat) (c d : Cell) : List FCell := [.ws .u64 4 (tpA xs s 0), .ws .u64 4 (tpA xs s 1), .ws .u64 4 (tpA xs s (2 + 2 * s)), .ws .u64 4 (tpA xs s (3 + 2 * s)), .c c, .c d]
def TReadTape (vs : List V1) (hl : Heap) : Tree (SV × Heap) :=
  match vs, hl with
  | [.g [.c (.int _ .i64 b), .c (.int _ .i64 c)], .c (.ro (.int .u8) xs len)], [] =>
    Tree.chk (decide (len ≤ 1099511627776)) (.br (alw b c) (.br (decide (len < 64 * (2 * (b.toNat * c.toNat) + 4))) (.ret (.tup [.g tz, .c (.int true .i64 5)], []))
      (.ret (.tup [.g (vT xs (b.toNat * c.toNat) (.sl 0 0 (b.toNat * c.toNat)) (.sl 1 0 (b.toNat * c.toNat))), .c (.int true .i64 0)], [.arr WS (tpS xs (b.toNat * c.toNat)) 0 [], .arr WS (tpR xs (b.toNat * c.toNat)) 0 []])))
      (.ret (.tup [.g tz, .c (.int true .i64 130)], [])))
  | _, _ => .fail
theorem ok_ReadTape : EntryOk Tryd.prog G0 21 TReadTape := by
  refine EntryOk.sub (bodyT_ok okE13 mx (un := allLoops) (fn := Tryd.f21) (c := cd Tryd.f21) (by kernel_rfl) (by kernel_rfl) (by kernel_rfl)).unlitG (fun vs hl r ok h => ?_)
  unfold TReadTape at h
  split at h
  · rename_i l b l' c xs len
    obtain ⟨h1, h2⟩ := val_chk h
    have h1 := of_decide_eq_true h1
    simp only [Tree.val] at h2
    cases ha : alw b c with
    | false =>
      rw [ha] at h2
      obtain rfl := Option.some.inj h2
      exact Tree.path_val (cs := [true]) ((rt_1 b c xs len).trans (by rw [ha]; rfl))
    | true =>
      rw [ha] at h2
      obtain ⟨B, C, rfl, rfl, b1, b2, b3, b4⟩ := alw_nat ha
      obtain ⟨em, s1, s2⟩ := alw_mul b1 b2 b3 b4
      obtain ⟨f1, f2, f3, f4, f5, f6, f7⟩ := rt_facts ⟨s1, s2⟩ xs len
      obtain ⟨g1, g2, g3, g4, g5, g6⟩ := nums (s := B * C) ⟨s1, s2⟩
      rw [Int.toNat_natCast, Int.toNat_natCast] at h2
      cases hl : decide (len < 64 * (2 * (B * C) + 4)) with
      | true =>
        rw [hl] at h2
        obtain rfl := Option.some.inj h2
        exact Tree.path_val (cs := [false, true, false, true]) ((rt_2 B C xs len).trans (by rw [ha, em, f1, f2, hl, decide_eq_true h1]; rfl))
      | false =>
        rw [hl] at h2
        obtain rfl := Option.some.inj h2
        have hp := rt_3 B C xs len
        have a0 : at_ xs (B * C : Nat) 0 = tpA xs (B * C) 0 := at_eq (s := B * C) ⟨s1, s2⟩ xs 0
        have a1 : at_ xs (B * C : Nat) 1 = tpA xs (B * C) 1 := at_eq (s := B * C) ⟨s1, s2⟩ xs 1
        have l1 : pSl xs (B * C : Nat) = B * C := by unfold pSl; rw [f5]; exact tpS_len xs (B * C)
        have l2 : pRl xs (B * C : Nat) = B * C := by unfold pRl; rw [f6]; exact tpR_len xs (B * C)
        have a2 := at_eq (s := B * C) ⟨s1, s2⟩ xs (2 + 2 * (B * C))
        have a3 := at_eq (s := B * C) ⟨s1, s2⟩ xs (3 + 2 * (B * C))
        rw [ha, em, f1, f2, f3, f4, f5, f6, g1, g5, g6, hl, a0, a1, a2, a3, decide_eq_true h1, rmS_ok (le_of_eq_le' (tpS_len xs (B * C)) s2), rmS_ok (le_of_eq_le' (tpR_len xs (B * C)) s2), l1, l2, Int.toNat_natCast,
          decide_eq_true (by omega), decide_eq_true (by omega), decide_eq_true (by omega), decide_eq_true (by omega)] at hp
        exact Tree.path_val hp
  · cases h
noncomputable def E14 : Tab := E13.put 21 2 TReadTape
theorem okE14 : SpecOk Tryd.prog E14 := okE13.put ok_ReadTape
def TrReadTape (vs : List V1) (hl : Heap) : Tree (SV × Heap) :=
  match vs, hl with
  | [.g [.c (.int _ .i64 b), .c (.int _ .i64 c)], .c (.ro (.int .u8) xs len)], [] =>
    Tree.chk (decide (len ≤ 1099511627776)) (.br (alw b c) (.br (decide (len < 64 * (2 * (b.toNat * c.toNat) + 4))) (.ret (.tup [.g tz, .c (.int true .i64 5)], []))
      (.ret (.tup [.g (vT xs (b.toNat * c.toNat) (.sl 0 2 (b.toNat * c.toNat)) (.sl 0 (2 + b.toNat * c.toNat) (b.toNat * c.toNat))), .c (.int true .i64 0)], [.arr WS (tapeL xs (2 * (b.toNat * c.toNat) + 4)) 0 []])))
      (.ret (.tup [.g tz, .c (.int true .i64 130)], [])))
  | _, _ => .fail
theorem ok_rReadTape : EntryOk Tryd.prog G0 22 TrReadTape := by
  refine EntryOk.sub (bodyT_ok okE13 mx (un := allLoops) (fn := Tryd.f22) (c := cd Tryd.f22) (by kernel_rfl) (by kernel_rfl) (by kernel_rfl)).unlitG (fun vs hl r ok h => ?_)
  unfold TrReadTape at h
  split at h
  · rename_i l b l' c xs len
    obtain ⟨h1, h2⟩ := val_chk h
    have h1 := of_decide_eq_true h1
    simp only [Tree.val] at h2
    cases ha : alw b c with
    | false =>
      rw [ha] at h2
      obtain rfl := Option.some.inj h2
      exact Tree.path_val (cs := [true]) ((ru_1 b c xs len).trans (by rw [ha]; rfl))
    | true =>
      rw [ha] at h2
      obtain ⟨B, C, rfl, rfl, b1, b2, b3, b4⟩ := alw_nat ha
      obtain ⟨em, s1, s2⟩ := alw_mul b1 b2 b3 b4
      obtain ⟨f1, f2, f3, f4, f5, f6, f7⟩ := rt_facts ⟨s1, s2⟩ xs len
      obtain ⟨g1, g2, g3, g4, g5, g6⟩ := nums (s := B * C) ⟨s1, s2⟩
      rw [Int.toNat_natCast, Int.toNat_natCast] at h2
      have hn : len ≤ 1099511627776 ∧ (nN (B * C : Nat)) ≠ 0 := ⟨h1, by rw [g1]; omega⟩
      cases hl : decide (len < 64 * (2 * (B * C) + 4)) with
      | true =>
        rw [hl] at h2
        obtain rfl := Option.some.inj h2
        exact Tree.path_val (cs := [false, true, false, true]) ((ru_2 B C xs len).trans (by rw [ha, em, f1, f2, hl, decide_eq_true hn]; rfl))
      | false =>
        rw [hl] at h2
        obtain rfl := Option.some.inj h2
        have hp := ru_3 B C xs len
        have a0 : at_ xs (B * C : Nat) 0 = tpA xs (B * C) 0 := at_eq (s := B * C) ⟨s1, s2⟩ xs 0
        have a1 : at_ xs (B * C : Nat) 1 = tpA xs (B * C) 1 := at_eq (s := B * C) ⟨s1, s2⟩ xs 1
        have a2 := at_eq (s := B * C) ⟨s1, s2⟩ xs (2 + 2 * (B * C))
        have a3 := at_eq (s := B * C) ⟨s1, s2⟩ xs (3 + 2 * (B * C))
        have e1 : (2 + B * C) - 2 = B * C := by omega
        have e2 : (2 + 2 * (B * C)) - (2 + B * C) = B * C := by omega
        rw [ha, em, f1, f2, f3, f4, f7, decide_eq_true hn, g1, g2, g3, g4, hl, a0, a1, a2, a3, Int.toNat_natCast, Int.toNat_natCast, Int.toNat_natCast, e1, e2, Nat.zero_add, Nat.zero_add,
          decide_eq_true (by omega), decide_eq_true (by omega), decide_eq_true (by omega), decide_eq_true (by omega)] at hp
        exact Tree.path_val hp
  · cases h
noncomputable def E15 : Tab := E14.put 22 1 TrReadTape
theorem okE15 : SpecOk Tryd.prog E15 := okE14.put ok_rReadTape
end Go.Sc

namespace Go.Sc
open Go Go.SX Go.Proofs

def Tis (vs : List V1) (hl : Heap) : Tree (SV × Heap) :=
  match vs, hl with
  | [.g [.ws .u64 4 xs], .g [.ws .u64 4 ys]], [] => .ret (.one (.c (.bool false (xs == ys && true))), [])
  | _, _ => .fail
theorem is_b (xs ys : List Int) : (bodyT E15 Tryd.prog allLoops Tryd.f23 (cd Tryd.f23) [ws xs, ws ys] []).path [] = some ([], .one (.c (.bool false (xs == ys && true))), []) := by kernel_rfl
theorem ok_is : EntryOk Tryd.prog G0 23 Tis := by
  refine EntryOk.sub (bodyT_ok okE15 mx (un := allLoops) (fn := Tryd.f23) (c := cd Tryd.f23) (by kernel_rfl) (by kernel_rfl) (by kernel_rfl)) (fun vs hl r ok h => ?_)
  unfold Tis at h
  split at h
  · rename_i xs ys
    obtain rfl := val_ret h
    exact Tree.path_val (is_b xs ys)
  · cases h
theorem num_b (xs : List Int) : (bodyT E15 Tryd.prog allLoops Tryd.f30 (cd Tryd.f30) [ws xs] []).path [] = some ([], .one (ws (limbs (val xs % ell))), []) := by kernel_rfl
theorem ok_num : EntryOk Tryd.prog G0 30 TLeast := by
  refine EntryOk.sub (bodyT_ok okE15 mx (un := allLoops) (fn := Tryd.f30) (c := cd Tryd.f30) (by kernel_rfl) (by kernel_rfl) (by kernel_rfl)) (fun vs hl r ok h => ?_)
  unfold TLeast at h
  split at h
  · rename_i xs
    obtain rfl := val_ret h
    exact Tree.path_val (num_b xs)
  · cases h

/-! ### sameNums -/
noncomputable def rSN (k : List Item) (s : St) : Tree Out := runK E15 Tryd.prog noLoops 400 k s
noncomputable def sSN (xs ys : List (List Int)) (n m : Nat) : St := ⟨enterT Tryd.f24 [.c (.ro WS xs n), .c (.ro WS ys m)], []⟩
noncomputable def KSN : List Item := leftT [false] (rSN [.code (cd Tryd.f24)] (sSN [] [] 0 0))
noncomputable def stSN (xs ys : List (List Int)) (n m : Nat) (i : Int) : St := ⟨slotsOf 26 [(0, one (.ro WS xs n)), (1, one (.ro WS ys m)), (5, one (.int false .i64 i)), (6, one (.ro WS xs n)), (7, one (.int false .i64 n)), (8, one (.ro WS ys m))], []⟩
theorem sn_a (xs ys : List (List Int)) (n m : Nat) : pieceT [0, 1, 5, 6, 7, 8] [5] [] [false] (rSN [.code (cd Tryd.f24)] (sSN xs ys n m)) =
    some ([(n : Int) != m], KSN, stSN xs ys n m (0 : Nat)) := by kernel_rfl
theorem sn_b (xs ys : List (List Int)) (n m i : Nat) : pieceT [0, 1, 5, 6, 7, 8] [5] [] [true, true, true, false] (rSN KSN (stSN xs ys n m i)) =
    some ([decide ((i : Int) < n), decide (0 ≤ (i : Int) ∧ (i : Int) < n), decide (0 ≤ (i : Int) ∧ (i : Int) < m), !(xs.getD i z4 == ys.getD i z4 && true)], KSN, stSN xs ys n m (iw ((i : Int) + 1))) := by kernel_rfl
theorem sn_c (xs ys : List (List Int)) (n m i : Nat) : endT Tryd.prog Tryd.f24 [] [false] (rSN KSN (stSN xs ys n m i)) =
    some ([decide ((i : Int) < n)], .one (.c (.bool true true)), []) := by kernel_rfl
theorem sn_nil : endT Tryd.prog Tryd.f24 [] [] (runK E15 Tryd.prog allLoops 400 [.code (cd Tryd.f24)] ⟨enterT Tryd.f24 [.c .nils, .c .nils], []⟩) = some ([], .one (.c (.bool true true)), []) := by kernel_rfl
def snB (xs ys : List (List Int)) (n m : Nat) : Bool := decide (n = m ∧ n ≤ 1048576 ∧ n ≤ xs.length ∧ xs.take n = ys.take n)
def TsameN (vs : List V1) (hl : Heap) : Tree (SV × Heap) :=
  match vs, hl with
  | [.c .nils, .c .nils], [] => .ret (.one (.c (.bool false true)), [])
  | [.c (.ro (.ws .u64 4) xs n), .c (.ro (.ws .u64 4) ys m)], [] => Tree.chk (snB xs ys n m) (.ret (.one (.c (.bool false true)), []))
  | _, _ => .fail
theorem getD_take {α : Type} {xs ys : List α} {n i : Nat} {z : α} (h : xs.take n = ys.take n) (hi : i < n) : xs.getD i z = ys.getD i z := by
  have e : (xs.take n)[i]? = (ys.take n)[i]? := by rw [h]
  rw [List.getElem?_take_of_lt hi, List.getElem?_take_of_lt hi] at e
  rw [List.getD_eq_getElem?_getD, List.getD_eq_getElem?_getD, e]
theorem sn_runs {xs ys : List (List Int)} {n : Nat} (hb : n ≤ 1048576) (h : xs.take n = ys.take n) : Runs Tryd.prog E15 Tryd.f24 0 [.code (cd Tryd.f24)] (sSN xs ys n n) (.one (.c (.bool true true))) [] := by
  have ha := sn_a xs ys n n
  rw [bne_self_eq_false] at ha
  refine Runs.piece okE15 mx ha rfl (by rfl) ?_
  refine loopG (st := fun k (_ : Unit) => stSN xs ys n n k) (I := fun _ _ => True) (n := n) (fun k a hk _ => ⟨(), trivial, fun hr => ?_⟩) (fun _ _ => ?_) n 0 () (by omega) trivial
  · have hb := sn_b xs ys n n k
    rw [iwk (by omega), decide_eq_true (by omega), decide_eq_true (by omega), getD_take h hk, beq_self_eq_true] at hb
    exact Runs.piece okE15 mx hb rfl (by rfl) hr
  · exact Runs.last okE15 mx (sn_c xs ys n n n) (by rw [decide_eq_false (by omega)]) (by rfl)
theorem ok_sameN : EntryOk Tryd.prog G0 24 TsameN := by
  refine EntryOk.runs (S := E15) (fn := Tryd.f24) (c := cd Tryd.f24) (by kernel_rfl) (by kernel_rfl) (by kernel_rfl) (fun vs hl r hl' ok h => ?_)
  unfold TsameN at h
  split at h
  · obtain ⟨rfl, rfl⟩ := Prod.mk.inj (val_ret h)
    exact (Runs.last okE15 mx sn_nil (by rfl) (by rfl)).resU
  · rename_i xs n ys m
    obtain ⟨h1, h2⟩ := val_chk h
    obtain ⟨rfl, h3, h4, h5⟩ := of_decide_eq_true h1
    obtain ⟨rfl, rfl⟩ := Prod.mk.inj (val_ret h2)
    exact (sn_runs h3 h5).resU
  · cases h
noncomputable def E16 : Tab := ((E15.put 23 0 Tis).put 30 0 TLeast).put 24 0 TsameN
theorem okE16 : SpecOk Tryd.prog E16 := ((okE15.put ok_is).put ok_num).put ok_sameN
end Go.Sc
