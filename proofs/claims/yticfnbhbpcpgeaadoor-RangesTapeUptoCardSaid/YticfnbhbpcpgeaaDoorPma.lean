/-
  Contracts of parameters and bounds, part 1.
  Contracts of parameters and bounds, part 2.
  Contracts of powers and sums of scalars.
  The plan of a range proof: powers of y, and z^(2+j) 2^k.
-/
import Derived.Test.YticfnbhbpcpgeaaDoorRf7
namespace Go.Sc
open Go Go.SX Go.Proofs

def iw (x : Int) : Int := IntKind.i64.wrap x
def wnd (w : Int) : Int := iw (iw (Int.tdiv (iw (iw (256 + w) - 1)) w) + 1)
def mst (n w : Int) : Int := iw (wnd w * iw (iw (iw (n + iw (2 * 2 ^ (min w.toNat 64))) + w) + 1))
def Twindows (vs : List V1) (hl : Heap) : Tree (SV × Heap) :=
  match vs, hl with
  | [.c (.int _ .i64 w)], [] => Tree.chk (decide (1 ≤ w)) (.ret (.one (.c (.int false .i64 (wnd w))), []))
  | _, _ => .fail
theorem win_b (w : Int) : (bodyT D11 Tryd.prog allLoops Tryd.f89 (cd Tryd.f89) [.c (.int false .i64 w)] []).path [true] = some ([decide (w ≠ 0)], .one (.c (.int false .i64 (wnd w))), []) := by kernel_rfl
theorem rwin_b (w : Int) : (bodyT D11 Tryd.prog allLoops Tryd.f90 (cd Tryd.f90) [.c (.int false .i64 w)] []).path [true] = some ([decide (w ≠ 0)], .one (.c (.int false .i64 (wnd w))), []) := by kernel_rfl
theorem ok_windows : EntryOk Tryd.prog G0 89 Twindows := by
  refine EntryOk.sub (bodyT_ok okD11 mx (un := allLoops) (fn := Tryd.f89) (c := cd Tryd.f89) (by kernel_rfl) (by kernel_rfl) (by kernel_rfl)).unlit (fun vs hl r ok h => ?_)
  unfold Twindows at h
  split at h
  · rename_i l w
    obtain ⟨h1, h2⟩ := val_chk h
    obtain rfl := val_ret h2
    have := of_decide_eq_true h1
    have hp := win_b w
    rw [decide_eq_true (by omega)] at hp
    exact Tree.path_val hp
  · cases h
theorem ok_r7Windows : EntryOk Tryd.prog G0 90 Twindows := by
  refine EntryOk.sub (bodyT_ok okD11 mx (un := allLoops) (fn := Tryd.f90) (c := cd Tryd.f90) (by kernel_rfl) (by kernel_rfl) (by kernel_rfl)).unlit (fun vs hl r ok h => ?_)
  unfold Twindows at h
  split at h
  · rename_i l w
    obtain ⟨h1, h2⟩ := val_chk h
    obtain rfl := val_ret h2
    have := of_decide_eq_true h1
    have hp := rwin_b w
    rw [decide_eq_true (by omega)] at hp
    exact Tree.path_val hp
  · cases h
noncomputable def E1 : Tab := (D11.put 89 0 Twindows).put 90 0 Twindows
theorem okE1 : SpecOk Tryd.prog E1 := (okD11.put ok_windows).put ok_r7Windows
def Tmost (vs : List V1) (hl : Heap) : Tree (SV × Heap) :=
  match vs, hl with
  | [.c (.int _ .i64 n), .c (.int _ .i64 w)], [] => Tree.chk (decide (1 ≤ w)) (.ret (.one (.c (.int false .i64 (mst n w))), []))
  | _, _ => .fail
theorem most_b (n w : Int) : (bodyT E1 Tryd.prog allLoops Tryd.f67 (cd Tryd.f67) [.c (.int false .i64 n), .c (.int false .i64 w)] []).path [true, true] = some ([decide (1 ≤ w), decide (0 ≤ w)], .one (.c (.int false .i64 (mst n w))), []) := by kernel_rfl
theorem rmost_b (n w : Int) : (bodyT E1 Tryd.prog allLoops Tryd.f69 (cd Tryd.f69) [.c (.int false .i64 n), .c (.int false .i64 w)] []).path [true, true] = some ([decide (1 ≤ w), decide (0 ≤ w)], .one (.c (.int false .i64 (mst n w))), []) := by kernel_rfl
theorem ok_most : EntryOk Tryd.prog G0 67 Tmost := by
  refine EntryOk.sub (bodyT_ok okE1 mx (un := allLoops) (fn := Tryd.f67) (c := cd Tryd.f67) (by kernel_rfl) (by kernel_rfl) (by kernel_rfl)).unlit (fun vs hl r ok h => ?_)
  unfold Tmost at h
  split at h
  · rename_i l n l' w
    obtain ⟨h1, h2⟩ := val_chk h
    obtain rfl := val_ret h2
    have := of_decide_eq_true h1
    have hp := most_b n w
    rw [h1, decide_eq_true (by omega)] at hp
    exact Tree.path_val hp
  · cases h
theorem ok_PippengerMost : EntryOk Tryd.prog G0 69 Tmost := by
  refine EntryOk.sub (bodyT_ok okE1 mx (un := allLoops) (fn := Tryd.f69) (c := cd Tryd.f69) (by kernel_rfl) (by kernel_rfl) (by kernel_rfl)).unlit (fun vs hl r ok h => ?_)
  unfold Tmost at h
  split at h
  · rename_i l n l' w
    obtain ⟨h1, h2⟩ := val_chk h
    obtain rfl := val_ret h2
    have := of_decide_eq_true h1
    have hp := rmost_b n w
    rw [h1, decide_eq_true (by omega)] at hp
    exact Tree.path_val hp
  · cases h
noncomputable def E2 : Tab := (E1.put 67 0 Tmost).put 69 0 Tmost
theorem okE2 : SpecOk Tryd.prog E2 := (okE1.put ok_most).put ok_PippengerMost

/-! ### suits -/
def sui (n : Int) : Nat → Int
  | 0 => 1
  | k + 1 => if mst n (k + 2 : Nat) < mst n (sui n k) then (k + 2 : Nat) else sui n k
def lea (n : Int) : Nat → Int
  | 0 => mst n 1
  | k + 1 => if mst n (k + 2 : Nat) < lea n k then mst n (k + 2 : Nat) else lea n k
theorem sui_lea (n : Int) : ∀ k, mst n (sui n k) = lea n k
  | 0 => rfl
  | k + 1 => by
    unfold sui lea
    rw [sui_lea n k]
    split
    · rfl
    · exact sui_lea n k
theorem sui_pos (n : Int) : ∀ k, 1 ≤ sui n k ∧ sui n k ≤ k + 1
  | 0 => ⟨Int.le_refl _, by show (1 : Int) ≤ _; omega⟩
  | k + 1 => by
    have := sui_pos n k
    unfold sui
    split <;> omega
def Tsuits (vs : List V1) (hl : Heap) : Tree (SV × Heap) :=
  match vs, hl with
  | [.c (.int _ .i64 n)], [] => .ret (.one (.c (.int false .i64 (sui n 11))), [])
  | _, _ => .fail
noncomputable def rA (k : List Item) (s : St) : Tree Out := runK E2 Tryd.prog noLoops 400 k s
noncomputable def sA (n : Int) : St := ⟨enterT Tryd.f68 [.c (.int false .i64 n)], []⟩
noncomputable def KA : List Item := leftT [] (rA [.code (cd Tryd.f68)] (sA 0))
noncomputable def stA (n b w : Int) : St := ⟨slotsOf 18 [(0, one (.int false .i64 n)), (3, one (.int false .i64 b)), (4, one (.int false .i64 w))], []⟩
theorem a_a (n : Int) : pieceT [0, 3, 4] [3, 4] [] [] (rA [.code (cd Tryd.f68)] (sA n)) = some ([], KA, stA n 1 2) := by kernel_rfl
theorem a_b (n b w : Int) : pieceT [0, 3, 4] [3, 4] [] [true, true, true, true] (rA KA (stA n b w)) = some ([decide (w ≤ 12), decide (1 ≤ w), decide (1 ≤ b), decide (mst n w < mst n b)], KA, stA n w (iw (w + 1))) := by kernel_rfl
theorem a_c (n b w : Int) : pieceT [0, 3, 4] [3, 4] [] [true, true, true, false] (rA KA (stA n b w)) = some ([decide (w ≤ 12), decide (1 ≤ w), decide (1 ≤ b), decide (mst n w < mst n b)], KA, stA n b (iw (w + 1))) := by kernel_rfl
theorem a_d (n b w : Int) : endT Tryd.prog Tryd.f68 [] [false] (rA KA (stA n b w)) = some ([decide (w ≤ 12)], .one (.c (.int false .i64 b)), []) := by kernel_rfl
theorem iwk {k : Nat} (h : k < 1099511627776) : iw ((k : Int) + 1) = ((k + 1 : Nat) : Int) := wsucc h
theorem suits_runs (n : Int) : Runs Tryd.prog E2 Tryd.f68 0 [.code (cd Tryd.f68)] (sA n) (.one (.c (.int false .i64 (sui n 11)))) [] := by
  refine Runs.piece okE2 mx (a_a n) rfl (by rfl) ?_
  refine loopG (st := fun k (b : Int) => stA n b ((k + 2 : Nat) : Int)) (I := fun k b => b = sui n k) (n := 11) (fun k b hk hI => ?_) (fun b hI => ?_) 11 0 1 rfl rfl
  · subst hI
    have hp := sui_pos n k
    by_cases hlt : mst n (k + 2 : Nat) < mst n (sui n k)
    · refine ⟨((k + 2 : Nat) : Int), by show _ = if _ then _ else _; rw [if_pos hlt], fun hr => ?_⟩
      have hb := a_b n (sui n k) (k + 2 : Nat)
      rw [iwk (by omega), decide_eq_true (by omega), decide_eq_true (by omega), decide_eq_true hp.1, decide_eq_true hlt] at hb
      exact Runs.piece okE2 mx hb rfl (by rfl) hr
    · refine ⟨sui n k, by show _ = if _ then _ else _; rw [if_neg hlt], fun hr => ?_⟩
      have hb := a_c n (sui n k) (k + 2 : Nat)
      rw [iwk (by omega), decide_eq_true (by omega), decide_eq_true (by omega), decide_eq_true hp.1, decide_eq_false hlt] at hb
      exact Runs.piece okE2 mx hb rfl (by rfl) hr
  · have hI : b = sui n 11 := hI
    rw [← hI]
    exact Runs.last okE2 mx (a_d n b ((11 + 2 : Nat) : Int)) (by rw [decide_eq_false (by omega)]) (by rfl)
theorem ok_suits : EntryOk Tryd.prog G0 68 Tsuits := by
  refine EntryOk.runs (S := E2) (fn := Tryd.f68) (c := cd Tryd.f68) (by kernel_rfl) (by kernel_rfl) (by kernel_rfl) (fun vs hl r hl' ok h => ?_)
  unfold Tsuits at h
  split at h
  · rename_i l n
    obtain ⟨rfl, rfl⟩ := Prod.mk.inj (val_ret h)
    exact lit_int [0] (suits_runs n) (by kernel_rfl)
  · cases h
noncomputable def E3 : Tab := E2.put 68 0 Tsuits
theorem okE3 : SpecOk Tryd.prog E3 := okE2.put ok_suits

/-! ### Bound -/
def bnd (n : Int) : Int := if n < 0 ∨ 8192 < n then 0 else lea n 11
def TBound (vs : List V1) (hl : Heap) : Tree (SV × Heap) :=
  match vs, hl with
  | [.c (.int _ .i64 n)], [] => .ret (.one (.c (.int false .i64 (bnd n))), [])
  | _, _ => .fail
theorem bd_a (n : Int) : (bodyT E3 Tryd.prog allLoops Tryd.f47 (cd Tryd.f47) [.c (.int false .i64 n)] []).path [false] = some ([decide (n < 0) == false], .one (.c (.int true .i64 0)), []) := by kernel_rfl
theorem bd_b (n : Int) : (bodyT E3 Tryd.prog allLoops Tryd.f47 (cd Tryd.f47) [.c (.int false .i64 n)] []).path [true, true] = some ([decide (n < 0) == false, decide (n > 8192)], .one (.c (.int true .i64 0)), []) := by kernel_rfl
theorem bd_c (n : Int) : (bodyT E3 Tryd.prog allLoops Tryd.f47 (cd Tryd.f47) [.c (.int false .i64 n)] []).path [true, false, true] = some ([decide (n < 0) == false, decide (n > 8192), decide (1 ≤ sui n 11)], .one (.c (.int false .i64 (mst n (sui n 11)))), []) := by kernel_rfl
theorem ok_mBound : EntryOk Tryd.prog G0 47 TBound := by
  refine (EntryOk.subU (bodyT_ok okE3 mx (un := allLoops) (fn := Tryd.f47) (c := cd Tryd.f47) (by kernel_rfl) (by kernel_rfl) (by kernel_rfl)).unlit) (fun vs hl r ok h => ?_)
  unfold TBound at h
  split at h
  · rename_i l n
    obtain rfl := val_ret h
    by_cases h0 : n < 0
    · refine ⟨_, Tree.path_val (cs := [false]) ((bd_a n).trans (by rw [decide_eq_true h0]; rfl)), ?_⟩
      unfold bnd; rw [if_pos (.inl h0)]; rfl
    · by_cases h1 : 8192 < n
      · refine ⟨_, Tree.path_val (cs := [true, true]) ((bd_b n).trans (by rw [decide_eq_false h0, decide_eq_true h1]; rfl)), ?_⟩
        unfold bnd; rw [if_pos (.inr h1)]; rfl
      · refine ⟨_, Tree.path_val (cs := [true, false, true]) ((bd_c n).trans (by rw [decide_eq_false h0, decide_eq_false h1, decide_eq_true (sui_pos n 11).1]; rfl)), ?_⟩
        unfold bnd; rw [if_neg (by omega), ← sui_lea]; rfl
  · cases h
noncomputable def rB (k : List Item) (s : St) : Tree Out := runK E3 Tryd.prog noLoops 400 k s
noncomputable def sB (n : Int) : St := ⟨enterT Tryd.f49 [.c (.int false .i64 n)], []⟩
noncomputable def KB : List Item := leftT [true, false, true] (rB [.code (cd Tryd.f49)] (sB 0))
noncomputable def stB (n b w : Int) : St := ⟨slotsOf 26 [(0, one (.int false .i64 n)), (3, one (.int false .i64 b)), (4, one (.int false .i64 w))], []⟩
theorem be_a (n : Int) : endT Tryd.prog Tryd.f49 [] [false] (rB [.code (cd Tryd.f49)] (sB n)) = some ([decide (n < 0) == false], .one (.c (.int true .i64 0)), []) := by kernel_rfl
theorem be_b (n : Int) : endT Tryd.prog Tryd.f49 [] [true, true] (rB [.code (cd Tryd.f49)] (sB n)) = some ([decide (n < 0) == false, decide (n > 8192)], .one (.c (.int true .i64 0)), []) := by kernel_rfl
theorem be_c (n : Int) : pieceT [0, 3, 4] [3, 4] [] [true, false, true] (rB [.code (cd Tryd.f49)] (sB n)) = some ([decide (n < 0) == false, decide (n > 8192), true], KB, stB n (mst n 1) 2) := by kernel_rfl
theorem be_d (n b w : Int) : pieceT [0, 3, 4] [3, 4] [] [true, true, true] (rB KB (stB n b w)) = some ([decide (w < 13), decide (1 ≤ w), decide (mst n w < b)], KB, stB n (mst n w) (iw (w + 1))) := by kernel_rfl
theorem be_e (n b w : Int) : pieceT [0, 3, 4] [3, 4] [] [true, true, false] (rB KB (stB n b w)) = some ([decide (w < 13), decide (1 ≤ w), decide (mst n w < b)], KB, stB n b (iw (w + 1))) := by kernel_rfl
theorem be_f (n b w : Int) : endT Tryd.prog Tryd.f49 [] [false] (rB KB (stB n b w)) = some ([decide (w < 13)], .one (.c (.int false .i64 b)), []) := by kernel_rfl
theorem bound_runs (n : Int) (h : ¬ (n < 0 ∨ 8192 < n)) : Runs Tryd.prog E3 Tryd.f49 0 [.code (cd Tryd.f49)] (sB n) (.one (.c (.int false .i64 (lea n 11)))) [] := by
  refine Runs.piece okE3 mx (be_c n) (by rw [decide_eq_false (by omega), decide_eq_false (by omega)]; rfl) (by rfl) ?_
  refine loopG (st := fun k (b : Int) => stB n b ((k + 2 : Nat) : Int)) (I := fun k b => b = lea n k) (n := 11) (fun k b hk hI => ?_) (fun b hI => ?_) 11 0 (mst n 1) rfl rfl
  · subst hI
    by_cases hlt : mst n (k + 2 : Nat) < lea n k
    · refine ⟨_, by show _ = if _ then _ else _; rw [if_pos hlt], fun hr => ?_⟩
      have hb := be_d n (lea n k) (k + 2 : Nat)
      rw [iwk (by omega), decide_eq_true (by omega), decide_eq_true (by omega), decide_eq_true hlt] at hb
      exact Runs.piece okE3 mx hb rfl (by rfl) hr
    · refine ⟨lea n k, by show _ = if _ then _ else _; rw [if_neg hlt], fun hr => ?_⟩
      have hb := be_e n (lea n k) (k + 2 : Nat)
      rw [iwk (by omega), decide_eq_true (by omega), decide_eq_true (by omega), decide_eq_false hlt] at hb
      exact Runs.piece okE3 mx hb rfl (by rfl) hr
  · have hI : b = lea n 11 := hI
    rw [← hI]
    exact Runs.last okE3 mx (be_f n b ((11 + 2 : Nat) : Int)) (by rw [decide_eq_false (by omega)]) (by rfl)
theorem ok_r7Bound : EntryOk Tryd.prog G0 49 TBound := by
  refine EntryOk.runs (S := E3) (fn := Tryd.f49) (c := cd Tryd.f49) (by kernel_rfl) (by kernel_rfl) (by kernel_rfl) (fun vs hl r hl' ok h => ?_)
  unfold TBound at h
  split at h
  · rename_i l n
    obtain ⟨rfl, rfl⟩ := Prod.mk.inj (val_ret h)
    refine lit_int [0] (s' := sB n) ?_ (by kernel_rfl)
    by_cases h0 : n < 0 ∨ 8192 < n
    · have e : bnd n = 0 := by unfold bnd; rw [if_pos h0]
      rw [e]
      by_cases h1 : n < 0
      · exact Runs.resU (v := .one (.c (.int true .i64 0))) (Runs.last okE3 mx (be_a n) (by rw [decide_eq_true h1]; rfl) (by rfl))
      · exact Runs.resU (v := .one (.c (.int true .i64 0))) (Runs.last okE3 mx (be_b n) (by rw [decide_eq_false h1, decide_eq_true (by omega)]; rfl) (by rfl))
    · have e : bnd n = lea n 11 := by unfold bnd; rw [if_neg h0]
      rw [e]
      exact bound_runs n h0
  · cases h
noncomputable def E4 : Tab := (E3.put 47 0 TBound).put 49 0 TBound
theorem okE4 : SpecOk Tryd.prog E4 := (okE3.put ok_mBound).put ok_r7Bound
end Go.Sc

namespace Go.Sc
open Go Go.SX Go.Proofs

def pr (b c : Int) : V1 := .g [.c (.int false .i64 b), .c (.int false .i64 c)]
def iand (x y : Int) : Int := IntKind.i64.wrap ((BitVec.ofInt 64 x &&& BitVec.ofInt 64 y).toNat : Int)
def p2 (x m : Int) : Bool := decide (1 ≤ x) && (decide (x ≤ m) && (iand x (iw (x - 1)) == 0))
def alw (b c : Int) : Bool := p2 b 64 && p2 c 16
theorem al_1 (b c : Int) : (bodyT E4 Tryd.prog allLoops Tryd.f28 (cd Tryd.f28) [pr b c] []).path [false] = some ([decide (b ≥ 1) == true], .one (.c (.bool true false)), []) := by kernel_rfl
theorem al_2 (b c : Int) : (bodyT E4 Tryd.prog allLoops Tryd.f28 (cd Tryd.f28) [pr b c] []).path [true, false] = some ([decide (b ≥ 1) == true, decide (b ≤ 64) == true], .one (.c (.bool true false)), []) := by kernel_rfl
theorem al_3 (b c : Int) : (bodyT E4 Tryd.prog allLoops Tryd.f28 (cd Tryd.f28) [pr b c] []).path [true, true, false] = some ([decide (b ≥ 1) == true, decide (b ≤ 64) == true, (iand b (iw (b - 1)) == 0) == true], .one (.c (.bool true false)), []) := by kernel_rfl
theorem al_4 (b c : Int) : (bodyT E4 Tryd.prog allLoops Tryd.f28 (cd Tryd.f28) [pr b c] []).path [true, true, true, false] = some ([decide (b ≥ 1) == true, decide (b ≤ 64) == true, (iand b (iw (b - 1)) == 0) == true, decide (c ≥ 1) == true], .one (.c (.bool true false)), []) := by kernel_rfl
theorem al_5 (b c : Int) : (bodyT E4 Tryd.prog allLoops Tryd.f28 (cd Tryd.f28) [pr b c] []).path [true, true, true, true, false] = some ([decide (b ≥ 1) == true, decide (b ≤ 64) == true, (iand b (iw (b - 1)) == 0) == true, decide (c ≥ 1) == true, decide (c ≤ 16) == true], .one (.c (.bool true false)), []) := by kernel_rfl
theorem al_6 (b c : Int) : (bodyT E4 Tryd.prog allLoops Tryd.f28 (cd Tryd.f28) [pr b c] []).path [true, true, true, true, true] = some ([decide (b ≥ 1) == true, decide (b ≤ 64) == true, (iand b (iw (b - 1)) == 0) == true, decide (c ≥ 1) == true, decide (c ≤ 16) == true], .one (.c (.bool false (iand c (iw (c - 1)) == 0))), []) := by kernel_rfl
def TAllowed (vs : List V1) (hl : Heap) : Tree (SV × Heap) :=
  match vs, hl with
  | [.g [.c (.int _ .i64 b), .c (.int _ .i64 c)]], [] => .ret (.one (.c (.bool false (alw b c))), [])
  | _, _ => .fail
theorem ok_Allowed : EntryOk Tryd.prog G0 28 TAllowed := by
  refine (EntryOk.subU (bodyT_ok okE4 mx (un := allLoops) (fn := Tryd.f28) (c := cd Tryd.f28) (by kernel_rfl) (by kernel_rfl) (by kernel_rfl)).unlitG) (fun vs hl r ok h => ?_)
  unfold TAllowed at h
  split at h
  · rename_i l b l' c
    obtain rfl := val_ret h
    unfold alw p2
    by_cases h1 : 1 ≤ b
    · by_cases h2 : b ≤ 64
      · cases h3 : iand b (iw (b - 1)) == 0 with
        | true =>
          by_cases h4 : 1 ≤ c
          · by_cases h5 : c ≤ 16
            · refine ⟨_, Tree.path_val (cs := [true, true, true, true, true]) ((al_6 b c).trans (by rw [decide_eq_true h1, decide_eq_true h2, h3, decide_eq_true h4, decide_eq_true h5]; rfl)), ?_⟩
              rw [decide_eq_true h1, decide_eq_true h2, decide_eq_true h4, decide_eq_true h5]; rfl
            · refine ⟨_, Tree.path_val (cs := [true, true, true, true, false]) ((al_5 b c).trans (by rw [decide_eq_true h1, decide_eq_true h2, h3, decide_eq_true h4, decide_eq_false h5]; rfl)), ?_⟩
              rw [decide_eq_false h5, Bool.false_and, Bool.and_false, Bool.and_false]; rfl
          · refine ⟨_, Tree.path_val (cs := [true, true, true, false]) ((al_4 b c).trans (by rw [decide_eq_true h1, decide_eq_true h2, h3, decide_eq_false h4]; rfl)), ?_⟩
            rw [decide_eq_false h4, Bool.false_and, Bool.and_false]; rfl
        | false =>
          refine ⟨_, Tree.path_val (cs := [true, true, false]) ((al_3 b c).trans (by rw [decide_eq_true h1, decide_eq_true h2, h3]; rfl)), ?_⟩
          rw [Bool.and_false, Bool.and_false, Bool.false_and]; rfl
      · refine ⟨_, Tree.path_val (cs := [true, false]) ((al_2 b c).trans (by rw [decide_eq_true h1, decide_eq_false h2]; rfl)), ?_⟩
        rw [decide_eq_false h2, Bool.false_and, Bool.and_false, Bool.false_and]; rfl
    · refine ⟨_, Tree.path_val (cs := [false]) ((al_1 b c).trans (by rw [decide_eq_false h1]; rfl)), ?_⟩
      rw [decide_eq_false h1, Bool.false_and, Bool.false_and]; rfl
  · cases h
/-- what is allowed -/
theorem alw_of {b c : Int} (h : alw b c = true) : (1 ≤ b ∧ b ≤ 64) ∧ (1 ≤ c ∧ c ≤ 16) := by
  unfold alw p2 at h
  simp only [Bool.and_eq_true, decide_eq_true_eq] at h
  omega
def TSize (vs : List V1) (hl : Heap) : Tree (SV × Heap) :=
  match vs, hl with
  | [.g [.c (.int _ .i64 b), .c (.int _ .i64 c)]], [] => .ret (.one (.c (.int false .i64 (iw (b * c)))), [])
  | _, _ => .fail
theorem sz_b (b c : Int) : (bodyT E4 Tryd.prog allLoops Tryd.f44 (cd Tryd.f44) [pr b c] []).path [] = some ([], .one (.c (.int false .i64 (iw (b * c)))), []) := by kernel_rfl
theorem ok_Size : EntryOk Tryd.prog G0 44 TSize := by
  refine EntryOk.sub (bodyT_ok okE4 mx (un := allLoops) (fn := Tryd.f44) (c := cd Tryd.f44) (by kernel_rfl) (by kernel_rfl) (by kernel_rfl)).unlitG (fun vs hl r ok h => ?_)
  unfold TSize at h
  split at h
  · rename_i l b l' c
    obtain rfl := val_ret h
    exact Tree.path_val (sz_b b c)
  · cases h
noncomputable def E5 : Tab := (E4.put 28 0 TAllowed).put 44 0 TSize
theorem okE5 : SpecOk Tryd.prog E5 := (okE4.put ok_Allowed).put ok_Size

/-! ### Rounds -/
def rnd (s : Int) : Nat → Nat → Nat
  | 0, k => k
  | d + 1, k => if iw (1 * 2 ^ (min k 64)) < s then rnd s d (k + 1) else k
def TRounds (vs : List V1) (hl : Heap) : Tree (SV × Heap) :=
  match vs, hl with
  | [.g [.c (.int _ .i64 b), .c (.int _ .i64 c)]], [] => Tree.chk (decide (iw (b * c) ≤ 1024)) (.ret (.one (.c (.int false .i64 (rnd (iw (b * c)) 10 0 : Nat))), []))
  | _, _ => .fail
noncomputable def rR (k : List Item) (s : St) : Tree Out := runK E5 Tryd.prog noLoops 400 k s
noncomputable def sR (b c : Int) : St := ⟨enterT Tryd.f48 [pr b c], []⟩
noncomputable def KR : List Item := leftT [] (rR [.code (cd Tryd.f48)] (sR 0 0))
noncomputable def stR (b c k : Int) : St := ⟨slotsOf 12 [(1, pt 0), (3, one (.int false .i64 k))], [.vals [.c (.int false .i64 b), .c (.int false .i64 c)]]⟩
theorem rr_a (b c : Int) : pieceT [1, 3] [3] [0] [] (rR [.code (cd Tryd.f48)] (sR b c)) = some ([], KR, stR b c (0 : Nat)) := by kernel_rfl
theorem rr_b (b c : Int) (k : Nat) : pieceT [1, 3] [3] [0] [true, true] (rR KR (stR b c k)) = some ([decide (0 ≤ (k : Int)), decide (iw (1 * 2 ^ (min k 64)) < iw (b * c))], KR, stR b c (iw ((k : Int) + 1))) := by kernel_rfl
theorem rr_c (b c : Int) (k : Nat) : endT Tryd.prog Tryd.f48 [] [true, false] (rR KR (stR b c k)) = some ([decide (0 ≤ (k : Int)), decide (iw (1 * 2 ^ (min k 64)) < iw (b * c))], .one (.c (.int false .i64 k)), []) := by kernel_rfl
theorem rounds_runs {b c : Int} (h : iw (b * c) ≤ 1024) : ∀ (d k : Nat), k + d = 10 → Runs Tryd.prog E5 Tryd.f48 0 KR (stR b c k) (.one (.c (.int false .i64 (rnd (iw (b * c)) d k : Nat)))) []
  | 0, k, hk => by
    obtain rfl : k = 10 := by omega
    have hc := rr_c b c 10
    have e : iw (1 * 2 ^ (min 10 64)) = 1024 := by decide
    rw [e, decide_eq_false (show ¬ (1024 : Int) < iw (b * c) by omega)] at hc
    exact Runs.last okE5 mx hc rfl (by rfl)
  | d + 1, k, hk => by
    by_cases hlt : iw (1 * 2 ^ (min k 64)) < iw (b * c)
    · have hb := rr_b b c k
      have hr := rounds_runs h d (k + 1) (by omega)
      have e : rnd (iw (b * c)) (d + 1) k = rnd (iw (b * c)) d (k + 1) := by show (if _ then _ else _) = _; rw [if_pos hlt]
      rw [e]
      rw [iwk (by omega), decide_eq_true hlt, decide_eq_true (by omega)] at hb
      exact Runs.piece okE5 mx hb rfl (by rfl) hr
    · have hc := rr_c b c k
      have e : rnd (iw (b * c)) (d + 1) k = k := by show (if _ then _ else _) = _; rw [if_neg hlt]
      rw [e]
      rw [decide_eq_false hlt, decide_eq_true (by omega)] at hc
      exact Runs.last okE5 mx hc rfl (by rfl)
theorem ok_Rounds : EntryOk Tryd.prog G0 48 TRounds := by
  refine EntryOk.unlitRuns (S := E5) (fn := Tryd.f48) (c := cd Tryd.f48) (by kernel_rfl) (by kernel_rfl) (by kernel_rfl) (fun vs hl r hl' ok h => ?_)
  unfold TRounds at h
  split at h
  · rename_i l b l' c
    obtain ⟨h1, h2⟩ := val_chk h
    obtain ⟨rfl, rfl⟩ := Prod.mk.inj (val_ret h2)
    exact Runs.piece okE5 mx (rr_a b c) rfl (by rfl) (rounds_runs (of_decide_eq_true h1) 10 0 rfl)
  · cases h
noncomputable def E6 : Tab := E5.put 48 0 TRounds
theorem okE6 : SpecOk Tryd.prog E6 := okE5.put ok_Rounds
def TrBound (vs : List V1) (hl : Heap) : Tree (SV × Heap) :=
  match vs, hl with
  | [.g [.c (.int _ .i64 b), .c (.int _ .i64 c)]], [] => .ret (.one (.c (.int false .i64 (if alw b c then bnd (iw (iw (iw (iw (2 * iw (b * c)) + c) + iw (2 * (rnd (iw (b * c)) 10 0 : Nat))) + 7)) else 0))), [])
  | _, _ => .fail
theorem rb_1 (b c : Int) : (bodyT E6 Tryd.prog allLoops Tryd.f25 (cd Tryd.f25) [pr b c] []).path [true] = some ([!alw b c], .one (.c (.int true .i64 0)), []) := by kernel_rfl
theorem rb_2 (b c : Int) : (bodyT E6 Tryd.prog allLoops Tryd.f25 (cd Tryd.f25) [pr b c] []).path [false, true] =
    some ([!alw b c, decide (iw (b * c) ≤ 1024)], .one (.c (.int false .i64 (bnd (iw (iw (iw (iw (2 * iw (b * c)) + c) + iw (2 * (rnd (iw (b * c)) 10 0 : Nat))) + 7))))), []) := by kernel_rfl
theorem rb_3 (b c : Int) : (bodyT E6 Tryd.prog allLoops Tryd.f26 (cd Tryd.f26) [pr b c] []).path [true] = some ([!alw b c], .one (.c (.int true .i64 0)), []) := by kernel_rfl
theorem rb_4 (b c : Int) : (bodyT E6 Tryd.prog allLoops Tryd.f26 (cd Tryd.f26) [pr b c] []).path [false, true] =
    some ([!alw b c, decide (iw (b * c) ≤ 1024)], .one (.c (.int false .i64 (bnd (iw (iw (iw (iw (2 * iw (b * c)) + c) + iw (2 * (rnd (iw (b * c)) 10 0 : Nat))) + 7))))), []) := by kernel_rfl
theorem size_le {b c : Int} (h : alw b c = true) : iw (b * c) = b * c ∧ 1 ≤ b * c ∧ b * c ≤ 1024 := by
  obtain ⟨⟨h1, h2⟩, h3, h4⟩ := alw_of h
  have h5 := mul_bound (A := 64) (B := 16) (by omega) h2 (by omega) h4
  have h6 : 1 * 1 ≤ b * c := Int.mul_le_mul h1 h3 (by decide) (by omega)
  exact ⟨wrap64 (by omega), by omega, by omega⟩
theorem ok_Bound : EntryOk Tryd.prog G0 25 TrBound := by
  refine (EntryOk.subU (bodyT_ok okE6 mx (un := allLoops) (fn := Tryd.f25) (c := cd Tryd.f25) (by kernel_rfl) (by kernel_rfl) (by kernel_rfl)).unlitG) (fun vs hl r ok h => ?_)
  unfold TrBound at h
  split at h
  · rename_i l b l' c
    obtain rfl := val_ret h
    cases ha : alw b c with
    | true =>
      obtain ⟨e1, e2, e3⟩ := size_le ha
      exact ⟨_, Tree.path_val (cs := [false, true]) ((rb_2 b c).trans (by rw [ha, decide_eq_true (by omega)]; rfl)), rfl⟩
    | false => exact ⟨_, Tree.path_val (cs := [true]) ((rb_1 b c).trans (by rw [ha]; rfl)), rfl⟩
  · cases h
theorem ok_rBound : EntryOk Tryd.prog G0 26 TrBound := by
  refine (EntryOk.subU (bodyT_ok okE6 mx (un := allLoops) (fn := Tryd.f26) (c := cd Tryd.f26) (by kernel_rfl) (by kernel_rfl) (by kernel_rfl)).unlitG) (fun vs hl r ok h => ?_)
  unfold TrBound at h
  split at h
  · rename_i l b l' c
    obtain rfl := val_ret h
    cases ha : alw b c with
    | true =>
      obtain ⟨e1, e2, e3⟩ := size_le ha
      exact ⟨_, Tree.path_val (cs := [false, true]) ((rb_4 b c).trans (by rw [ha, decide_eq_true (by omega)]; rfl)), rfl⟩
    | false => exact ⟨_, Tree.path_val (cs := [true]) ((rb_3 b c).trans (by rw [ha]; rfl)), rfl⟩
  · cases h
def Trpower (vs : List V1) (hl : Heap) : Tree (SV × Heap) :=
  match vs, hl with
  | [.g [.ws .u64 4 xs], .c (.int _ .i64 n)], [] => Tree.chk (decide (0 ≤ n)) (.ret (.one (ws (limbs (val xs ^ n.toNat % ell))), []))
  | _, _ => .fail
theorem rpw_b (xs : List Int) (n : Int) : (bodyT E6 Tryd.prog allLoops Tryd.f51 (cd Tryd.f51) [ws xs, .c (.int false .i64 n)] []).path [] = some ([], .one (ws (limbs (val xs ^ (um n).toNat % ell))), []) := by kernel_rfl
theorem inI {x : Int} : InK .i64 x ↔ -9223372036854775808 ≤ x ∧ x ≤ 9223372036854775807 := by
  unfold InK
  simp [IntKind.min, IntKind.max, IntKind.signed, IntKind.bits]
theorem ok_rpower : EntryOk Tryd.prog G0 51 Trpower := by
  refine EntryOk.sub (bodyT_ok okE6 mx (un := allLoops) (fn := Tryd.f51) (c := cd Tryd.f51) (by kernel_rfl) (by kernel_rfl) (by kernel_rfl)).unlit (fun vs hl r ok h => ?_)
  unfold Trpower at h
  split at h
  · rename_i xs l n
    obtain ⟨h1, h2⟩ := val_chk h
    obtain rfl := val_ret h2
    have hn := of_decide_eq_true h1
    have hi := inI.mp ok.2.1
    have hp := rpw_b xs n
    have e : um n = n := by unfold um; rw [wrapU]; omega
    rw [e] at hp
    exact Tree.path_val hp
  · cases h
noncomputable def E7 : Tab := ((E6.put 25 0 TrBound).put 26 0 TrBound).put 51 0 Trpower
theorem okE7 : SpecOk Tryd.prog E7 := ((okE6.put ok_Bound).put ok_rBound).put ok_rpower
end Go.Sc

namespace Go.Sc
open Go Go.SX Go.Proofs

def TOne (vs : List V1) (hl : Heap) : Tree (SV × Heap) :=
  match vs, hl with
  | [.g [.ws .u64 4 _]], [] => .ret (.one (ws [1, 0, 0, 0]), [])
  | _, _ => .fail
theorem one_b (xs : List Int) : (bodyT E7 Tryd.prog allLoops Tryd.f130 (cd Tryd.f130) [ws xs] []).path [] = some ([], .one (ws [1, 0, 0, 0]), []) := by kernel_rfl
theorem ok_One : EntryOk Tryd.prog G0 130 TOne := by
  refine EntryOk.sub (bodyT_ok okE7 mx (un := allLoops) (fn := Tryd.f130) (c := cd Tryd.f130) (by kernel_rfl) (by kernel_rfl) (by kernel_rfl)) (fun vs hl r ok h => ?_)
  unfold TOne at h
  split at h
  · rename_i xs
    obtain rfl := val_ret h
    exact Tree.path_val (one_b xs)
  · cases h
noncomputable def E8 : Tab := E7.put 130 0 TOne
theorem okE8 : SpecOk Tryd.prog E8 := okE7.put ok_One

/-! ### Powers -/
def powL (x : Int) (n : Nat) : List (List Int) := (List.range n).map fun i => limbs (x ^ i % ell)
def TPowers (vs : List V1) (hl : Heap) : Tree (SV × Heap) :=
  match vs, hl with
  | [.g [.ws .u64 4 xs], .c (.int _ .i64 n)], [] => Tree.chk (decide (0 ≤ n ∧ n ≤ 4096)) (.ret (.tup [.c (.sl 0 0 n.toNat), .c (.int true .i64 0)], [.arr WS (powL (val xs) n.toNat) 0 []]))
  | _, _ => .fail
noncomputable def rF (k : List Item) (s : St) : Tree Out := runK E8 Tryd.prog noLoops 400 k s
noncomputable def sF (xs : List Int) (n : Int) : St := ⟨enterT Tryd.f91 [ws xs, .c (.int false .i64 n)], []⟩
noncomputable def KF : List Item := leftT [true, false, true] (rF [.code (cd Tryd.f91)] (sF [] 0))
noncomputable def stF (xs p : List Int) (n : Nat) (ys : List (List Int)) (i : Int) : St := ⟨slotsOf 35 [(2, pt 0), (6, one (.sl 1 0 n)), (7, pt 2), (21, one (.int false .i64 n)), (22, one (.int false .i64 i))], [.vals [.ws .u64 4 xs], .arr WS ys 0 [], .vals [.ws .u64 4 p]]⟩
theorem f_a (xs : List Int) (n : Int) : pieceT [2, 6, 7, 21, 22] [22] [0, 1, 2] [true, false, true] (rF [.code (cd Tryd.f91)] (sF xs n)) =
    some ([decide (n < 0) == false, decide (n > 4096), decide (0 ≤ n ∧ n ≤ n ∧ n ≤ 281474976710656 ∧ (Tryd.prog.bytesOf 28 : Int) * n ≤ 281474976710656)], KF, stF xs [1, 0, 0, 0] n.toNat (List.replicate n.toNat [0, 0, 0, 0]) (0 : Nat)) := by kernel_rfl
theorem f_b (xs p : List Int) (n i : Nat) (ys : List (List Int)) : pieceT [2, 6, 7, 21, 22] [22] [0, 1, 2] [true, true] (rF KF (stF xs p n ys i)) =
    some ([decide ((i : Int) < n), decide (0 ≤ (i : Int) ∧ (i : Int) < n)], KF, stF xs (limbs (val p * val xs % ell)) n (ys.set (0 + i) p) (iw ((i : Int) + 1))) := by kernel_rfl
theorem f_c (xs p : List Int) (n i : Nat) (ys : List (List Int)) : endT Tryd.prog Tryd.f91 [1] [false] (rF KF (stF xs p n ys i)) =
    some ([decide ((i : Int) < n)], .tup [.c (.sl 0 0 n), .c (.int true .i64 0)], [.arr WS ys 0 []]) := by kernel_rfl
theorem powers_runs {xs : List Int} {n : Nat} (hn : n ≤ 4096) : Runs Tryd.prog E8 Tryd.f91 0 [.code (cd Tryd.f91)] (sF xs n) (.tup [.c (.sl 0 0 n), .c (.int true .i64 0)]) [.arr WS (powL (val xs) n) 0 []] := by
  have ha := f_a xs n
  rw [bytes_S, decide_eq_false (by omega), decide_eq_false (by omega), decide_eq_true (by omega), Int.toNat_natCast] at ha
  refine Runs.piece okE8 mx ha rfl (by rfl) ?_
  refine loopG (st := fun k (q : List Int × List (List Int)) => stF xs q.1 n q.2 k) (I := fun k q => q.1 = limbs (val xs ^ k % ell) ∧ q.2 = (powL (val xs) n).take k ++ List.replicate (n - k) [0, 0, 0, 0]) (n := n) (fun k q hk hI => ?_) (fun q hI => ?_) n 0 ([1, 0, 0, 0], List.replicate n [0, 0, 0, 0]) (by omega) ⟨by rw [Int.pow_zero]; rfl, rfl⟩
  · obtain ⟨p, ys⟩ := q
    obtain ⟨rfl, rfl⟩ := hI
    have hl : (powL (val xs) n).length = n := by unfold powL; rw [List.length_map, List.length_range]
    have hx : (powL (val xs) n)[k]? = some (limbs (val xs ^ k % ell)) := by
      unfold powL; rw [List.getElem?_map, List.getElem?_range hk]; rfl
    refine ⟨(limbs (val xs ^ (k + 1) % ell), _), ⟨rfl, fill_set hl hk hx⟩, fun hr => ?_⟩
    have hb := f_b xs (limbs (val xs ^ k % ell)) n k ((powL (val xs) n).take k ++ List.replicate (n - k) [0, 0, 0, 0])
    rw [val_mod, emod_mul, ← Int.pow_succ, iwk (by omega), Nat.zero_add, decide_eq_true (by omega), decide_eq_true (by omega)] at hb
    exact Runs.piece okE8 mx hb rfl (by rfl) hr
  · obtain ⟨p, ys⟩ := q
    obtain ⟨rfl, hI⟩ := hI
    have hI : ys = powL (val xs) n := by
      have hI : ys = List.take n (powL (val xs) n) ++ List.replicate (n - n) [0, 0, 0, 0] := hI
      have hl : (powL (val xs) n).length = n := by unfold powL; rw [List.length_map, List.length_range]
      rw [hI, List.take_of_length_le (by omega), Nat.sub_self]; exact List.append_nil _
    subst hI
    exact Runs.last okE8 mx (f_c xs _ n n (powL (val xs) n)) (by rw [decide_eq_false (by omega)]) (by rfl)
theorem ok_APowers : EntryOk Tryd.prog G0 91 TPowers := by
  refine EntryOk.runs (S := E8) (fn := Tryd.f91) (c := cd Tryd.f91) (by kernel_rfl) (by kernel_rfl) (by kernel_rfl) (fun vs hl r hl' ok h => ?_)
  unfold TPowers at h
  split at h
  · rename_i xs l n
    obtain ⟨h1, h2⟩ := val_chk h
    obtain ⟨h3, h4⟩ := of_decide_eq_true h1
    obtain ⟨rfl, rfl⟩ := Prod.mk.inj (val_ret h2)
    obtain ⟨m, rfl⟩ : ∃ m : Nat, n = (m : Int) := ⟨n.toNat, by omega⟩
    rw [Int.toNat_natCast]
    exact lit_int [1] (powers_runs (by omega)) (by kernel_rfl)
  · cases h

/-! ### Sum -/
def TSum (vs : List V1) (hl : Heap) : Tree (SV × Heap) :=
  match vs, hl with
  | [.c (.ro (.ws .u64 4) xs n)], [] => Tree.chk (decide (n = List.length (α := List Int) xs ∧ n ≤ 1048576)) (.ret (.one (ws (limbs ((List.map val xs).sum % ell))), []))
  | _, _ => .fail
noncomputable def rG (k : List Item) (s : St) : Tree Out := runK E8 Tryd.prog noLoops 400 k s
noncomputable def sG (xs : List (List Int)) (n : Nat) : St := ⟨enterT Tryd.f73 [.c (.ro WS xs n)], []⟩
noncomputable def KG : List Item := leftT [] (rG [.code (cd Tryd.f73)] (sG [] 0))
noncomputable def stG (xs : List (List Int)) (n : Nat) (s : List Int) (i : Int) : St := ⟨slotsOf 18 [(2, pt 0), (3, pt 1), (6, one (.ro WS xs n)), (7, one (.int false .i64 n)), (8, one (.int false .i64 i))], [.vals [.ws .u64 4 [0, 0, 0, 0]], .vals [.ws .u64 4 s]]⟩
theorem g_a (xs : List (List Int)) (n : Nat) : pieceT [2, 3, 6, 7, 8] [8] [0, 1] [] (rG [.code (cd Tryd.f73)] (sG xs n)) = some ([], KG, stG xs n [0, 0, 0, 0] (0 : Nat)) := by kernel_rfl
theorem g_b (xs : List (List Int)) (n i : Nat) (s : List Int) : pieceT [2, 3, 6, 7, 8] [8] [0, 1] [true, true] (rG KG (stG xs n s i)) =
    some ([decide ((i : Int) < n), decide (0 ≤ (i : Int) ∧ (i : Int) < n)], KG, stG xs n (limbs ((val s + val (xs.getD i [0, 0, 0, 0])) % ell)) (iw ((i : Int) + 1))) := by kernel_rfl
theorem g_c (xs : List (List Int)) (n i : Nat) (s : List Int) : endT Tryd.prog Tryd.f73 [] [false] (rG KG (stG xs n s i)) = some ([decide ((i : Int) < n)], .one (ws s), []) := by kernel_rfl
theorem mod_add2 (a b : Int) : (a % ell + b) % ell = (a + b) % ell := by unfold ell; omega
theorem sum_take_succ {f : List Int → Int} {xs : List (List Int)} {k : Nat} (h : k < xs.length) : ((xs.take (k + 1)).map f).sum = ((xs.take k).map f).sum + f (xs.getD k [0, 0, 0, 0]) := by
  rw [List.take_succ_eq_append_getElem h, List.map_append, List.sum_append, List.getD_eq_getElem?_getD, List.getElem?_eq_getElem h]
  simp
theorem sum_runs {xs : List (List Int)} {n : Nat} (hn : n = xs.length) (hb : n ≤ 1048576) : Runs Tryd.prog E8 Tryd.f73 0 [.code (cd Tryd.f73)] (sG xs n) (.one (ws (limbs ((xs.map val).sum % ell)))) [] := by
  refine Runs.piece okE8 mx (g_a xs n) rfl (by rfl) ?_
  refine loopG (st := fun k (s : List Int) => stG xs n s k) (I := fun k s => s = limbs (((xs.take k).map val).sum % ell)) (n := n) (fun k s hk hI => ?_) (fun s hI => ?_) n 0 [0, 0, 0, 0] (by omega) rfl
  · subst hI
    refine ⟨_, rfl, fun hr => ?_⟩
    have hb := g_b xs n k (limbs (((xs.take k).map val).sum % ell))
    rw [val_mod, mod_add2, ← sum_take_succ (by omega), iwk (by omega), decide_eq_true (by omega), decide_eq_true (by omega)] at hb
    exact Runs.piece okE8 mx hb rfl (by rfl) hr
  · have hI : s = limbs (((xs.take n).map val).sum % ell) := hI
    rw [List.take_of_length_le (by omega)] at hI
    subst hI
    exact Runs.last okE8 mx (g_c xs n n _) (by rw [decide_eq_false (by omega)]) (by rfl)
theorem ok_ASum : EntryOk Tryd.prog G0 73 TSum := by
  refine EntryOk.runs (S := E8) (fn := Tryd.f73) (c := cd Tryd.f73) (by kernel_rfl) (by kernel_rfl) (by kernel_rfl) (fun vs hl r hl' ok h => ?_)
  unfold TSum at h
  split at h
  · rename_i xs n
    obtain ⟨h1, h2⟩ := val_chk h
    obtain ⟨h3, h4⟩ := of_decide_eq_true h1
    obtain ⟨rfl, rfl⟩ := Prod.mk.inj (val_ret h2)
    exact sum_runs h3 h4
  · cases h
noncomputable def E9 : Tab := (E8.put 91 1 TPowers).put 73 0 TSum
theorem okE9 : SpecOk Tryd.prog E9 := (okE8.put ok_APowers).put ok_ASum
end Go.Sc

namespace Go.Sc
open Go Go.SX Go.Proofs

def stepRow (x : Int) (n : Nat) : List (List Int) := (List.range n).map fun k => limbs (x * 2 ^ k % ell)
def stepL (z : Int) (b c : Nat) : List (List Int) := (List.range c).flatMap fun j => stepRow (z ^ (2 + j)) b
theorem stepRow_succ (x : Int) (n : Nat) : stepRow x (n + 1) = stepRow x n ++ [limbs (x * 2 ^ n % ell)] := by
  unfold stepRow; rw [List.range_succ, List.map_append]; rfl
theorem stepL_succ (z : Int) (b c : Nat) : stepL z b (c + 1) = stepL z b c ++ stepRow (z ^ (2 + c)) b := by
  unfold stepL; rw [List.range_succ, List.flatMap_append]; simp
theorem stepRow_len (x : Int) (n : Nat) : (stepRow x n).length = n := by unfold stepRow; rw [List.length_map, List.length_range]
theorem stepL_len (z : Int) (b : Nat) : ∀ c, (stepL z b c).length = c * b
  | 0 => by rw [Nat.zero_mul]; rfl
  | c + 1 => by rw [stepL_succ, List.length_append, stepL_len z b c, stepRow_len, Nat.add_mul, Nat.one_mul]

noncomputable def rI (k : List Item) (s : St) : Tree Out := runK E9 Tryd.prog noLoops 400 k s
noncomputable def sI (b c : Int) (y z : List Int) : St := ⟨enterT Tryd.f70 [pr b c, ws y, ws z], []⟩
noncomputable def KI : List Item := leftT [true] (rI [.code (cd Tryd.f70)] (sI 0 0 [] []))
def hI (b c : Int) (z w : List Int) (ys : List (List Int)) : Heap := [.vals [.c (.int false .i64 b), .c (.int false .i64 c)], .vals [.ws .u64 4 z], .arr WS ys 0 [], .vals [.ws .u64 4 w]]
noncomputable def stI (b c : Int) (z w : List Int) (ys : List (List Int)) (n : Nat) (sc : Cell) (i : Int) (h : Heap) : St :=
  ⟨slotsOf 43 [(3, pt 0), (5, pt 1), (6, one (.sl 2 0 n)), (7, one sc), (8, pt 3), (21, one (.int false .i64 c)), (22, one (.int false .i64 i))], hI b c z w ys ++ h⟩
noncomputable def KJ : List Item := leftT [true] (rI KI (stI 0 0 [] [] [] 0 .nils 0 []))
noncomputable def stJ (b c : Int) (z w : List Int) (ys : List (List Int)) (n : Nat) (sc : Cell) (i : Int) (q : Nat) (k : Int) (h : Heap) : St :=
  ⟨slotsOf 43 [(3, pt 0), (5, pt 1), (6, one (.sl 2 0 n)), (7, one sc), (8, pt 3), (9, pt q), (21, one (.int false .i64 c)), (22, one (.int false .i64 i)), (26, one (.int false .i64 b)), (27, one (.int false .i64 k))], hI b c z w ys ++ h⟩
theorem i_a (b c : Int) (y z : List Int) : pieceT [3, 5, 6, 7, 8, 21, 22] [22] [0, 2, 3, 4] [true] (rI [.code (cd Tryd.f70)] (sI b c y z)) =
    some ([decide (0 ≤ iw (b * c) ∧ iw (b * c) ≤ 4096)], KI, stI b c z (limbs (val z * val z % ell)) (powL (val y) (iw (b * c)).toNat) (iw (b * c)).toNat .nils (0 : Nat) []) := by kernel_rfl
theorem i_bZ (b c : Int) (z w : List Int) (ys : List (List Int)) (n i : Nat) : pieceT [3, 5, 6, 7, 8, 9, 21, 22, 26, 27] [27] [0, 1, 2, 3, 4] [true] (rI KI (stI b c z w ys n .nils i [])) =
    some ([decide ((i : Int) < c)], KJ, stJ b c z w ys n .nils i 4 (0 : Nat) [.vals [.ws .u64 4 w]]) := by kernel_rfl
theorem i_bN (b c : Int) (z w : List Int) (ys ss : List (List Int)) (n m i : Nat) : pieceT [3, 5, 6, 7, 8, 9, 21, 22, 26, 27] [27] [0, 1, 2, 3, 4, 5] [true] (rI KI (stI b c z w ys n (.sl 4 0 m) i [.arr WS ss 0 []])) =
    some ([decide ((i : Int) < c)], KJ, stJ b c z w ys n (.sl 4 0 m) i 5 (0 : Nat) [.arr WS ss 0 [], .vals [.ws .u64 4 w]]) := by kernel_rfl
theorem i_c (b c : Int) (z w : List Int) (ys ss : List (List Int)) (n m i : Nat) : endT Tryd.prog Tryd.f70 [2, 4] [false] (rI KI (stI b c z w ys n (.sl 4 0 m) i [.arr WS ss 0 []])) =
    some ([decide ((i : Int) < c)], .tup [.c (.sl 0 0 n), .c (.sl 1 0 m)], [.arr WS ys 0 [], .arr WS ss 0 []]) := by kernel_rfl
theorem i_dZ (b c : Int) (z w s : List Int) (ys : List (List Int)) (n i k : Nat) : pieceT [3, 5, 6, 7, 8, 9, 21, 22, 26, 27] [27] [0, 1, 2, 3, 6, 4] [true, true] (rI KJ (stJ b c z w ys n .nils i 4 k [.vals [.ws .u64 4 s]])) =
    some ([decide ((k : Int) < b), true], KJ, stJ b c z w ys n (.sl 4 0 1) i 5 (iw ((k : Int) + 1)) [.arr WS [s] 0 [], .vals [.ws .u64 4 (limbs ((val s + val s) % ell))]]) := by kernel_rfl
theorem i_dN (b c : Int) (z w s : List Int) (ys ss : List (List Int)) (n m i k : Nat) : pieceT [3, 5, 6, 7, 8, 9, 21, 22, 26, 27] [27] [0, 1, 2, 3, 7, 5] [true, true] (rI KJ (stJ b c z w ys n (.sl 4 0 m) i 5 k [.arr WS ss 0 [], .vals [.ws .u64 4 s]])) =
    some ([decide ((k : Int) < b), decide (m = ss.length) && (SX.room (m + 1) (Tryd.prog.bytesOf 28) && SX.room (m + 1) 1)], KJ, stJ b c z w ys n (.sl 4 0 (m + 1)) i 5 (iw ((k : Int) + 1)) [.arr WS (ss ++ [s]) 0 [], .vals [.ws .u64 4 (limbs ((val s + val s) % ell))]]) := by kernel_rfl
theorem i_e (b c : Int) (z w s : List Int) (ys ss : List (List Int)) (n m i k : Nat) : pieceT [3, 5, 6, 7, 8, 21, 22] [22] [0, 1, 2, 3, 4] [false] (rI KJ (stJ b c z w ys n (.sl 4 0 m) i 5 k [.arr WS ss 0 [], .vals [.ws .u64 4 s]])) =
    some ([decide ((k : Int) < b)], KI, stI b c z (limbs (val w * val z % ell)) ys n (.sl 4 0 m) (iw ((i : Int) + 1)) [.arr WS ss 0 []]) := by kernel_rfl

section
variable {b c : Nat} {z : List Int} {ys : List (List Int)} {n : Nat}
abbrev RI (K : List Item) (s : St) (ys : List (List Int)) (n : Nat) (L : List (List Int)) : Prop := Runs Tryd.prog E9 Tryd.f70 0 K s (.tup [.c (.sl 0 0 n), .c (.sl 1 0 L.length)]) [.arr WS ys 0 [], .arr WS L 0 []]
theorem dbl (x : Int) (k : Nat) : limbs ((val (limbs (x * 2 ^ k % ell)) + val (limbs (x * 2 ^ k % ell))) % ell) = limbs (x * 2 ^ (k + 1) % ell) := by
  rw [val_mod, ← Int.add_emod, Int.pow_succ, ← Int.mul_assoc]
  congr 2; omega
theorem wnext (Z : Int) (j : Nat) : limbs (val (limbs (Z ^ (2 + j) % ell)) * Z % ell) = limbs (Z ^ (2 + (j + 1)) % ell) := by
  rw [val_mod, emod_mul, ← Int.pow_succ]; rfl
/-- the inner loop, from a slice on -/
theorem innerJ {j : Nat} (ss : List (List Int)) (hb : b ≤ 64) (hj : j ≤ 16) (hs : ss.length ≤ 1024) {L : List (List Int)} (hr : RI KI (stI b c z (limbs (val z ^ (2 + (j + 1)) % ell)) ys n (.sl 4 0 (ss ++ stepRow (val z ^ (2 + j)) b).length) (j + 1 : Nat) [.arr WS (ss ++ stepRow (val z ^ (2 + j)) b) 0 []]) ys n L) :
    ∀ d k, k + d = b → RI KJ (stJ b c z (limbs (val z ^ (2 + j) % ell)) ys n (.sl 4 0 (ss ++ stepRow (val z ^ (2 + j)) k).length) j 5 k [.arr WS (ss ++ stepRow (val z ^ (2 + j)) k) 0 [], .vals [.ws .u64 4 (limbs (val z ^ (2 + j) * 2 ^ k % ell))]]) ys n L
  | 0, k, h => by
    obtain rfl : k = b := by omega
    have he := i_e k c z (limbs (val z ^ (2 + j) % ell)) (limbs (val z ^ (2 + j) * 2 ^ k % ell)) ys (ss ++ stepRow (val z ^ (2 + j)) k) n (ss ++ stepRow (val z ^ (2 + j)) k).length j k
    rw [wnext, iwk (by omega), decide_eq_false (by omega)] at he
    exact Runs.piece okE9 mx he rfl (by rfl) hr
  | d + 1, k, h => by
    have hd := i_dN b c z (limbs (val z ^ (2 + j) % ell)) (limbs (val z ^ (2 + j) * 2 ^ k % ell)) ys (ss ++ stepRow (val z ^ (2 + j)) k) n (ss ++ stepRow (val z ^ (2 + j)) k).length j k
    have hl : (ss ++ stepRow (val z ^ (2 + j)) k).length + 1 = (ss ++ stepRow (val z ^ (2 + j)) (k + 1)).length := by rw [stepRow_succ, ← List.append_assoc, List.length_append (bs := [_])]; rfl
    have hle : (ss ++ stepRow (val z ^ (2 + j)) k).length + 1 ≤ 1048576 := by rw [List.length_append, stepRow_len]; omega
    rw [dbl, roomS hle, decide_eq_true rfl, iwk (by omega), decide_eq_true (by omega), hl, List.append_assoc, ← stepRow_succ] at hd
    exact Runs.piece okE9 mx hd rfl (by rfl) (innerJ ss hb hj hs hr d (k + 1) (by omega))
theorem plan_runs {y : List Int} (hb : 1 ≤ b ∧ b ≤ 64) (hc : 1 ≤ c ∧ c ≤ 16) : RI [.code (cd Tryd.f70)] (sI b c y z) (powL (val y) (b * c)) (b * c) (stepL (val z) b c) := by
  have hbc : b * c ≤ 1024 := Nat.mul_le_mul hb.2 hc.2
  have ha := i_a b c y z
  have e : iw ((b : Int) * c) = ((b * c : Nat) : Int) := by
    rw [← Int.natCast_mul]; exact wrap64 (by omega)
  rw [e, Int.toNat_natCast, decide_eq_true (by omega)] at ha
  refine Runs.piece okE9 mx ha rfl (by rfl) ?_
  have hw : limbs (val z * val z % ell) = limbs (val z ^ (2 + 0) % ell) := by
    rw [show val z ^ (2 + 0) = val z * val z from by rw [Nat.add_zero, show (2 : Nat) = 1 + 1 from rfl, Int.pow_succ, Int.pow_succ, Int.pow_zero, Int.one_mul]]
  rw [hw]
  -- the outer loop, from a slice on
  have outer : ∀ d j, j + d = c → RI KI (stI b c z (limbs (val z ^ (2 + j) % ell)) (powL (val y) (b * c)) (b * c) (.sl 4 0 (stepL (val z) b j).length) j [.arr WS (stepL (val z) b j) 0 []]) (powL (val y) (b * c)) (b * c) (stepL (val z) b c) := by
    intro d
    induction d with
    | zero =>
      intro j hj
      obtain rfl : j = c := by omega
      exact Runs.last okE9 mx (i_c b j z _ _ _ _ _ j) (by rw [decide_eq_false (by omega)]) (by rfl)
    | succ d ih =>
      intro j hj
      have hb2 := i_bN b c z (limbs (val z ^ (2 + j) % ell)) (powL (val y) (b * c)) (stepL (val z) b j) (b * c) (stepL (val z) b j).length j
      rw [decide_eq_true (by omega)] at hb2
      refine Runs.piece okE9 mx hb2 rfl (by rfl) ?_
      have hle : (stepL (val z) b j).length ≤ 1024 := by
        rw [stepL_len]
        have : j * b ≤ 16 * 64 := Nat.mul_le_mul (by omega) hb.2
        omega
      have hi := innerJ (b := b) (c := c) (z := z) (ys := powL (val y) (b * c)) (n := b * c) (stepL (val z) b j) (j := j) hb.2 (by omega) hle (L := stepL (val z) b c) (by rw [← stepL_succ]; exact ih (j + 1) (by omega)) b 0 (by omega)
      rw [show stepRow (val z ^ (2 + j)) 0 = [] from rfl, List.append_nil, Int.pow_zero, Int.mul_one] at hi
      exact hi
  have hz := i_bZ b c z (limbs (val z ^ (2 + 0) % ell)) (powL (val y) (b * c)) (b * c) 0
  rw [decide_eq_true (by omega)] at hz
  refine Runs.piece okE9 mx hz rfl (by rfl) ?_
  have hd := i_dZ b c z (limbs (val z ^ (2 + 0) % ell)) (limbs (val z ^ (2 + 0) % ell)) (powL (val y) (b * c)) (b * c) 0 0
  have hdb := dbl (val z ^ (2 + 0)) 0
  rw [Int.pow_zero, Int.mul_one] at hdb
  rw [hdb, iwk (by omega), decide_eq_true (by omega)] at hd
  refine Runs.piece okE9 mx hd rfl (by rfl) ?_
  have hi := innerJ (b := b) (c := c) (z := z) (ys := powL (val y) (b * c)) (n := b * c) [] (j := 0) hb.2 (by omega) (by simp) (L := stepL (val z) b c) (by
    have h1 := outer (c - 1) 1 (by omega)
    have e1 : stepL (val z) b 1 = [] ++ stepRow (val z ^ (2 + 0)) b := by
      rw [stepL_succ]; rfl
    rw [e1] at h1
    exact h1) (b - 1) 1 (by omega)
  have e1 : ([] : List (List Int)) ++ stepRow (val z ^ (2 + 0)) 1 = [limbs (val z ^ (2 + 0) % ell)] := by
    rw [stepRow_succ, Int.pow_zero, Int.mul_one]; rfl
  rw [e1] at hi
  exact hi
end
def Tplan (vs : List V1) (hl : Heap) : Tree (SV × Heap) :=
  match vs, hl with
  | [.g [.c (.int _ .i64 b), .c (.int _ .i64 c)], .g [.ws .u64 4 y], .g [.ws .u64 4 z]], [] =>
    Tree.chk (alw b c) (.ret (.tup [.c (.sl 0 0 (b.toNat * c.toNat)), .c (.sl 1 0 (stepL (val z) b.toNat c.toNat).length)], [.arr WS (powL (val y) (b.toNat * c.toNat)) 0 [], .arr WS (stepL (val z) b.toNat c.toNat) 0 []]))
  | _, _ => .fail
theorem ok_plan : EntryOk Tryd.prog G0 70 Tplan := by
  refine EntryOk.unlitRuns (S := E9) (fn := Tryd.f70) (c := cd Tryd.f70) (by kernel_rfl) (by kernel_rfl) (by kernel_rfl) (fun vs hl r hl' ok h => ?_)
  unfold Tplan at h
  split at h
  · rename_i l b l' c y z
    obtain ⟨h1, h2⟩ := val_chk h
    obtain ⟨rfl, rfl⟩ := Prod.mk.inj (val_ret h2)
    obtain ⟨⟨a1, a2⟩, a3, a4⟩ := alw_of h1
    obtain ⟨B, rfl⟩ : ∃ B : Nat, b = (B : Int) := ⟨b.toNat, by omega⟩
    obtain ⟨C, rfl⟩ : ∃ C : Nat, c = (C : Int) := ⟨c.toNat, by omega⟩
    rw [Int.toNat_natCast, Int.toNat_natCast]
    exact plan_runs ⟨by omega, by omega⟩ ⟨by omega, by omega⟩
  · cases h
noncomputable def E10 : Tab := E9.put 70 2 Tplan
theorem okE10 : SpecOk Tryd.prog E10 := okE9.put ok_plan
end Go.Sc
