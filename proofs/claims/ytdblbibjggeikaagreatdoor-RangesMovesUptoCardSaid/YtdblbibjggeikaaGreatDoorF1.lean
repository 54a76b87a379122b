/- Layer 13: parameters, tapes, what fits. -/
import Derived.Test.YtdblbibjggeikaaGreatDoorE8
set_option linter.unusedSectionVars false
set_option linter.unusedVariables false
set_option linter.unusedSimpArgs false
namespace Go.Sc
open Go Go.SX Go.Proofs
variable [Level] [Lone]
abbrev OP : DTy := .pair (.int .u64) (.pair WS .unit)
abbrev OpT := List OP.den
def topV (b : Int) : Int := if b >= 64 then 0 else IntKind.u64.wrap (1 * 2 ^ (min b.toNat 64))
theorem top_a (b c : Int) : (bodyT L10 Tryz.prog allLoops Tryz.f109 (cd Tryz.f109) [pr b c] []).path [true] = some ([decide (b >= 64)], .tup [.c (.int true .u64 0), .c (.bool true false)], []) := by kernel_rfl
theorem top_b (b c : Int) : (bodyT L10 Tryz.prog allLoops Tryz.f109 (cd Tryz.f109) [pr b c] []).path [false, true] = some ([decide (b >= 64), decide (0 <= b)], .tup [.c (.int false .u64 (IntKind.u64.wrap (1 * 2 ^ (min b.toNat 64)))), .c (.bool true true)], []) := by kernel_rfl
def tapeF (a r t1 t2 : List Int) (sl : List (List Int)) (nl : Nat) (sr : List (List Int)) (nr : Nat) : List FCell := [.ws .u64 4 a, .ws .u64 4 r, .ws .u64 4 t1, .ws .u64 4 t2, .c (.ro WS sl nl), .c (.ro WS sr nr)]
noncomputable def rgR (k : List Item) (s : St) : Tree Out := runK L10 Tryz.prog noLoops 400 k s
theorem least_a (a r t1 t2 : List Int) (sl : List (List Int)) (nl : Nat) (sr : List (List Int)) (nr : Nat) : endT Tryz.prog Tryz.f47 [2, 3] [true, true] (rgR [.code (cd Tryz.f47)] ⟨enterT Tryz.f47 [.g (tapeF a r t1 t2 sl nl sr nr)], []⟩) =
  some ([SX.room (sl.take nl).length (Tryz.prog.bytesOf 26) && SX.room (sl.take nl).length 1, SX.room (sr.take nr).length (Tryz.prog.bytesOf 26) && SX.room (sr.take nr).length 1],
   .one (.g [.ws .u64 4 a, .ws .u64 4 r, .ws .u64 4 t1, .ws .u64 4 t2, .c (.sl 0 0 (sl.take nl).length), .c (.sl 1 0 (sr.take nr).length)]), [.arr WS (sl.take nl) 0 [], .arr WS (sr.take nr) 0 []]) := by kernel_rfl
def TrTop (vs : List V1) (hl : Heap) : Tree (SV × Heap) :=
 match vs, hl with
 | [.g [.c (.int _ .i64 b), .c (.int _ .i64 _)]], [] => Tree.chk (decide (0 <= b)) (.ret (.tup [.c (.int false .u64 (topV b)), .c (.bool false (decide (b < 64)))], []))
 | _, _ => .fail
theorem ok_rTop : EntryOk Tryz.prog G0 109 TrTop := by
 refine (EntryOk.subU (bodyT_ok okL10 mx (un := allLoops) (fn := Tryz.f109) (c := cd Tryz.f109) (by kernel_rfl) (by kernel_rfl) (by kernel_rfl)).unlitG) (fun vs hl r ok h => ?_)
 unfold TrTop at h;split at h
 ·rename_i l b l' c;obtain ⟨h1, h2⟩ := val_chk h;have h1 := of_decide_eq_true h1
  obtain rfl := val_ret h2;by_cases hb : b >= 64
  ·refine ⟨_, Tree.path_val (cs := [true]) ((top_a b c).trans (by rw [decide_eq_true hb])), ?_⟩
   rw [topV, if_pos hb, decide_eq_false (by omega)]; rfl
  ·refine ⟨_, Tree.path_val (cs := [false, true]) ((top_b b c).trans (by rw [decide_eq_false hb, decide_eq_true h1])), ?_⟩
   rw [topV, if_neg hb, decide_eq_true (by omega)]; rfl
 ·cases h
def Trleast (vs : List V1) (hl : Heap) : Tree (SV × Heap) :=
 match vs, hl with
 | [.g [.ws .u64 4 a, .ws .u64 4 r, .ws .u64 4 t1, .ws .u64 4 t2, .c (.ro (.ws .u64 4) sl nl), .c (.ro (.ws .u64 4) sr nr)]], [] =>
  Tree.chk (decide (nl <= 1048576 /\ nr <= 1048576)) (.ret (.one (.g [.ws .u64 4 a, .ws .u64 4 r, .ws .u64 4 t1, .ws .u64 4 t2, .c (.sl 0 0 (sl.take nl).length), .c (.sl 1 0 (sr.take nr).length)]), [.arr WS (sl.take nl) 0 [], .arr WS (sr.take nr) 0 []]))
 | _, _ => .fail
theorem take_le {α : Type} (l : List α) (n : Nat) : (l.take n).length <= n := by rw [List.length_take]; exact Nat.min_le_left _ _
theorem least_runs (a r t1 t2 : List Int) (sl : List (List Int)) (nl : Nat) (sr : List (List Int)) (nr : Nat) (q1 : nl <= 1048576) (q2 : nr <= 1048576) : Runs Tryz.prog L10 Tryz.f47 0 [.code (cd Tryz.f47)] ⟨enterT Tryz.f47 [.g (tapeF a r t1 t2 sl nl sr nr)], []⟩
  (.one (.g [.ws .u64 4 a, .ws .u64 4 r, .ws .u64 4 t1, .ws .u64 4 t2, .c (.sl 0 0 (sl.take nl).length), .c (.sl 1 0 (sr.take nr).length)])) [.arr WS (sl.take nl) 0 [], .arr WS (sr.take nr) 0 []] := by
 have h := least_a a r t1 t2 sl nl sr nr
 rw [roomS (Nat.le_trans (take_le sl nl) q1), roomS (Nat.le_trans (take_le sr nr) q2)] at h;exact Runs.last okL10 mx h rfl (by rfl)
theorem ok_rleast : EntryOk Tryz.prog G0 47 Trleast := by
 refine EntryOk.runs (S := L10) (fn := Tryz.f47) (c := cd Tryz.f47) (by kernel_rfl) (by kernel_rfl) (by kernel_rfl) (fun vs hl r hl' ok h => ?_)
 unfold Trleast at h;split at h
 ·rename_i a r t1 t2 sl nl sr nr;obtain ⟨h1, h2⟩ := val_chk h;obtain ⟨q1, q2⟩ := of_decide_eq_true h1;obtain ⟨rfl, rfl⟩ := Prod.mk.inj (val_ret h2);exact least_runs a r t1 t2 sl nl sr nr q1 q2
 ·cases h
noncomputable def L11 : Tab := (L10.put 109 0 TrTop).put 47 2 Trleast
theorem okL11 : SpecOk Tryz.prog L11 := (okL10.put ok_rTop).put ok_rleast
def opV (vs : OpT) (i : Nat) : Int := (vs.getD i OP.dflt).1
noncomputable def fiR (k : List Item) (s : St) : Tree Out := runK L11 Tryz.prog noLoops 400 k s
noncomputable def fiS (B D Q : List Int) (gs hs : List PL.den) (ng nh : Nat) (b c : Int) (vs : OpT) (nv : Nat) (a r t1 t2 : List Int) (sl : List (List Int)) (nl : Nat) (sr : List (List Int)) (nr : Nat) : St :=
 ⟨enterT Tryz.f46 [.g (gSet B D Q gs hs ng nh), pr b c, .c (.ro OP vs nv), .g (tapeF a r t1 t2 sl nl sr nr)], []⟩
noncomputable def fiK : List Item := leftT [false, true, true, true, true, false] (fiR [.code (cd Tryz.f46)] (fiS [] [] [] [] [] 0 0 0 0 [] 0 [] [] [] [] [] 0 [] 0))
noncomputable def fiT (b c : Int) (vs : OpT) (nv : Nat) (i : Int) : St := ⟨slotsOf 71 [(5, pt 0), (8, one (.int false .i64 0)), (52, one (.ro OP vs nv)), (53, one (.int false .i64 nv)), (54, one (.int false .i64 i))], [.vals [.c (.int false .i64 b), .c (.int false .i64 c)]]⟩
section
variable (B D Q : List Int) (gs hs : List PL.den) (ng nh : Nat) (b c : Int) (vs : OpT) (nv i : Nat) (a r t1 t2 : List Int) (sl : List (List Int)) (nl : Nat) (sr : List (List Int)) (nr : Nat)
abbrev fiE (x : Int) : SV := .one (.c (.int true .i64 x))
theorem fi_1 : endT Tryz.prog Tryz.f46 [] [true] (fiR [.code (cd Tryz.f46)] (fiS B D Q gs hs ng nh b c vs nv a r t1 t2 sl nl sr nr)) = some ([!alw b c], fiE 130, []) := by kernel_rfl
theorem fi_2 : endT Tryz.prog Tryz.f46 [] [false, false] (fiR [.code (cd Tryz.f46)] (fiS B D Q gs hs ng nh b c vs nv a r t1 t2 sl nl sr nr)) = some ([!alw b c, decide ((ng : Int) < iw (b * c)) == false], fiE 2, []) := by kernel_rfl
theorem fi_3 : endT Tryz.prog Tryz.f46 [] [false, true, false] (fiR [.code (cd Tryz.f46)] (fiS B D Q gs hs ng nh b c vs nv a r t1 t2 sl nl sr nr)) = some ([!alw b c, decide ((ng : Int) < iw (b * c)) == false, decide ((nh : Int) < iw (b * c)) == false], fiE 2, []) := by kernel_rfl
theorem fi_4 : endT Tryz.prog Tryz.f46 [] [false, true, true, false] (fiR [.code (cd Tryz.f46)] (fiS B D Q gs hs ng nh b c vs nv a r t1 t2 sl nl sr nr)) = some ([!alw b c, decide ((ng : Int) < iw (b * c)) == false, decide ((nh : Int) < iw (b * c)) == false, ((nv : Int) != c) == false], fiE 2, []) := by kernel_rfl
theorem fi_5 : endT Tryz.prog Tryz.f46 [] [false, true, true, true, false] (fiR [.code (cd Tryz.f46)] (fiS B D Q gs hs ng nh b c vs nv a r t1 t2 sl nl sr nr)) = some ([!alw b c, decide ((ng : Int) < iw (b * c)) == false, decide ((nh : Int) < iw (b * c)) == false, ((nv : Int) != c) == false, ((nl : Int) != iw (b * c)) == false], fiE 2, []) := by kernel_rfl
theorem fi_6 : endT Tryz.prog Tryz.f46 [] [false, true, true, true, true, true] (fiR [.code (cd Tryz.f46)] (fiS B D Q gs hs ng nh b c vs nv a r t1 t2 sl nl sr nr)) = some ([!alw b c, decide ((ng : Int) < iw (b * c)) == false, decide ((nh : Int) < iw (b * c)) == false, ((nv : Int) != c) == false, ((nl : Int) != iw (b * c)) == false, (nr : Int) != iw (b * c)], fiE 2, []) := by kernel_rfl
theorem fi_7 : pieceT [5, 8, 52, 53, 54] [8, 54] [1] [false, true, true, true, true, false] (fiR [.code (cd Tryz.f46)] (fiS B D Q gs hs ng nh b c vs nv a r t1 t2 sl nl sr nr)) = some ([!alw b c, decide ((ng : Int) < iw (b * c)) == false, decide ((nh : Int) < iw (b * c)) == false, ((nv : Int) != c) == false, ((nl : Int) != iw (b * c)) == false, (nr : Int) != iw (b * c)], fiK, fiT b c vs nv (0 : Nat)) := by kernel_rfl
theorem fi_8 : pieceT [5, 8, 52, 53, 54] [8, 54] [0] [true, true, true, true, false] (fiR fiK (fiT b c vs nv i)) = some ([decide ((i : Int) < nv), decide (0 <= (i : Int) /\ (i : Int) < nv), decide (0 <= b), decide (b < 64) == true, decide (opV vs i >= topV b)], fiK, fiT b c vs nv (iw ((i : Int) + 1))) := by kernel_rfl
theorem fi_9 : endT Tryz.prog Tryz.f46 [] [true, true, true, true, true] (fiR fiK (fiT b c vs nv i)) = some ([decide ((i : Int) < nv), decide (0 <= (i : Int) /\ (i : Int) < nv), decide (0 <= b), decide (b < 64) == true, decide (opV vs i >= topV b)], fiE 131, []) := by kernel_rfl
theorem fi_10 : pieceT [5, 8, 52, 53, 54] [8, 54] [0] [true, true, true, false] (fiR fiK (fiT b c vs nv i)) = some ([decide ((i : Int) < nv), decide (0 <= (i : Int) /\ (i : Int) < nv), decide (0 <= b), decide (b < 64) == true], fiK, fiT b c vs nv (iw ((i : Int) + 1))) := by kernel_rfl
theorem fi_11 : endT Tryz.prog Tryz.f46 [] [false] (fiR fiK (fiT b c vs nv i)) = some ([decide ((i : Int) < nv)], fiE 0, []) := by kernel_rfl
end
def opOk (b v : Int) : Bool := !(decide (b < 64) && decide (v >= topV b))
def allOk (b : Int) (vs : OpT) : Nat -> Bool
 | 0 => true
 | k + 1 => allOk b vs k && opOk b (opV vs k)
theorem allOk_false {b : Int} {vs : OpT} {k : Nat} (h : allOk b vs k = false) : ∀ d, allOk b vs (k + d) = false
 | 0 => h
 | d + 1 => by show (allOk b vs (k + d) && _) = false; rw [allOk_false h d]; rfl
def fitE (ng nh : Nat) (b c : Int) (vs : OpT) (nv nl nr : Nat) : Int :=
 if alw b c = false then 130 else if (ng : Int) < iw (b * c) \/ (nh : Int) < iw (b * c) \/ (nv : Int) ≠ c \/ (nl : Int) ≠ iw (b * c) \/ (nr : Int) ≠ iw (b * c) then 2 else if allOk b vs nv = true then 0 else 131
abbrev RF (k : List Item) (s : St) (x : Int) : Prop := Runs Tryz.prog L11 Tryz.f46 0 k s (.one (.c (.int false .i64 x))) []
theorem RF.end {k : List Item} {s : St} {x : Int} (h : Runs Tryz.prog L11 Tryz.f46 0 k s (fiE x) []) : RF k s x := Runs.weak (v := fiE x) (fun _ _ h => h) h
theorem fi_loop {b c : Int} {vs : OpT} {nv : Nat} (hb : 0 <= b) (hn : nv <= 1048576) : ∀ d i, i + d = nv -> allOk b vs i = true -> RF fiK (fiT b c vs nv i) (if allOk b vs nv = true then 0 else 131)
 | 0, i, hi, ha => by
  obtain rfl : i = nv := by omega
  rw [if_pos ha];have h := fi_11 b c vs i i
  rw [decide_eq_false (by omega)] at h
  exact RF.end (Runs.last okL11 mx h rfl (by rfl))
 | d + 1, i, hi, ha => by
  by_cases h64 : b < 64
  ·by_cases ht : opV vs i >= topV b
   ·have h := fi_9 b c vs nv i
    rw [decide_eq_true ht, decide_eq_true h64, decide_eq_true hb, decide_eq_true (by omega), decide_eq_true (by omega)] at h
    have hf : allOk b vs (i + 1) = false := by
     show (_ && opOk b (opV vs i)) = false
     rw [opOk, decide_eq_true ht, decide_eq_true h64, Bool.and_true];exact Bool.and_false _
    have hf2 := allOk_false hf d
    rw [show i + 1 + d = nv by omega] at hf2
    rw [hf2, if_neg (by decide)]
    exact RF.end (Runs.last okL11 mx h rfl (by rfl))
   ·have h := fi_8 b c vs nv i
    rw [decide_eq_false ht, decide_eq_true h64, decide_eq_true hb, decide_eq_true (by omega), decide_eq_true (by omega), iwk (by omega)] at h
    refine Runs.piece okL11 mx h rfl (by rfl) (fi_loop hb hn d (i + 1) (by omega) ?_)
    show (_ && opOk b (opV vs i)) = true
    rw [ha, opOk, decide_eq_false ht, Bool.and_false]; rfl
  ·have h := fi_10 b c vs nv i
   rw [decide_eq_false h64, decide_eq_true hb, decide_eq_true (by omega), decide_eq_true (by omega), iwk (by omega)] at h
   refine Runs.piece okL11 mx h rfl (by rfl) (fi_loop hb hn d (i + 1) (by omega) ?_)
   show (_ && opOk b (opV vs i)) = true
   rw [ha, opOk, decide_eq_false h64, Bool.false_and]; rfl
theorem bneq {x y : Int} (h : x ≠ y) : (x != y) = true := by simp [h]
theorem bneq' {x y : Int} (h : x = y) : (x != y) = false := by simp [h]
theorem fi_runs (B D Q : List Int) (gs hs : List PL.den) (ng nh : Nat) (b c : Int) (vs : OpT) (nv : Nat) (a r t1 t2 : List Int) (sl : List (List Int)) (nl : Nat) (sr : List (List Int)) (nr : Nat) : RF [.code (cd Tryz.f46)] (fiS B D Q gs hs ng nh b c vs nv a r t1 t2 sl nl sr nr) (fitE ng nh b c vs nv nl nr) := by
 unfold fitE;cases ha : alw b c with
 | false =>
  rw [if_pos rfl];have h := fi_1 B D Q gs hs ng nh b c vs nv a r t1 t2 sl nl sr nr
  rw [ha] at h;exact RF.end (Runs.last okL11 mx h rfl (by rfl))
 | true =>
 rw [if_neg (by decide)]
 obtain ⟨hb, hc⟩ := alw_of ha;by_cases h1 : (ng : Int) < iw (b * c)
 ·rw [if_pos (.inl h1)];have h := fi_2 B D Q gs hs ng nh b c vs nv a r t1 t2 sl nl sr nr
  rw [ha, decide_eq_true h1] at h;exact RF.end (Runs.last okL11 mx h rfl (by rfl))
 by_cases h2 : (nh : Int) < iw (b * c)
 ·rw [if_pos (.inr (.inl h2))];have h := fi_3 B D Q gs hs ng nh b c vs nv a r t1 t2 sl nl sr nr
  rw [ha, decide_eq_false h1, decide_eq_true h2] at h;exact RF.end (Runs.last okL11 mx h rfl (by rfl))
 by_cases h3 : (nv : Int) ≠ c
 ·rw [if_pos (.inr (.inr (.inl h3)))];have h := fi_4 B D Q gs hs ng nh b c vs nv a r t1 t2 sl nl sr nr
  rw [ha, decide_eq_false h1, decide_eq_false h2, bneq h3] at h;exact RF.end (Runs.last okL11 mx h rfl (by rfl))
 have h3' : (nv : Int) = c := Decidable.not_not.1 h3
 by_cases h4 : (nl : Int) ≠ iw (b * c)
 ·rw [if_pos (.inr (.inr (.inr (.inl h4))))];have h := fi_5 B D Q gs hs ng nh b c vs nv a r t1 t2 sl nl sr nr
  rw [ha, decide_eq_false h1, decide_eq_false h2, bneq' h3', bneq h4] at h;exact RF.end (Runs.last okL11 mx h rfl (by rfl))
 have h4' : (nl : Int) = iw (b * c) := Decidable.not_not.1 h4
 by_cases h5 : (nr : Int) ≠ iw (b * c)
 ·rw [if_pos (.inr (.inr (.inr (.inr h5))))];have h := fi_6 B D Q gs hs ng nh b c vs nv a r t1 t2 sl nl sr nr
  rw [ha, decide_eq_false h1, decide_eq_false h2, bneq' h3', bneq' h4', bneq h5] at h;exact RF.end (Runs.last okL11 mx h rfl (by rfl))
 rw [if_neg (by rintro (h | h | h | h | h) <;> contradiction)]
 have h5' : (nr : Int) = iw (b * c) := Decidable.not_not.1 h5
 have h := fi_7 B D Q gs hs ng nh b c vs nv a r t1 t2 sl nl sr nr
 rw [ha, decide_eq_false h1, decide_eq_false h2, bneq' h3', bneq' h4', bneq' h5'] at h;exact Runs.piece okL11 mx h rfl (by rfl) (fi_loop (by omega) (by omega) nv 0 (by omega) rfl)
def Trfits (vs : List V1) (hl : Heap) : Tree (SV × Heap) :=
 match vs, hl with
 | [.g [.ws .u64 4 _, .ws .u64 4 _, .ws .u64 4 _, .c (.ro (.pair (.ws .u64 4) .unit) _ ng), .c (.ro (.pair (.ws .u64 4) .unit) _ nh)], .g [.c (.int _ .i64 b), .c (.int _ .i64 c)], .c (.ro (.pair (.int .u64) (.pair (.ws .u64 4) .unit)) vs nv), .g [.ws .u64 4 _, .ws .u64 4 _, .ws .u64 4 _, .ws .u64 4 _, .c (.ro (.ws .u64 4) _ nl), .c (.ro (.ws .u64 4) _ nr)]], [] =>
  .ret (.one (.c (.int false .i64 (fitE ng nh b c vs nv nl nr))), [])
 | _, _ => .fail
theorem ok_rfits : EntryOk Tryz.prog G0 46 Trfits := by
 refine EntryOk.unlitRuns (S := L11) (fn := Tryz.f46) (c := cd Tryz.f46) (by kernel_rfl) (by kernel_rfl) (by kernel_rfl) (fun vs hl r hl' ok h => ?_)
 unfold Trfits at h;split at h
 ·rename_i B D Q gs ng hs nh l1 b l2 c vs nv a r t1 t2 sl nl sr nr;obtain ⟨rfl, rfl⟩ := Prod.mk.inj (val_ret h);exact fi_runs B D Q gs hs ng nh b c vs nv a r t1 t2 sl nl sr nr
 ·cases h
noncomputable def L12 : Tab := L11.put 46 0 Trfits
theorem okL12 : SpecOk Tryz.prog L12 := okL11.put ok_rfits
end Go.Sc
