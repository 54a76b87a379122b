/-
  The law's own functions: is, num, sameNums.
-/
import Derived.Test.YticfnbhbpcpgeaaDoorPm6
namespace Go.Sc
open Go Go.SX Go.Proofs

def Tis (vs : List V1) (hl : Heap) : Tree (SV × Heap) :=
  match vs, hl with
  | [.g [.ws .u64 4 xs], .g [.ws .u64 4 ys]], [] => .ret (.one (.c (.bool false (xs == ys && true))), [])
  | _, _ => .fail
theorem is_b (xs ys : List Int) : (bodyT E15 Tryd.prog allLoops Tryd.f23 (cd Tryd.f23) [ws xs, ws ys] []).path [] = some ([], .one (.c (.bool false (xs == ys && true))), []) := by kernel_rfl
theorem ok_is : EntryOk Tryd.prog G0 23 Tis := by
  refine EntryOk.sub (bodyT_ok okE15 mx (un := allLoops) (fn := Tryd.f23) (c := cd Tryd.f23) (by kernel_rfl) (by kernel_rfl) (by kernel_rfl)) (fun vs hl r ok h => ?_)
  unfold Tis at h
  split at h
  · rename_i xs ys
    obtain rfl := val_ret h
    exact Tree.path_val (is_b xs ys)
  · cases h
theorem num_b (xs : List Int) : (bodyT E15 Tryd.prog allLoops Tryd.f30 (cd Tryd.f30) [ws xs] []).path [] = some ([], .one (ws (limbs (val xs % ell))), []) := by kernel_rfl
theorem ok_num : EntryOk Tryd.prog G0 30 TLeast := by
  refine EntryOk.sub (bodyT_ok okE15 mx (un := allLoops) (fn := Tryd.f30) (c := cd Tryd.f30) (by kernel_rfl) (by kernel_rfl) (by kernel_rfl)) (fun vs hl r ok h => ?_)
  unfold TLeast at h
  split at h
  · rename_i xs
    obtain rfl := val_ret h
    exact Tree.path_val (num_b xs)
  · cases h

/-! ### sameNums -/
noncomputable def rSN (k : List Item) (s : St) : Tree Out := runK E15 Tryd.prog noLoops 400 k s
noncomputable def sSN (xs ys : List (List Int)) (n m : Nat) : St := ⟨enterT Tryd.f24 [.c (.ro WS xs n), .c (.ro WS ys m)], []⟩
noncomputable def KSN : List Item := leftT [false] (rSN [.code (cd Tryd.f24)] (sSN [] [] 0 0))
noncomputable def stSN (xs ys : List (List Int)) (n m : Nat) (i : Int) : St := ⟨slotsOf 26 [(0, one (.ro WS xs n)), (1, one (.ro WS ys m)), (5, one (.int false .i64 i)), (6, one (.ro WS xs n)), (7, one (.int false .i64 n)), (8, one (.ro WS ys m))], []⟩
theorem sn_a (xs ys : List (List Int)) (n m : Nat) : pieceT [0, 1, 5, 6, 7, 8] [5] [] [false] (rSN [.code (cd Tryd.f24)] (sSN xs ys n m)) =
    some ([(n : Int) != m], KSN, stSN xs ys n m (0 : Nat)) := by kernel_rfl
theorem sn_b (xs ys : List (List Int)) (n m i : Nat) : pieceT [0, 1, 5, 6, 7, 8] [5] [] [true, true, true, false] (rSN KSN (stSN xs ys n m i)) =
    some ([decide ((i : Int) < n), decide (0 ≤ (i : Int) ∧ (i : Int) < n), decide (0 ≤ (i : Int) ∧ (i : Int) < m), !(xs.getD i z4 == ys.getD i z4 && true)], KSN, stSN xs ys n m (iw ((i : Int) + 1))) := by kernel_rfl
theorem sn_c (xs ys : List (List Int)) (n m i : Nat) : endT Tryd.prog Tryd.f24 [] [false] (rSN KSN (stSN xs ys n m i)) =
    some ([decide ((i : Int) < n)], .one (.c (.bool true true)), []) := by kernel_rfl
theorem sn_nil : endT Tryd.prog Tryd.f24 [] [] (runK E15 Tryd.prog allLoops 400 [.code (cd Tryd.f24)] ⟨enterT Tryd.f24 [.c .nils, .c .nils], []⟩) = some ([], .one (.c (.bool true true)), []) := by kernel_rfl
def snB (xs ys : List (List Int)) (n m : Nat) : Bool := decide (n = m ∧ n ≤ 1048576 ∧ n ≤ xs.length ∧ xs.take n = ys.take n)
def TsameN (vs : List V1) (hl : Heap) : Tree (SV × Heap) :=
  match vs, hl with
  | [.c .nils, .c .nils], [] => .ret (.one (.c (.bool false true)), [])
  | [.c (.ro (.ws .u64 4) xs n), .c (.ro (.ws .u64 4) ys m)], [] => Tree.chk (snB xs ys n m) (.ret (.one (.c (.bool false true)), []))
  | _, _ => .fail
theorem getD_take {α : Type} {xs ys : List α} {n i : Nat} {z : α} (h : xs.take n = ys.take n) (hi : i < n) : xs.getD i z = ys.getD i z := by
  have e : (xs.take n)[i]? = (ys.take n)[i]? := by rw [h]
  rw [List.getElem?_take_of_lt hi, List.getElem?_take_of_lt hi] at e
  rw [List.getD_eq_getElem?_getD, List.getD_eq_getElem?_getD, e]
theorem sn_runs {xs ys : List (List Int)} {n : Nat} (hb : n ≤ 1048576) (h : xs.take n = ys.take n) : Runs Tryd.prog E15 Tryd.f24 0 [.code (cd Tryd.f24)] (sSN xs ys n n) (.one (.c (.bool true true))) [] := by
  have ha := sn_a xs ys n n
  rw [bne_self_eq_false] at ha
  refine Runs.piece okE15 mx ha rfl (by rfl) ?_
  refine loopG (st := fun k (_ : Unit) => stSN xs ys n n k) (I := fun _ _ => True) (n := n) (fun k a hk _ => ⟨(), trivial, fun hr => ?_⟩) (fun _ _ => ?_) n 0 () (by omega) trivial
  · have hb := sn_b xs ys n n k
    rw [iwk (by omega), decide_eq_true (by omega), decide_eq_true (by omega), getD_take h hk, beq_self_eq_true] at hb
    exact Runs.piece okE15 mx hb rfl (by rfl) hr
  · exact Runs.last okE15 mx (sn_c xs ys n n n) (by rw [decide_eq_false (by omega)]) (by rfl)
theorem ok_sameN : EntryOk Tryd.prog G0 24 TsameN := by
  refine EntryOk.runs (S := E15) (fn := Tryd.f24) (c := cd Tryd.f24) (by kernel_rfl) (by kernel_rfl) (by kernel_rfl) (fun vs hl r hl' ok h => ?_)
  unfold TsameN at h
  split at h
  · obtain ⟨rfl, rfl⟩ := Prod.mk.inj (val_ret h)
    exact (Runs.last okE15 mx sn_nil (by rfl) (by rfl)).resU
  · rename_i xs n ys m
    obtain ⟨h1, h2⟩ := val_chk h
    obtain ⟨rfl, h3, h4, h5⟩ := of_decide_eq_true h1
    obtain ⟨rfl, rfl⟩ := Prod.mk.inj (val_ret h2)
    exact (sn_runs h3 h5).resU
  · cases h
noncomputable def E16 : Tab := ((E15.put 23 0 Tis).put 30 0 TLeast).put 24 0 TsameN
theorem okE16 : SpecOk Tryd.prog E16 := ((okE15.put ok_is).put ok_num).put ok_sameN
end Go.Sc
