/-
  Contracts of the document's scalars, part 5: sums, differences.
-/
import Derived.Test.YticfnbhbpcpgeaaDoorRfa
namespace Go.Sc
open Go Go.SX Go.Proofs

def TrAdd (vs : List V1) (hl : Heap) : Tree (SV × Heap) :=
  match vs, hl with
  | [.g [.ws .u64 4 xs], .g [.ws .u64 4 ys]], [] => Tree.chk (decide (val xs < ell ∧ val ys < ell)) (.ret (.one (ws (limbs ((val xs + val ys) % ell))), []))
  | _, _ => .fail
theorem rAdd_1 (xs ys : List Int) : (bodyT D5 Tryd.prog allLoops Tryd.f16 (cd Tryd.f16) [ws xs, ws ys] []).path [true] =
    some ([!decide (val (limbs (val xs + val ys)) < val tab0)], .one (ws (limbs (val (limbs (val xs + val ys)) - val tab0))), []) := by kernel_rfl
theorem rAdd_2 (xs ys : List Int) : (bodyT D5 Tryd.prog allLoops Tryd.f16 (cd Tryd.f16) [ws xs, ws ys] []).path [false] =
    some ([!decide (val (limbs (val xs + val ys)) < val tab0)], .one (ws (limbs (val xs + val ys))), []) := by kernel_rfl
theorem ok_rAdd : EntryOk Tryd.prog G0 16 TrAdd := by
  refine EntryOk.sub (bodyT_ok okD5 mx (un := allLoops) (fn := Tryd.f16) (c := cd Tryd.f16) (by kernel_rfl) (by kernel_rfl) (by kernel_rfl)) (fun vs hl r ok h => ?_)
  unfold TrAdd at h
  split at h
  · rename_i xs ys
    obtain ⟨h1, h2⟩ := val_chk h
    obtain ⟨hx, hy⟩ := of_decide_eq_true h1
    obtain rfl := val_ret h2
    have bx := val_bound (show okL xs from ok.1.1)
    have bY := val_bound (show okL ys from ok.2.1.1)
    have ev : val (limbs (val xs + val ys)) = val xs + val ys := val_limbs (by unfold ell at *; omega)
    have em : low (val xs + val ys) = (val xs + val ys) % ell := low_mod (by omega)
    by_cases hlt : val xs + val ys < ell
    · have hp := rAdd_2 xs ys
      have e : (val xs + val ys) % ell = val xs + val ys := by rw [← em]; unfold low; rw [if_pos hlt]
      rw [ev, val_tab0, decide_eq_true hlt, ← e] at hp
      exact Tree.path_val hp
    · have hp := rAdd_1 xs ys
      have e : (val xs + val ys) % ell = val xs + val ys - ell := by rw [← em]; unfold low; rw [if_neg hlt]
      rw [ev, val_tab0, decide_eq_false hlt, ← e] at hp
      exact Tree.path_val hp
  · cases h
def TrIsZero (vs : List V1) (hl : Heap) : Tree (SV × Heap) :=
  match vs, hl with
  | [.g [.ws .u64 4 xs]], [] => .ret (.one (.c (.bool false (decide (val xs = 0)))), [])
  | _, _ => .fail
theorem rIsZero_b (xs : List Int) : (bodyT D5 Tryd.prog allLoops Tryd.f92 (cd Tryd.f92) [ws xs] []).path [] = some ([], .one (.c (.bool false (xs == [0, 0, 0, 0] && true))), []) := by kernel_rfl
theorem isZero_eq {xs : List Int} (h : okL xs) : (xs == [0, 0, 0, 0] && true) = decide (val xs = 0) := by
  obtain ⟨a, b, c, d, rfl, ha, hb, hc, hd⟩ := okL_get h
  by_cases hz : a = 0 ∧ b = 0 ∧ c = 0 ∧ d = 0
  · obtain ⟨rfl, rfl, rfl, rfl⟩ := hz; rfl
  · have h1 : ¬ val [a, b, c, d] = 0 := by rw [val4]; omega
    rw [decide_eq_false h1, Bool.and_true]
    simp only [beq_eq_false_iff_ne, ne_eq, List.cons.injEq, and_true]
    exact hz
theorem ok_rIsZero : EntryOk Tryd.prog G0 92 TrIsZero := by
  refine EntryOk.sub (bodyT_ok okD5 mx (un := allLoops) (fn := Tryd.f92) (c := cd Tryd.f92) (by kernel_rfl) (by kernel_rfl) (by kernel_rfl)) (fun vs hl r ok h => ?_)
  unfold TrIsZero at h
  split at h
  · rename_i xs
    obtain rfl := val_ret h
    have hp := rIsZero_b xs
    rw [isZero_eq (show okL xs from ok.1.1)] at hp
    exact Tree.path_val hp
  · cases h
noncomputable def D6 : Tab := ((D5.put 16 0 TrAdd).put 92 0 TrIsZero).put 17 0 TInt
theorem b_rInt (n : Int) : (bodyT D5 Tryd.prog allLoops Tryd.f17 (cd Tryd.f17) [.c (.int false .u64 n)] []).path [] = some ([], .one (ws [n, 0, 0, 0]), []) := by kernel_rfl
theorem ok_rInt : EntryOk Tryd.prog G0 17 TInt := by
  refine EntryOk.sub ((bodyT_ok okD5 mx (un := allLoops) (fn := Tryd.f17) (c := cd Tryd.f17) (by kernel_rfl) (by kernel_rfl) (by kernel_rfl)).unlit) (fun vs hl r ok h => ?_)
  unfold TInt at h
  split at h
  · rename_i l n
    obtain rfl := val_ret h
    exact Tree.path_val (b_rInt n)
  · cases h
theorem okD6 : SpecOk Tryd.prog D6 := ((okD5.put ok_rAdd).put ok_rIsZero).put ok_rInt
def TrNeg (vs : List V1) (hl : Heap) : Tree (SV × Heap) :=
  match vs, hl with
  | [.g [.ws .u64 4 xs]], [] => Tree.chk (decide (val xs < ell)) (.ret (.one (ws (limbs ((0 - val xs) % ell))), []))
  | _, _ => .fail
theorem rNeg_1 (xs : List Int) : (bodyT D6 Tryd.prog allLoops Tryd.f75 (cd Tryd.f75) [ws xs] []).path [true] = some ([decide (val xs = 0)], .one (ws xs), []) := by kernel_rfl
theorem rNeg_2 (xs : List Int) : (bodyT D6 Tryd.prog allLoops Tryd.f75 (cd Tryd.f75) [ws xs] []).path [false] = some ([decide (val xs = 0)], .one (ws (limbs (val tab0 - val xs))), []) := by kernel_rfl
theorem ok_rNeg : EntryOk Tryd.prog G0 75 TrNeg := by
  refine EntryOk.sub (bodyT_ok okD6 mx (un := allLoops) (fn := Tryd.f75) (c := cd Tryd.f75) (by kernel_rfl) (by kernel_rfl) (by kernel_rfl)) (fun vs hl r ok h => ?_)
  unfold TrNeg at h
  split at h
  · rename_i xs
    obtain ⟨h1, h2⟩ := val_chk h
    have hx := of_decide_eq_true h1
    obtain rfl := val_ret h2
    have bx := val_bound (show okL xs from ok.1.1)
    by_cases hz : val xs = 0
    · have hp := rNeg_1 xs
      have e : xs = limbs ((0 - val xs) % ell) := by
        rw [hz, ← limbs_val (show okL xs from ok.1.1), hz]; rfl
      rw [decide_eq_true hz] at hp
      exact (Tree.path_val hp).trans (congrArg (fun z => some (SV.one (ws z), ([] : Heap))) e)
    · have hp := rNeg_2 xs
      have e : (0 - val xs) % ell = ell - val xs := by unfold ell at *; omega
      rw [decide_eq_false hz, val_tab0, ← e] at hp
      exact Tree.path_val hp
  · cases h
noncomputable def D7 : Tab := D6.put 75 0 TrNeg
theorem okD7 : SpecOk Tryd.prog D7 := okD6.put ok_rNeg
theorem add_mod2 (a b : Int) : (a + b % ell) % ell = (a + b) % ell := by unfold ell; omega
theorem sub_zero2 (a b : Int) : a + (0 - b) = a - b := by omega
def TrSub (vs : List V1) (hl : Heap) : Tree (SV × Heap) :=
  match vs, hl with
  | [.g [.ws .u64 4 xs], .g [.ws .u64 4 ys]], [] => Tree.chk (decide (val xs < ell ∧ val ys < ell)) (.ret (.one (ws (limbs ((val xs - val ys) % ell))), []))
  | _, _ => .fail
theorem rSub_b (xs ys : List Int) : (bodyT D7 Tryd.prog allLoops Tryd.f52 (cd Tryd.f52) [ws xs, ws ys] []).path [true, true] =
    some ([decide (val ys < ell), decide (val xs < ell ∧ val (limbs ((0 - val ys) % ell)) < ell)], .one (ws (limbs ((val xs + val (limbs ((0 - val ys) % ell))) % ell))), []) := by kernel_rfl
theorem ok_rSub : EntryOk Tryd.prog G0 52 TrSub := by
  refine EntryOk.sub (bodyT_ok okD7 mx (un := allLoops) (fn := Tryd.f52) (c := cd Tryd.f52) (by kernel_rfl) (by kernel_rfl) (by kernel_rfl)) (fun vs hl r ok h => ?_)
  unfold TrSub at h
  split at h
  · rename_i xs ys
    obtain ⟨h1, h2⟩ := val_chk h
    obtain ⟨hx, hy⟩ := of_decide_eq_true h1
    obtain rfl := val_ret h2
    have hp := rSub_b xs ys
    have e : (val xs + (0 - val ys) % ell) % ell = (val xs - val ys) % ell := by
      rw [add_mod2, sub_zero2]
    rw [val_mod, decide_eq_true hy, decide_eq_true ⟨hx, (mod_bound _).2⟩, e] at hp
    exact Tree.path_val hp
  · cases h
noncomputable def D8 : Tab := D7.put 52 0 TrSub
theorem okD8 : SpecOk Tryd.prog D8 := okD7.put ok_rSub
end Go.Sc
