/-
  RangesTape: the law's function gives true.
-/
import Derived.Test.YticfnbhbpcpgeaaDoorPm7
namespace Go.Sc
open Go Go.SX Go.Proofs

noncomputable def bL (b c : Int) (xs : List Int) (len : Nat) (y z : List Int) : Tree (SV × Heap) := bodyT E16 Tryd.prog allLoops Tryd.f5 (cd Tryd.f5) [pr b c, .c (.ro B1 xs len), ws y, ws z] []
def bd (b c : Int) : Int := if alw b c then bnd (iw (iw (iw (iw (2 * iw (b * c)) + c) + iw (2 * (rnd (iw (b * c)) 10 0 : Nat))) + 7)) else 0
noncomputable def rmB (xs : List Int) : Bool := SX.room xs.length 1 && SX.room xs.length 1
def eqA (xs ys : List Int) (b c : Int) (i : Nat) : Bool := (!(tpA (xs.drop 0) (b.toNat * c.toNat) i == tpA ys (b.toNat * c.toNat) i && true)) == false
def vB (b c : Int) (y z : List Int) : Bool := limbs (dlt (val y) (val z) b.toNat c.toNat % ell) == limbs (dlt (val (limbs (val y % ell))) (val (limbs (val z % ell))) b.toNat c.toNat % ell) && true
def zB (b c : Int) (z : List Int) : Bool := alw b c && decide (val (limbs (val z % ell)) < ell)
theorem law_a (b c : Int) (xs : List Int) (len : Nat) (y z : List Int) : (bL b c xs len y z).path [true, true, false, true, false, true, true, true, true, true, false, true, false, false, true] =
    some ([rmB (xs.take len), decide ((xs.take len).length ≤ 1099511627776), alw b c, decide (len ≤ 1099511627776), alw b c, true, true, true, true, true, false, (bd b c != bd b c) == false, false, alw b c, !alw b c], .one (.c (.bool false true)), []) := by kernel_rfl
theorem law_b (b c : Int) (xs : List Int) (len : Nat) (y z : List Int) : (bL b c xs len y z).path [true, true, true, true, true, true, true, true, true, true, true, true, false, true, false, true, false, true] =
    some ([rmB (xs.take len), decide ((xs.take len).length ≤ 1099511627776), alw b c, decide ((xs.take len).length < 64 * (2 * (b.toNat * c.toNat) + 4)), decide (len ≤ 1099511627776), alw b c, decide (len < 64 * (2 * (b.toNat * c.toNat) + 4)),
      true, true, true, true, true, false, (bd b c != bd b c) == false, false, alw b c, !alw b c, zB b c z], .one (.c (.bool false (vB b c y z))), []) := by kernel_rfl
theorem law_c (b c : Int) (xs : List Int) (len : Nat) (y z : List Int) : (bL b c xs len y z).path [true, true, true, false, true, true, false, true, true, true, true, true, true, true, false, true, false, true, false, true] =
    some ([rmB (xs.take len), decide ((xs.take len).length ≤ 1099511627776), alw b c, decide ((xs.take len).length < 64 * (2 * (b.toNat * c.toNat) + 4)), decide (len ≤ 1099511627776), alw b c, decide (len < 64 * (2 * (b.toNat * c.toNat) + 4)),
      eqA (xs.take len) xs b c 0, eqA (xs.take len) xs b c 1, eqA (xs.take len) xs b c (2 + 2 * (b.toNat * c.toNat)), eqA (xs.take len) xs b c (3 + 2 * (b.toNat * c.toNat)),
      snB ((tpS ((xs.take len).drop 0) (b.toNat * c.toNat)).drop 0) ((tapeL xs (2 * (b.toNat * c.toNat) + 4)).drop 2) (b.toNat * c.toNat) (b.toNat * c.toNat), true,
      snB ((tpR ((xs.take len).drop 0) (b.toNat * c.toNat)).drop 0) ((tapeL xs (2 * (b.toNat * c.toNat) + 4)).drop (2 + b.toNat * c.toNat)) (b.toNat * c.toNat) (b.toNat * c.toNat), false,
      (bd b c != bd b c) == false, false, alw b c, !alw b c, zB b c z], .one (.c (.bool false (vB b c y z))), []) := by kernel_rfl
theorem vB_true (b c : Int) (y z : List Int) : vB b c y z = true := by
  unfold vB
  rw [val_mod, val_mod, Cg.limbs (dlt_cg (Cg.mod (val y)) (Cg.mod (val z)) b.toNat c.toNat), beq_self_eq_true]; rfl
theorem zB_true {b c : Int} (h : alw b c = true) (z : List Int) : zB b c z = true := by
  unfold zB
  rw [h, val_mod, decide_eq_true (mod_bound _).2]; rfl
theorem eqA_true (xs : List Int) (b c : Int) (i : Nat) : eqA xs xs b c i = true := by
  unfold eqA
  rw [List.drop_zero, beq_self_eq_true]; rfl
theorem bd_true (b c : Int) : ((bd b c != bd b c) == false) = true := by rw [bne_self_eq_false]; rfl
theorem rmB_true {xs : List Int} (h : xs.length ≤ 1048576) : rmB xs = true := by
  unfold rmB; simp [SX.room]; omega
theorem snB_S (xs : List Int) {s : Nat} (h : s ≤ 1024) : snB ((tpS (xs.drop 0) s).drop 0) ((tapeL xs (2 * s + 4)).drop 2) s s = true := by
  unfold snB
  rw [List.drop_zero, List.drop_zero]
  refine decide_eq_true ⟨rfl, by omega, by rw [tpS_len]; exact Nat.le_refl _, ?_⟩
  unfold tpS; rw [List.take_take, Nat.min_self]
theorem snB_R (xs : List Int) {s : Nat} (h : s ≤ 1024) : snB ((tpR (xs.drop 0) s).drop 0) ((tapeL xs (2 * s + 4)).drop (2 + s)) s s = true := by
  unfold snB
  rw [List.drop_zero, List.drop_zero]
  refine decide_eq_true ⟨rfl, by omega, by rw [tpR_len]; exact Nat.le_refl _, ?_⟩
  unfold tpR; rw [List.take_take, Nat.min_self]
theorem law (b c : Int) (xs : List Int) (len : Nat) (y z : List Int) (hl : xs.length = len) (hs : len ≤ 1048576) : (bL b c xs len y z).val = some (.one (.c (.bool false true)), []) := by
  have et : xs.take len = xs := List.take_of_length_le (by omega)
  cases ha : alw b c with
  | false =>
    have hp := law_a b c xs len y z
    rw [et, ha, rmB_true (by omega), bd_true, decide_eq_true (show xs.length ≤ 1099511627776 by omega), decide_eq_true (show len ≤ 1099511627776 by omega)] at hp
    exact Tree.path_val hp
  | true =>
    obtain ⟨B, C, rfl, rfl, b1, b2, b3, b4⟩ := alw_nat ha
    obtain ⟨em, s1, s2⟩ := alw_mul b1 b2 b3 b4
    by_cases hlt : len < 64 * (2 * (B * C) + 4)
    · have hp := law_b B C xs len y z
      rw [Int.toNat_natCast, Int.toNat_natCast, et, ha, rmB_true (by omega), bd_true, vB_true, zB_true ha, decide_eq_true (show xs.length ≤ 1099511627776 by omega), decide_eq_true (show len ≤ 1099511627776 by omega), decide_eq_true (show xs.length < 64 * (2 * (B * C) + 4) by omega), decide_eq_true hlt] at hp
      exact Tree.path_val hp
    · have hp := law_c B C xs len y z
      rw [Int.toNat_natCast, Int.toNat_natCast, et, ha, rmB_true (by omega), bd_true, vB_true, zB_true ha, decide_eq_true (show xs.length ≤ 1099511627776 by omega), decide_eq_true (show len ≤ 1099511627776 by omega), decide_eq_false (show ¬ xs.length < 64 * (2 * (B * C) + 4) by omega), decide_eq_false hlt,
        eqA_true, eqA_true, eqA_true, eqA_true, snB_S xs s2, snB_R xs s2] at hp
      exact Tree.path_val hp
theorem ok_law : EntryOk Tryd.prog G0 5 (bodyT E16 Tryd.prog allLoops Tryd.f5 (cd Tryd.f5)) :=
  bodyT_ok okE16 mx (un := allLoops) (fn := Tryd.f5) (c := cd Tryd.f5) (by kernel_rfl) (by kernel_rfl) (by kernel_rfl)
end Go.Sc
