/-
  Contracts of the program's scalars, part 5: sums, differences and products modulo l.
-/
import Derived.Test.YticfnbhbpcpgeaaDoorSc4
namespace Go.Sc
open Go Go.SX Go.Proofs

theorem mod_bound (n : Int) : 0 ≤ n % ell ∧ n % ell < ell := by unfold ell; omega
theorem val_mod (n : Int) : val (limbs (n % ell)) = n % ell := val_limbs (by have := mod_bound n; unfold ell at *; omega)

def TAdd (vs : List V1) (hl : Heap) : Tree (SV × Heap) :=
  match vs, hl with
  | [.g [.ws .u64 4 xs], .g [.ws .u64 4 ys]], [] => .ret (.one (ws (limbs ((val xs + val ys) % ell))), [])
  | _, _ => .fail
def TSub (vs : List V1) (hl : Heap) : Tree (SV × Heap) :=
  match vs, hl with
  | [.g [.ws .u64 4 xs], .g [.ws .u64 4 ys]], [] => .ret (.one (ws (limbs ((val xs - val ys) % ell))), [])
  | _, _ => .fail
def TMul (vs : List V1) (hl : Heap) : Tree (SV × Heap) :=
  match vs, hl with
  | [.g [.ws .u64 4 xs], .g [.ws .u64 4 ys]], [] => .ret (.one (ws (limbs (val xs * val ys % ell))), [])
  | _, _ => .fail
def TInt (vs : List V1) (hl : Heap) : Tree (SV × Heap) :=
  match vs, hl with
  | [.c (.int _ .u64 n)], [] => .ret (.one (ws [n, 0, 0, 0]), [])
  | _, _ => .fail
def lm (xs : List Int) : List Int := limbs (val xs % ell)
theorem b_Add (xs ys : List Int) : (bodyT C6 Tryd.prog allLoops Tryd.f14 (cd Tryd.f14) [ws xs, ws ys] []).path [] =
    some ([], .one (ws (limbs (low (val (limbs (val (lm xs) + val (lm ys))))))), []) := by kernel_rfl
theorem ok_Add : EntryOk Tryd.prog G0 14 TAdd := by
  refine EntryOk.sub (bodyT_ok okC6 mx (un := allLoops) (fn := Tryd.f14) (c := cd Tryd.f14) (by kernel_rfl) (by kernel_rfl) (by kernel_rfl)) (fun vs hl r ok h => ?_)
  unfold TAdd at h
  split at h
  · rename_i xs ys
    obtain rfl := val_ret h
    have hp := b_Add xs ys
    have e : low (val (limbs (val (lm xs) + val (lm ys)))) = (val xs + val ys) % ell := by
      unfold lm
      rw [val_mod, val_mod]
      have h1 := mod_bound (val xs)
      have h2 := mod_bound (val ys)
      rw [val_limbs (by unfold ell at *; omega), low_mod (by omega), ← Int.add_emod]
    rw [e] at hp
    exact Tree.path_val hp
  · cases h
theorem b_Sub (xs ys : List Int) : (bodyT C6 Tryd.prog allLoops Tryd.f71 (cd Tryd.f71) [ws xs, ws ys] []).path [true] =
    some ([decide (neg1 (val (lm xs) < val (lm ys)) = 0 ∨ neg1 (val (lm xs) < val (lm ys)) = 18446744073709551615)],
      .one (ws (if neg1 (val (lm xs) < val (lm ys)) = 0 then limbs (val (lm xs) - val (lm ys)) else limbs (val (limbs (val (lm xs) - val (lm ys))) + val tab0))), []) := by kernel_rfl
theorem sub_mod {a b : Int} (ha : 0 ≤ a ∧ a < ell) (hb : 0 ≤ b ∧ b < ell) : (if a < b then limbs (val (limbs (a - b)) + ell) else limbs (a - b)) = limbs ((a - b) % ell) := by
  by_cases h : a < b
  · rw [if_pos h]
    have e : (a - b) % ell = a - b + ell := by unfold ell at *; omega
    have e2 : limbs (val (limbs (a - b)) + ell) = limbs (a - b + ell) := by
      rw [val_limbs']
      unfold limbs
      unfold ell at *
      congr 1
      · omega
      congr 1
      · omega
      congr 1
      · omega
      congr 1
      omega
    rw [e, e2]
  · rw [if_neg h]
    have e : (a - b) % ell = a - b := by unfold ell at *; omega
    rw [e]
theorem ok_Sub : EntryOk Tryd.prog G0 71 TSub := by
  refine EntryOk.sub (bodyT_ok okC6 mx (un := allLoops) (fn := Tryd.f71) (c := cd Tryd.f71) (by kernel_rfl) (by kernel_rfl) (by kernel_rfl)) (fun vs hl r ok h => ?_)
  unfold TSub at h
  split at h
  · rename_i xs ys
    obtain rfl := val_ret h
    have hp := b_Sub xs ys
    unfold lm at hp
    rw [neg1_or, neg1_if, val_tab0, val_mod, val_mod, sub_mod (mod_bound _) (mod_bound _), ← Int.sub_emod] at hp
    exact Tree.path_val hp
  · cases h
theorem b_Mul (xs ys : List Int) : (bodyT C6 Tryd.prog allLoops Tryd.f72 (cd Tryd.f72) [ws xs, ws ys] []).path [true, true] =
    some ([decide (val (lm xs) < ell), decide (val (limbs (redc (val (lm xs)) (val (lm ys)))) < ell)], .one (ws (limbs (redc (val (limbs (redc (val (lm xs)) (val (lm ys))))) (val tab2)))), []) := by kernel_rfl
theorem val_tab2 : val tab2 = 1627715501170711445284395025044413883736156588369414752970002579683115011841 := by decide
theorem r2_eq : 1627715501170711445284395025044413883736156588369414752970002579683115011841 * rinv = 115792089237316195423570985008687907853269984665640564039457584007913129639936 + ell * 1002787027006193005169263912116952179000496417731327443473456661383751921972 := by rfl
theorem emod_mul (u c : Int) : u % ell * c % ell = u * c % ell := by rw [Int.mul_emod, Int.emod_emod_of_dvd _ (Int.dvd_refl _), ← Int.mul_emod]
/-- out of the second product -/
theorem redc_twice (x y : Int) : redc (redc x y) 1627715501170711445284395025044413883736156588369414752970002579683115011841 = x * y % ell := by
  unfold redc
  rw [Int.mul_assoc, emod_mul, r2_eq]
  have e : x * y * rinv * (115792089237316195423570985008687907853269984665640564039457584007913129639936 + ell * 1002787027006193005169263912116952179000496417731327443473456661383751921972) = x * y + ell * (x * y * 71336056475231800826343715077027849978041630819377026201054086228062141447707 + x * y * rinv * 1002787027006193005169263912116952179000496417731327443473456661383751921972) := by
    have h1 : x * y * rinv * 115792089237316195423570985008687907853269984665640564039457584007913129639936 = x * y + ell * (x * y * 71336056475231800826343715077027849978041630819377026201054086228062141447707) := by
      rw [Int.mul_assoc, Int.mul_comm rinv, rinv_eq, Int.mul_add, Int.mul_one]
      congr 1
      rw [Int.mul_left_comm]
    rw [Int.mul_add, h1, Int.mul_add, Int.add_assoc]
    congr 2
    rw [Int.mul_left_comm]
  rw [e, Int.add_mul_emod_self_left]
theorem redc_bound (x y : Int) : val (limbs (redc x y)) = redc x y ∧ redc x y < ell := by
  unfold redc
  exact ⟨val_mod _, (mod_bound _).2⟩
theorem ok_Mul : EntryOk Tryd.prog G0 72 TMul := by
  refine EntryOk.sub (bodyT_ok okC6 mx (un := allLoops) (fn := Tryd.f72) (c := cd Tryd.f72) (by kernel_rfl) (by kernel_rfl) (by kernel_rfl)) (fun vs hl r ok h => ?_)
  unfold TMul at h
  split at h
  · rename_i xs ys
    obtain rfl := val_ret h
    have hp := b_Mul xs ys
    unfold lm at hp
    rw [val_mod, val_mod, (redc_bound _ _).1, val_tab2, redc_twice, decide_eq_true (mod_bound _).2, decide_eq_true (redc_bound _ _).2, ← Int.mul_emod] at hp
    exact Tree.path_val hp
  · cases h
theorem b_Int (n : Int) : (bodyT C6 Tryd.prog allLoops Tryd.f15 (cd Tryd.f15) [.c (.int false .u64 n)] []).path [] = some ([], .one (ws [n, 0, 0, 0]), []) := by kernel_rfl
theorem ok_Int : EntryOk Tryd.prog G0 15 TInt := by
  refine EntryOk.sub ((bodyT_ok okC6 mx (un := allLoops) (fn := Tryd.f15) (c := cd Tryd.f15) (by kernel_rfl) (by kernel_rfl) (by kernel_rfl)).unlit) (fun vs hl r ok h => ?_)
  unfold TInt at h
  split at h
  · rename_i l n
    obtain rfl := val_ret h
    exact Tree.path_val (b_Int n)
  · cases h
noncomputable def C7 : Tab := ((((C6.put 14 0 TAdd).put 71 0 TSub).put 72 0 TMul).put 15 0 TInt)
theorem okC7 : SpecOk Tryd.prog C7 := (((okC6.put ok_Add).put ok_Sub).put ok_Mul).put ok_Int
end Go.Sc
