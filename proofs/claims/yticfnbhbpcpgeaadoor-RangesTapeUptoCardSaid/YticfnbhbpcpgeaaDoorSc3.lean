/-
  Contracts of the program's scalars, part 3: least numbers.
-/
import Derived.Test.YticfnbhbpcpgeaaDoorSc2
namespace Go.Sc
open Go Go.SX Go.Proofs

theorem val_tab0 : val tab0 = ell := by decide
def low (n : Int) : Int := if n < ell then n else n - ell
def Tlower (vs : List V1) (hl : Heap) : Tree (SV × Heap) :=
  match vs, hl with
  | [.g [.ws .u64 4 xs]], [] => .ret (.one (ws (limbs (low (val xs)))), [])
  | _, _ => .fail
def neg1 (p : Prop) [Decidable p] : Int := um (0 - if p then 1 else 0)
theorem neg1_yes {p : Prop} [Decidable p] (h : p) : neg1 p = 18446744073709551615 := by unfold neg1; rw [if_pos h]; rfl
theorem neg1_no {p : Prop} [Decidable p] (h : ¬ p) : neg1 p = 0 := by unfold neg1; rw [if_neg h]; rfl
theorem neg1_or {p : Prop} [Decidable p] : decide (neg1 p = 0 ∨ neg1 p = 18446744073709551615) = true := by
  by_cases h : p
  · rw [neg1_yes h]; decide
  · rw [neg1_no h]; decide
theorem neg1_if {α : Type} {p : Prop} [Decidable p] (a b : α) : (if neg1 p = 0 then a else b) = if p then b else a := by
  by_cases h : p
  · rw [neg1_yes h, if_pos h, if_neg (by decide)]
  · rw [neg1_no h, if_neg h, if_pos rfl]
theorem b_lower (xs : List Int) : (bodyT C2 Tryd.prog allLoops Tryd.f36 (cd Tryd.f36) [ws xs] []).path [true] =
    some ([decide (neg1 (val xs < val tab0) = 0 ∨ neg1 (val xs < val tab0) = 18446744073709551615)], .one (ws (if neg1 (val xs < val tab0) = 0 then limbs (val xs - val tab0) else xs)), []) := by kernel_rfl
theorem ok_lower : EntryOk Tryd.prog G0 36 Tlower := by
  refine EntryOk.sub (bodyT_ok okC2 mx (un := allLoops) (fn := Tryd.f36) (c := cd Tryd.f36) (by kernel_rfl) (by kernel_rfl) (by kernel_rfl)) (fun vs hl r ok h => ?_)
  unfold Tlower at h
  split at h
  · rename_i xs
    obtain rfl := val_ret h
    have hx : okL xs := ok.1.1
    have hp := b_lower xs
    rw [neg1_or, neg1_if, val_tab0] at hp
    have e : (if val xs < ell then xs else limbs (val xs - ell)) = limbs (low (val xs)) := by
      unfold low
      by_cases h : val xs < ell
      · rw [if_pos h, if_pos h, limbs_val hx]
      · rw [if_neg h, if_neg h]
    rw [e] at hp
    exact Tree.path_val hp
  · cases h
noncomputable def C3 : Tab := C2.put 36 0 Tlower
theorem okC3 : SpecOk Tryd.prog C3 := okC2.put ok_lower

/-! ### Least -/
def TLeast (vs : List V1) (hl : Heap) : Tree (SV × Heap) :=
  match vs, hl with
  | [.g [.ws .u64 4 xs]], [] => .ret (.one (ws (limbs (val xs % ell))), [])
  | _, _ => .fail
def lq (d : Int) : Int := Int.fdiv d 1152921504606846976
def lc1 (q : Int) : Int := (mulLo q 1503914060200516822 + mulHi q 6346243789798364141 + 0) % 18446744073709551616
def lc2 (q : Int) : Int := um (mulHi q 1503914060200516822 + (mulLo q 1503914060200516822 + mulHi q 6346243789798364141 + 0) / 18446744073709551616)
def lc (q : Int) : List Int := [mulLo q 6346243789798364141, lc1 q, lc2 q, 0]
def la (a b c d : Int) : List Int := [a, b, c, band d 1152921504606846975]
def ld (a b c d : Int) : List Int := limbs (val (la a b c d) - val (lc (lq d)))
def le (a b c d : Int) : List Int := limbs (val (ld a b c d) + val tab0)
theorem b_Least1 (a b c d : Int) : (bodyT C3 Tryd.prog allLoops Tryd.f35 (cd Tryd.f35) [ws [a, b, c, d]] []).path [true] =
    some ([decide (d < 1152921504606846976)], .one (ws [a, b, c, d]), []) := by kernel_rfl
theorem b_Least2 (a b c d : Int) : (bodyT C3 Tryd.prog allLoops Tryd.f35 (cd Tryd.f35) [ws [a, b, c, d]] []).path [false, true, true] =
    some ([decide (d < 1152921504606846976), true, decide (neg1 (val (la a b c d) < val (lc (lq d))) = 0 ∨ neg1 (val (la a b c d) < val (lc (lq d))) = 18446744073709551615)],
      .one (ws (limbs (low (val (if neg1 (val (la a b c d) < val (lc (lq d))) = 0 then ld a b c d else le a b c d))))), []) := by kernel_rfl
theorem least_low {a b c d : Int} (ha : R a) (hb : R b) (hc : R c) (hd : R d) (h : d < 1152921504606846976) : [a, b, c, d] = limbs (val [a, b, c, d] % ell) := by
  have e : val [a, b, c, d] % ell = val [a, b, c, d] := by
    rw [val4]; unfold R at *; unfold ell; omega
  rw [e, limbs_val]
  refine ⟨rfl, fun x hx => inU.mpr ?_⟩
  simp only [List.mem_cons, List.not_mem_nil, or_false] at hx
  rcases hx with rfl | rfl | rfl | rfl <;> assumption
theorem val_lc {q : Int} (h : 0 ≤ q ∧ q ≤ 15) : val (lc q) = q * 27742317777372353535851937790883648493 := by
  unfold lc lc1 lc2 um mulHi mulLo
  rw [val4, wrapU]
  omega
theorem val_la {a b c d : Int} (ha : R a) (hb : R b) (hc : R c) (hd : R d) : val (la a b c d) = val [a, b, c, d] - 7237005577332262213973186563042994240829374041602535252466099000494570602496 * (d / 1152921504606846976) := by
  have e : band d 1152921504606846975 = d % 1152921504606846976 := band_mask hd 60 (by decide)
  unfold la
  rw [val4, val4, e]; omega
theorem least_high {a b c d : Int} (ha : R a) (hb : R b) (hc : R c) (hd : R d) (h : ¬ d < 1152921504606846976) :
    low (val (if val (la a b c d) < val (lc (lq d)) then le a b c d else ld a b c d)) = val [a, b, c, d] % ell := by
  have eq : lq d = d / 1152921504606846976 := fdiv_pos d 60
  have hq : 0 ≤ d / 1152921504606846976 ∧ d / 1152921504606846976 ≤ 15 := by unfold R at hd; omega
  have h1 := val_la ha hb hc hd
  have h2 := val_lc hq
  have hb : val [a, b, c, d] = a + 18446744073709551616 * b + 340282366920938463463374607431768211456 * c + 6277101735386680763835789423207666416102355444464034512896 * d := rfl
  unfold R at *
  have h3 : 0 ≤ val (la a b c d) ∧ val (la a b c d) < 7237005577332262213973186563042994240829374041602535252466099000494570602496 := by omega
  rw [eq]
  rw [← eq] at h2
  by_cases hlt : val (la a b c d) < val (lc (lq d))
  · rw [← eq, if_pos hlt]
    unfold le
    have e3 : val (limbs (val (ld a b c d) + val tab0)) = val (la a b c d) - val (lc (lq d)) + ell := by
      rw [val_limbs', val_tab0]
      unfold ld
      rw [val_limbs']
      rw [h2, eq] at *
      unfold ell
      omega
    rw [e3]
    unfold low
    rw [h2, eq] at *
    rw [if_pos (by omega), h1]
    unfold ell
    omega
  · rw [← eq, if_neg hlt]
    unfold ld
    rw [val_limbs (by rw [h2, eq] at *; omega)]
    unfold low
    rw [h2, eq] at *
    rw [h1]
    split <;> unfold ell at * <;> omega
theorem ok_Least : EntryOk Tryd.prog G0 35 TLeast := by
  refine EntryOk.sub (bodyT_ok okC3 mx (un := allLoops) (fn := Tryd.f35) (c := cd Tryd.f35) (by kernel_rfl) (by kernel_rfl) (by kernel_rfl)) (fun vs hl r ok h => ?_)
  unfold TLeast at h
  split at h
  · rename_i xs
    obtain rfl := val_ret h
    obtain ⟨a, b, c, d, rfl, ha, hb, hc, hd⟩ := okL_get (show okL xs from ok.1.1)
    by_cases hlt : d < 1152921504606846976
    · have hp := b_Least1 a b c d
      rw [decide_eq_true hlt] at hp
      rw [← least_low ha hb hc hd hlt]
      exact Tree.path_val hp
    · have hp := b_Least2 a b c d
      rw [decide_eq_false hlt, neg1_or, neg1_if, least_high ha hb hc hd hlt] at hp
      exact Tree.path_val hp
  · cases h
noncomputable def C4 : Tab := C3.put 35 0 TLeast
theorem okC4 : SpecOk Tryd.prog C4 := okC3.put ok_Least
end Go.Sc
