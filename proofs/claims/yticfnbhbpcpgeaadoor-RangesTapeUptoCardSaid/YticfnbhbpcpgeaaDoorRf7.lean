/-
  Contracts of the document's scalars, part 7: powers.
-/
import Derived.Test.YticfnbhbpcpgeaaDoorRf6
namespace Go.Sc
open Go Go.SX Go.Proofs

def TPow (vs : List V1) (hl : Heap) : Tree (SV × Heap) :=
  match vs, hl with
  | [.g [.ws .u64 4 xs], .c (.int _ .u64 e)], [] => .ret (.one (ws (limbs (val xs ^ e.toNat % ell))), [])
  | _, _ => .fail
noncomputable def rQ (k : List Item) (s : St) : Tree Out := runK D10 Tryd.prog noLoops 400 k s
noncomputable def sQ (xs : List Int) (e : Int) : St := ⟨enterT Tryd.f74 [ws xs, .c (.int false .u64 e)], []⟩
noncomputable def KQ : List Item := leftT [] (rQ [.code (cd Tryd.f74)] (sQ [] 0))
noncomputable def stQ (xs r : List Int) (e i : Int) : St := ⟨slotsOf 24 [(1, one (.int false .u64 e)), (2, pt 0), (4, pt 1), (5, pt 2), (6, one (.int false .i64 i))], [.vals [.ws .u64 4 xs], .vals [.ws .u64 4 [0, 0, 0, 0]], .vals [.ws .u64 4 r]]⟩
theorem q_a (xs : List Int) (e : Int) : pieceT [1, 2, 4, 5, 6] [6] [0, 1, 2] [] (rQ [.code (cd Tryd.f74)] (sQ xs e)) = some ([], KQ, stQ xs [1, 0, 0, 0] e 63) := by kernel_rfl
def sqr (r : List Int) : List Int := limbs (val r * val r % ell)
theorem q_b (xs r : List Int) (e i : Int) : pieceT [1, 2, 4, 5, 6] [6] [0, 1, 2] [true, true, true] (rQ KQ (stQ xs r e i)) =
    some ([decide (i ≥ 0), decide (0 ≤ i), band (Int.fdiv e (2 ^ (min i.toNat 64))) 1 == 1], KQ, stQ xs (limbs (val (sqr r) * val xs % ell)) e (IntKind.i64.wrap (i - 1))) := by kernel_rfl
theorem q_c (xs r : List Int) (e i : Int) : pieceT [1, 2, 4, 5, 6] [6] [0, 1, 2] [true, true, false] (rQ KQ (stQ xs r e i)) =
    some ([decide (i ≥ 0), decide (0 ≤ i), band (Int.fdiv e (2 ^ (min i.toNat 64))) 1 == 1], KQ, stQ xs (sqr r) e (IntKind.i64.wrap (i - 1))) := by kernel_rfl
theorem q_d (xs r : List Int) (e i : Int) : endT Tryd.prog Tryd.f74 [] [false] (rQ KQ (stQ xs r e i)) = some ([decide (i ≥ 0)], .one (ws r), []) := by kernel_rfl
theorem pow_dbl (x : Int) (v b : Nat) : x ^ (2 * v + b) = x ^ v * x ^ v * x ^ b := by
  rw [Int.pow_add, Nat.two_mul, Int.pow_add]
theorem half_step (E i : Nat) : E / 2 ^ i = 2 * (E / 2 ^ (i + 1)) + E / 2 ^ i % 2 := by
  rw [Nat.pow_succ, ← Nat.div_div_eq_div_mul]; omega
theorem power_runs {xs : List Int} {E : Nat} (hE : E < 18446744073709551616) : Runs Tryd.prog D10 Tryd.f74 0 [.code (cd Tryd.f74)] (sQ xs (E : Int)) (.one (ws (limbs (val xs ^ E % ell)))) [] := by
  refine Runs.piece okD10 mx (q_a xs E) rfl (by rfl) ?_
  refine loopG (st := fun k (r : List Int) => stQ xs r E (63 - (k : Int))) (I := fun k r => r = limbs (val xs ^ (E / 2 ^ (64 - k)) % ell)) (n := 64) (fun k r hk hI => ?_) (fun r hI => ?_) 64 0 [1, 0, 0, 0] rfl ?_
  · subst hI
    have hi : (63 - (k : Int)).toNat = 63 - k := by omega
    have hp : (2 : Int) ^ min (63 - k) 64 = ((2 ^ (63 - k) : Nat) : Int) := by rw [Nat.min_eq_left (by omega)]; simp
    have hq : Int.fdiv (E : Int) ((2 ^ (63 - k) : Nat) : Int) = ((E / 2 ^ (63 - k) : Nat) : Int) := by rw [fdiv_pos]; rfl
    have hle : E / 2 ^ (63 - k) ≤ E := Nat.div_le_self _ _
    have hR : R ((E / 2 ^ (63 - k) : Nat) : Int) := ⟨Int.natCast_nonneg _, by omega⟩
    have hb : band ((E / 2 ^ (63 - k) : Nat) : Int) 1 = ((E / 2 ^ (63 - k) : Nat) : Int) % 2 := band_mask hR 1 (by decide)
    have hh := half_step E (63 - k)
    rw [show 63 - k + 1 = 64 - k from by omega] at hh
    have hs : val (sqr (limbs (val xs ^ (E / 2 ^ (64 - k)) % ell))) = val xs ^ (E / 2 ^ (64 - k)) * val xs ^ (E / 2 ^ (64 - k)) % ell := by
      unfold sqr; rw [val_mod, val_mod, ← Int.mul_emod]
    have hw : IntKind.i64.wrap (63 - (k : Int) - 1) = 63 - ((k + 1 : Nat) : Int) := by rw [wrap64 (by omega)]; omega
    by_cases hbit : E / 2 ^ (63 - k) % 2 = 1
    · have hqb := q_b xs (limbs (val xs ^ (E / 2 ^ (64 - k)) % ell)) E (63 - (k : Int))
      refine ⟨_, rfl, fun hr => ?_⟩
      have e1 : (val xs ^ (E / 2 ^ (64 - k)) * val xs ^ (E / 2 ^ (64 - k)) % ell) * val xs % ell = val xs ^ (E / 2 ^ (64 - (k + 1))) % ell := by
        rw [emod_mul, show 64 - (k + 1) = 63 - k from by omega, hh, hbit, pow_dbl, Int.pow_one]
      have e2 : (((E / 2 ^ (63 - k) : Nat) : Int) % 2 == 1) = true := by
        have : ((E / 2 ^ (63 - k) : Nat) : Int) % 2 = 1 := by omega
        rw [this]; rfl
      rw [hi, hp, hq, hb, hs, e1, e2, hw, decide_eq_true (show 63 - (k : Int) ≥ 0 by omega)] at hqb
      exact Runs.piece okD10 mx hqb rfl (by rfl) hr
    · have hqb := q_c xs (limbs (val xs ^ (E / 2 ^ (64 - k)) % ell)) E (63 - (k : Int))
      refine ⟨_, rfl, fun hr => ?_⟩
      have h0 : E / 2 ^ (63 - k) % 2 = 0 := by omega
      have e1 : sqr (limbs (val xs ^ (E / 2 ^ (64 - k)) % ell)) = limbs (val xs ^ (E / 2 ^ (64 - (k + 1))) % ell) := by
        unfold sqr
        rw [val_mod, ← Int.mul_emod, show 64 - (k + 1) = 63 - k from by omega, hh, h0, pow_dbl, Int.pow_zero, Int.mul_one]
      have e2 : (((E / 2 ^ (63 - k) : Nat) : Int) % 2 == 1) = false := by
        have : ((E / 2 ^ (63 - k) : Nat) : Int) % 2 = 0 := by omega
        rw [this]; rfl
      rw [hi, hp, hq, hb, e1, e2, hw, decide_eq_true (show 63 - (k : Int) ≥ 0 by omega)] at hqb
      exact Runs.piece okD10 mx hqb rfl (by rfl) hr
  · subst hI
    have hd := q_d xs (limbs (val xs ^ (E / 2 ^ (64 - 64)) % ell)) E (63 - ((64 : Nat) : Int))
    rw [Nat.sub_self, Nat.pow_zero, Nat.div_one] at hd ⊢
    exact Runs.last okD10 mx hd rfl (by rfl)
  · rw [Nat.sub_zero, Nat.div_eq_of_lt hE, Int.pow_zero]; rfl
theorem ok_rPower : EntryOk Tryd.prog G0 74 TPow := by
  refine EntryOk.runs (S := D10) (fn := Tryd.f74) (c := cd Tryd.f74) (by kernel_rfl) (by kernel_rfl) (by kernel_rfl) (fun vs hl r hl' ok h => ?_)
  unfold TPow at h
  split at h
  · rename_i xs l e
    obtain ⟨rfl, rfl⟩ := Prod.mk.inj (val_ret h)
    obtain ⟨E, rfl, hE⟩ := nat_of (inU.mp ok.2.1)
    exact lit_int [1] (power_runs hE) (by kernel_rfl)
  · cases h
noncomputable def D11 : Tab := D10.put 74 0 TPow
theorem okD11 : SpecOk Tryd.prog D11 := okD10.put ok_rPower
end Go.Sc
