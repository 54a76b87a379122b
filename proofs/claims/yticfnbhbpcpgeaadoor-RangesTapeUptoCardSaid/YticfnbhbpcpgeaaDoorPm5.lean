/-
  Delta, by the program and by the document.
-/
import Derived.Test.YticfnbhbpcpgeaaDoorPma
namespace Go.Sc
open Go Go.SX Go.Proofs

/-- equal modulo l -/
def Cg (a b : Int) : Prop := a % ell = b % ell
theorem Cg.refl (a : Int) : Cg a a := rfl
theorem Cg.symm {a b : Int} (h : Cg a b) : Cg b a := Eq.symm h
theorem Cg.trans {a b c : Int} (h : Cg a b) (h' : Cg b c) : Cg a c := Eq.trans h h'
theorem Cg.mod (a : Int) : Cg (a % ell) a := by unfold Cg; rw [Int.emod_emod_of_dvd _ (Int.dvd_refl _)]
theorem Cg.add {a b c d : Int} (h : Cg a b) (h' : Cg c d) : Cg (a + c) (b + d) := by unfold Cg at *; rw [Int.add_emod, h, h', ← Int.add_emod]
theorem Cg.sub {a b c d : Int} (h : Cg a b) (h' : Cg c d) : Cg (a - c) (b - d) := by unfold Cg at *; rw [Int.sub_emod, h, h', ← Int.sub_emod]
theorem Cg.mul {a b c d : Int} (h : Cg a b) (h' : Cg c d) : Cg (a * c) (b * d) := by unfold Cg at *; rw [Int.mul_emod, h, h', ← Int.mul_emod]
theorem Cg.pow {a b : Int} (h : Cg a b) : ∀ n : Nat, Cg (a ^ n) (b ^ n)
  | 0 => by rw [Int.pow_zero, Int.pow_zero]; exact Cg.refl _
  | n + 1 => by rw [Int.pow_succ, Int.pow_succ]; exact (Cg.pow h n).mul h

def s2 : Nat → Int
  | 0 => 0
  | k + 1 => s2 k + 2 ^ k
def sYs (Y : Int) : Nat → Int
  | 0 => 0
  | i + 1 => sYs Y i + Y ^ i
def sZs (Z U : Int) : Nat → Int
  | 0 => 0
  | j + 1 => sZs Z U j + Z ^ (2 + j) * U
def dlt (Y Z : Int) (b c : Nat) : Int := (Z - Z * Z) * sYs Y (b * c) - Z * sZs Z (s2 b) c
theorem sYs_cg {Y Y' : Int} (h : Cg Y Y') : ∀ n, Cg (sYs Y n) (sYs Y' n)
  | 0 => Cg.refl _
  | n + 1 => (sYs_cg h n).add (h.pow n)
theorem sZs_cg {Z Z' U : Int} (h : Cg Z Z') : ∀ n, Cg (sZs Z U n) (sZs Z' U n)
  | 0 => Cg.refl _
  | n + 1 => (sZs_cg h n).add ((h.pow (2 + n)).mul (Cg.refl U))
theorem dlt_cg {Y Y' Z Z' : Int} (hy : Cg Y Y') (hz : Cg Z Z') (b c : Nat) : Cg (dlt Y Z b c) (dlt Y' Z' b c) :=
  ((hz.sub (hz.mul hz)).mul (sYs_cg hy _)).sub (hz.mul (sZs_cg hz c))

theorem pow_sum (Y : Int) : ∀ n, Cg ((powL Y n).map val).sum (sYs Y n)
  | 0 => Cg.refl _
  | n + 1 => by
    have e : powL Y (n + 1) = powL Y n ++ [limbs (Y ^ n % ell)] := by unfold powL; rw [List.range_succ, List.map_append]; rfl
    rw [e, List.map_append, List.sum_append]
    refine (pow_sum Y n).add ?_
    show Cg (val (limbs (Y ^ n % ell)) + 0) _
    rw [Int.add_zero, val_mod]
    exact Cg.mod _
theorem row_sum (x : Int) : ∀ n, Cg ((stepRow x n).map val).sum (x * s2 n)
  | 0 => by rw [show s2 0 = 0 from rfl, Int.mul_zero]; exact Cg.refl _
  | n + 1 => by
    rw [stepRow_succ, List.map_append, List.sum_append, show s2 (n + 1) = s2 n + 2 ^ n from rfl, Int.mul_add]
    refine (row_sum x n).add ?_
    show Cg (val (limbs (x * 2 ^ n % ell)) + 0) _
    rw [Int.add_zero, val_mod]
    exact Cg.mod _
theorem step_sum (Z : Int) (b : Nat) : ∀ c, Cg ((stepL Z b c).map val).sum (sZs Z (s2 b) c)
  | 0 => Cg.refl _
  | c + 1 => by
    rw [stepL_succ, List.map_append, List.sum_append]
    exact (step_sum Z b c).add (row_sum _ b)

/-! ### the program's -/
def Tdelta (vs : List V1) (hl : Heap) : Tree (SV × Heap) :=
  match vs, hl with
  | [.g [.c (.int _ .i64 b), .c (.int _ .i64 c)], .g [.ws .u64 4 y], .g [.ws .u64 4 z]], [] => Tree.chk (alw b c) (.ret (.one (ws (limbs (dlt (val y) (val z) b.toNat c.toNat % ell))), []))
  | _, _ => .fail
def dA (z : List Int) : List Int := limbs ((val z - val (limbs (val z * val z % ell))) % ell)
def dS (l : List (List Int)) : List Int := limbs (((l.drop 0).map val).sum % ell)
theorem dl_b (b c : Int) (y z : List Int) : (bodyT E10 Tryd.prog allLoops Tryd.f50 (cd Tryd.f50) [pr b c, ws y, ws z] []).path [true, true, true] =
    some ([alw b c, decide (b.toNat * c.toNat = (List.drop 0 (powL (val y) (b.toNat * c.toNat))).length ∧ b.toNat * c.toNat ≤ 1048576),
      decide ((stepL (val z) b.toNat c.toNat).length = (List.drop 0 (stepL (val z) b.toNat c.toNat)).length ∧ (stepL (val z) b.toNat c.toNat).length ≤ 1048576)],
      .one (ws (limbs ((val (limbs (val (dA z) * val (dS (powL (val y) (b.toNat * c.toNat))) % ell)) - val (limbs (val z * val (dS (stepL (val z) b.toNat c.toNat)) % ell))) % ell))), []) := by kernel_rfl
theorem dl_eq (y z : List Int) (b c : Nat) : (val (limbs (val (dA z) * val (dS (powL (val y) (b * c))) % ell)) - val (limbs (val z * val (dS (stepL (val z) b c)) % ell))) % ell = dlt (val y) (val z) b c % ell := by
  unfold dA dS
  rw [val_mod, val_mod, val_mod, val_mod, val_mod, val_mod, List.drop_zero, List.drop_zero]
  refine Cg.sub ((Cg.mod _).trans (Cg.mul ((Cg.mod _).trans (Cg.sub (Cg.refl _) (Cg.mod _))) ((Cg.mod _).trans (pow_sum _ _)))) ((Cg.mod _).trans (Cg.mul (Cg.refl _) ((Cg.mod _).trans (step_sum _ _ _))))
theorem alw_nat {b c : Int} (h : alw b c = true) : ∃ B C : Nat, b = B ∧ c = C ∧ 1 ≤ B ∧ B ≤ 64 ∧ 1 ≤ C ∧ C ≤ 16 := by
  obtain ⟨⟨a1, a2⟩, a3, a4⟩ := alw_of h
  exact ⟨b.toNat, c.toNat, by omega, by omega, by omega, by omega, by omega, by omega⟩
theorem ok_delta : EntryOk Tryd.prog G0 50 Tdelta := by
  refine EntryOk.sub (bodyT_ok okE10 mx (un := allLoops) (fn := Tryd.f50) (c := cd Tryd.f50) (by kernel_rfl) (by kernel_rfl) (by kernel_rfl)).unlitG (fun vs hl r ok h => ?_)
  unfold Tdelta at h
  split at h
  · rename_i l b l' c y z
    obtain ⟨h1, h2⟩ := val_chk h
    obtain rfl := val_ret h2
    have hp := dl_b b c y z
    obtain ⟨B, C, rfl, rfl, b1, b2, b3, b4⟩ := alw_nat h1
    have hBC : B * C ≤ 64 * 16 := Nat.mul_le_mul b2 b4
    have hCB : C * B = B * C := Nat.mul_comm _ _
    have e1 : (powL (val y) (B * C)).length = B * C := by unfold powL; rw [List.length_map, List.length_range]
    rw [Int.toNat_natCast, Int.toNat_natCast, dl_eq, h1, List.drop_zero, List.drop_zero, decide_eq_true ⟨e1.symm, by omega⟩, decide_eq_true ⟨rfl, by rw [stepL_len]; omega⟩] at hp
    exact Tree.path_val hp
  · cases h
noncomputable def E11 : Tab := E10.put 50 0 Tdelta
theorem okE11 : SpecOk Tryd.prog E11 := okE10.put ok_delta
def TDelta (vs : List V1) (hl : Heap) : Tree (SV × Heap) :=
  match vs, hl with
  | [.g [.c (.int _ .i64 b), .c (.int _ .i64 c)], .g [.ws .u64 4 y], .g [.ws .u64 4 z]], [] =>
    .br (alw b c) (.ret (.tup [ws (limbs (dlt (val y) (val z) b.toNat c.toNat % ell)), .c (.int true .i64 0)], [])) (.ret (.tup [ws [0, 0, 0, 0], .c (.int true .i64 130)], []))
  | _, _ => .fail
theorem De_a (b c : Int) (y z : List Int) : (bodyT E11 Tryd.prog allLoops Tryd.f27 (cd Tryd.f27) [pr b c, ws y, ws z] []).path [true] = some ([!alw b c], .tup [ws [0, 0, 0, 0], .c (.int true .i64 130)], []) := by kernel_rfl
theorem De_b (b c : Int) (y z : List Int) : (bodyT E11 Tryd.prog allLoops Tryd.f27 (cd Tryd.f27) [pr b c, ws y, ws z] []).path [false, true] =
    some ([!alw b c, alw b c], .tup [ws (limbs (dlt (val y) (val z) b.toNat c.toNat % ell)), .c (.int true .i64 0)], []) := by kernel_rfl
theorem ok_Delta : EntryOk Tryd.prog G0 27 TDelta := by
  refine EntryOk.sub (bodyT_ok okE11 mx (un := allLoops) (fn := Tryd.f27) (c := cd Tryd.f27) (by kernel_rfl) (by kernel_rfl) (by kernel_rfl)).unlitG (fun vs hl r ok h => ?_)
  unfold TDelta at h
  split at h
  · rename_i l b l' c y z
    simp only [Tree.val] at h
    cases ha : alw b c with
    | true =>
      rw [ha] at h
      obtain rfl := Option.some.inj h
      exact Tree.path_val (cs := [false, true]) ((De_b b c y z).trans (by rw [ha]; rfl))
    | false =>
      rw [ha] at h
      obtain rfl := Option.some.inj h
      exact Tree.path_val (cs := [true]) ((De_a b c y z).trans (by rw [ha]; rfl))
  · cases h
noncomputable def E12 : Tab := E11.put 27 0 TDelta
theorem okE12 : SpecOk Tryd.prog E12 := okE11.put ok_Delta

/-! ### the document's -/
noncomputable def rH (k : List Item) (s : St) : Tree Out := runK E12 Tryd.prog noLoops 400 k s
noncomputable def sH (b c : Int) (y z : List Int) : St := ⟨enterT Tryd.f29 [pr b c, ws y, ws z], []⟩
def hH (b c : Int) (y z s : List Int) : Heap := [.vals [.c (.int false .i64 b), .c (.int false .i64 c)], .vals [.ws .u64 4 y], .vals [.ws .u64 4 z], .vals [.ws .u64 4 [0, 0, 0, 0]], .vals [.ws .u64 4 s]]
noncomputable def stH (b c : Int) (y z s : List Int) (i : Int) : St := ⟨slotsOf 59 [(3, pt 0), (4, pt 1), (5, pt 2), (6, pt 3), (7, pt 4), (8, one (.int false .i64 i))], hH b c y z s⟩
noncomputable def KH : List Item := leftT [] (rH [.code (cd Tryd.f29)] (sH 0 0 [] []))
noncomputable def KH2 : List Item := leftT [false, true] (rH KH (stH 0 0 [] [] [] 0))
noncomputable def stH2 (b c : Int) (z d t : List Int) (k : Int) : St := ⟨slotsOf 59 [(3, pt 0), (5, pt 1), (6, pt 2), (9, pt 3), (10, pt 4), (11, one (.int false .i64 k))], [.vals [.c (.int false .i64 b), .c (.int false .i64 c)], .vals [.ws .u64 4 z], .vals [.ws .u64 4 [0, 0, 0, 0]], .vals [.ws .u64 4 d], .vals [.ws .u64 4 t]]⟩
noncomputable def KH3 : List Item := leftT [false] (rH KH2 (stH2 0 0 [] [] [] 0))
noncomputable def stH3 (b c : Int) (z d t : List Int) (k : Int) : St := ⟨slotsOf 59 [(3, pt 0), (5, pt 1), (6, pt 2), (9, pt 3), (10, pt 4), (12, one (.int false .i64 k))], [.vals [.c (.int false .i64 b), .c (.int false .i64 c)], .vals [.ws .u64 4 z], .vals [.ws .u64 4 [0, 0, 0, 0]], .vals [.ws .u64 4 d], .vals [.ws .u64 4 t]]⟩
theorem hh_a (b c : Int) (y z : List Int) : pieceT [3, 4, 5, 6, 7, 8] [8] [0, 1, 2, 3, 4] [] (rH [.code (cd Tryd.f29)] (sH b c y z)) = some ([], KH, stH b c y z [0, 0, 0, 0] (0 : Nat)) := by kernel_rfl
theorem hh_b (b c : Int) (y z s : List Int) (i : Nat) : pieceT [3, 4, 5, 6, 7, 8] [8] [0, 1, 2, 3, 4] [true, true, true] (rH KH (stH b c y z s i)) =
    some ([decide ((i : Int) < iw (b * c)), decide (0 ≤ (i : Int)), decide (val s < ell ∧ val (limbs (val y ^ i % ell)) < ell)], KH, stH b c y z (limbs ((val s + val (limbs (val y ^ i % ell))) % ell)) (iw ((i : Int) + 1))) := by kernel_rfl
theorem hh_c (b c : Int) (y z s : List Int) (i : Nat) : pieceT [3, 5, 6, 9, 10, 11] [11] [0, 2, 3, 5, 6] [false, true] (rH KH (stH b c y z s i)) =
    some ([decide ((i : Int) < iw (b * c)), decide (val z < ell ∧ val (limbs (val z * val z % ell)) < ell)], KH2, stH2 b c z (limbs (val (dA z) * val s % ell)) [0, 0, 0, 0] (0 : Nat)) := by kernel_rfl
theorem hh_d (b c : Int) (z d t : List Int) (k : Nat) : pieceT [3, 5, 6, 9, 10, 11] [11] [0, 1, 2, 3, 4] [true, true, true] (rH KH2 (stH2 b c z d t k)) =
    some ([decide ((k : Int) < b), decide (0 ≤ (k : Int)), decide (val t < ell ∧ val [um (1 * 2 ^ (min k 64)), 0, 0, 0] < ell)], KH2, stH2 b c z d (limbs ((val t + val [um (1 * 2 ^ (min k 64)), 0, 0, 0]) % ell)) (iw ((k : Int) + 1))) := by kernel_rfl
theorem hh_e (b c : Int) (z d t : List Int) (k : Nat) : pieceT [3, 5, 6, 9, 10, 12] [12] [0, 1, 2, 3, 4] [false] (rH KH2 (stH2 b c z d t k)) =
    some ([decide ((k : Int) < b)], KH3, stH3 b c z d t (0 : Nat)) := by kernel_rfl
def h3x (z t : List Int) (j : Int) : List Int := limbs (val (limbs (val z ^ (iw (3 + j)).toNat % ell)) * val t % ell)
theorem hh_f (b c : Int) (z d t : List Int) (j : Nat) : pieceT [3, 5, 6, 9, 10, 12] [12] [0, 1, 2, 3, 4] [true, true, true] (rH KH3 (stH3 b c z d t j)) =
    some ([decide ((j : Int) < c), decide (0 ≤ iw (3 + (j : Int))), decide (val d < ell ∧ val (h3x z t j) < ell)], KH3, stH3 b c z (limbs ((val d - val (h3x z t j)) % ell)) t (iw ((j : Int) + 1))) := by kernel_rfl
theorem hh_g (b c : Int) (z d t : List Int) (j : Nat) : endT Tryd.prog Tryd.f29 [] [false] (rH KH3 (stH3 b c z d t j)) = some ([decide ((j : Int) < c)], .one (ws d), []) := by kernel_rfl
theorem Cg.limbs {a b : Int} (h : Cg a b) : limbs (a % ell) = limbs (b % ell) := by rw [show a % ell = b % ell from h]
section
variable {b c : Nat} {y z : List Int}
abbrev RH (K : List Item) (s : St) (x : Int) : Prop := Runs Tryd.prog E12 Tryd.f29 0 K s (.one (ws (limbs (x % ell)))) []
theorem pow_two_val {k : Nat} (h : k < 64) : val [um (1 * 2 ^ (min k 64)), 0, 0, 0] = 2 ^ k ∧ (2 : Int) ^ k < 18446744073709551616 := by
  have h1 : (2 : Int) ^ k < 18446744073709551616 := by
    have : (2 : Nat) ^ k < 2 ^ 64 := Nat.pow_lt_pow_right (by decide) h
    have e : ((2 ^ k : Nat) : Int) = 2 ^ k := by simp
    rw [← e]
    have e2 : (2 : Nat) ^ 64 = 18446744073709551616 := by decide
    omega
  have h0 : (0 : Int) ≤ 2 ^ k := Int.pow_nonneg (by decide)
  refine ⟨?_, h1⟩
  have : um (1 * 2 ^ (min k 64)) = 2 ^ k := by
    rw [Nat.min_eq_left (by omega), Int.one_mul]
    unfold um; rw [wrapU]; omega
  rw [this, val4]; omega
theorem lp3 (hb : 1 ≤ b ∧ b ≤ 64) (hc : 1 ≤ c ∧ c ≤ 16) (D : Int) : RH KH3 (stH3 b c z (limbs (D % ell)) (limbs (s2 b % ell)) (0 : Nat)) (D - val z * sZs (val z) (s2 b) c) := by
  refine loopG (st := fun j (d : List Int) => stH3 b c z d (limbs (s2 b % ell)) j) (I := fun j d => d = limbs ((D - val z * sZs (val z) (s2 b) j) % ell)) (n := c) (fun j d hj hI => ?_) (fun d hI => ?_) c 0 (limbs (D % ell)) (by omega) ?_
  · subst hI
    have hf := hh_f b c z (limbs ((D - val z * sZs (val z) (s2 b) j) % ell)) (limbs (s2 b % ell)) j
    have e3 : iw (3 + (j : Int)) = ((3 + j : Nat) : Int) := by
      rw [show (3 : Int) + j = ((3 + j : Nat) : Int) from by omega]; exact wrap64 (by omega)
    have ex : h3x z (limbs (s2 b % ell)) j = limbs (val z * (val z ^ (2 + j) * s2 b) % ell) := by
      unfold h3x
      rw [e3, Int.toNat_natCast, val_mod, val_mod]
      refine Cg.limbs ((Cg.mul (Cg.mod _) (Cg.mod _)).trans ?_)
      rw [show 3 + j = (2 + j) + 1 from by omega, Int.pow_succ, Int.mul_comm (val z ^ (2 + j)) (val z), Int.mul_assoc]
      exact Cg.refl _
    refine ⟨limbs ((D - val z * sZs (val z) (s2 b) (j + 1)) % ell), rfl, fun hr => ?_⟩
    have ed : limbs ((val (limbs ((D - val z * sZs (val z) (s2 b) j) % ell)) - val (h3x z (limbs (s2 b % ell)) j)) % ell) = limbs ((D - val z * sZs (val z) (s2 b) (j + 1)) % ell) := by
      rw [ex, val_mod, val_mod]
      refine Cg.limbs ((Cg.sub (Cg.mod _) (Cg.mod _)).trans ?_)
      rw [show sZs (val z) (s2 b) (j + 1) = sZs (val z) (s2 b) j + val z ^ (2 + j) * s2 b from rfl, Int.mul_add, Int.sub_sub]
      exact Cg.refl _
    have hlt : val (h3x z (limbs (s2 b % ell)) j) < ell := by rw [ex, val_mod]; exact (mod_bound _).2
    rw [ed, iwk (by omega), decide_eq_true (show (j : Int) < c by omega), decide_eq_true (show 0 ≤ iw (3 + (j : Int)) by rw [e3]; omega), decide_eq_true ⟨by rw [val_mod]; exact (mod_bound _).2, hlt⟩] at hf
    exact Runs.piece okE12 mx hf rfl (by rfl) hr
  · have hI : d = limbs ((D - val z * sZs (val z) (s2 b) c) % ell) := hI
    rw [← hI]
    exact Runs.last okE12 mx (hh_g b c z d _ c) (by rw [decide_eq_false (by omega)]) (by rfl)
  · show _ = limbs ((D - val z * 0) % ell)
    rw [Int.mul_zero, Int.sub_zero]
theorem lp2 (hb : 1 ≤ b ∧ b ≤ 64) (hc : 1 ≤ c ∧ c ≤ 16) (D : Int) : RH KH2 (stH2 b c z (limbs (D % ell)) [0, 0, 0, 0] (0 : Nat)) (D - val z * sZs (val z) (s2 b) c) := by
  refine loopG (st := fun k (t : List Int) => stH2 b c z (limbs (D % ell)) t k) (I := fun k t => t = limbs (s2 k % ell)) (n := b) (fun k t hk hI => ?_) (fun t hI => ?_) b 0 [0, 0, 0, 0] (by omega) rfl
  · subst hI
    obtain ⟨p1, p2⟩ := pow_two_val (k := k) (by omega)
    have hd := hh_d b c z (limbs (D % ell)) (limbs (s2 k % ell)) k
    refine ⟨limbs (s2 (k + 1) % ell), rfl, fun hr => ?_⟩
    have ed : limbs ((val (limbs (s2 k % ell)) + val [um (1 * 2 ^ (min k 64)), 0, 0, 0]) % ell) = limbs (s2 (k + 1) % ell) := by
      rw [val_mod, p1]
      exact Cg.limbs ((Cg.mod _).add (Cg.refl _))
    rw [ed, iwk (by omega), decide_eq_true (show (k : Int) < b by omega), decide_eq_true (show 0 ≤ (k : Int) by omega), decide_eq_true ⟨by rw [val_mod]; exact (mod_bound _).2, by rw [p1]; unfold ell; omega⟩] at hd
    exact Runs.piece okE12 mx hd rfl (by rfl) hr
  · have hI : t = limbs (s2 b % ell) := hI
    subst hI
    exact Runs.piece okE12 mx (hh_e b c z _ _ b) (by rw [decide_eq_false (by omega)]) (by rfl) (lp3 hb hc D)
theorem rDelta_runs (hb : 1 ≤ b ∧ b ≤ 64) (hc : 1 ≤ c ∧ c ≤ 16) (hz : val z < ell) : RH [.code (cd Tryd.f29)] (sH b c y z) (dlt (val y) (val z) b c) := by
  have hBC : b * c ≤ 64 * 16 := Nat.mul_le_mul hb.2 hc.2
  have e : iw ((b : Int) * c) = ((b * c : Nat) : Int) := by
    rw [← Int.natCast_mul]; exact wrap64 (by omega)
  refine Runs.piece okE12 mx (hh_a b c y z) rfl (by rfl) ?_
  refine loopG (st := fun i (s : List Int) => stH b c y z s i) (I := fun i s => s = limbs (sYs (val y) i % ell)) (n := b * c) (fun i s hi hI => ?_) (fun s hI => ?_) (b * c) 0 [0, 0, 0, 0] (by omega) rfl
  · subst hI
    have hb2 := hh_b b c y z (limbs (sYs (val y) i % ell)) i
    refine ⟨limbs (sYs (val y) (i + 1) % ell), rfl, fun hr => ?_⟩
    have ed : limbs ((val (limbs (sYs (val y) i % ell)) + val (limbs (val y ^ i % ell))) % ell) = limbs (sYs (val y) (i + 1) % ell) := by
      rw [val_mod, val_mod]
      exact Cg.limbs ((Cg.mod _).add (Cg.mod _))
    rw [ed, iwk (by omega), e, decide_eq_true (show (i : Int) < ((b * c : Nat) : Int) by omega), decide_eq_true (show 0 ≤ (i : Int) by omega), decide_eq_true ⟨by rw [val_mod]; exact (mod_bound _).2, by rw [val_mod]; exact (mod_bound _).2⟩] at hb2
    exact Runs.piece okE12 mx hb2 rfl (by rfl) hr
  · have hI : s = limbs (sYs (val y) (b * c) % ell) := hI
    subst hI
    have hc2 := hh_c b c y z (limbs (sYs (val y) (b * c) % ell)) (b * c)
    have ed : limbs (val (dA z) * val (limbs (sYs (val y) (b * c) % ell)) % ell) = limbs ((val z - val z * val z) * sYs (val y) (b * c) % ell) := by
      unfold dA
      rw [val_mod, val_mod, val_mod]
      exact Cg.limbs (((Cg.mod _).trans ((Cg.refl _).sub (Cg.mod _))).mul (Cg.mod _))
    rw [ed, e, decide_eq_false (show ¬ ((b * c : Nat) : Int) < ((b * c : Nat) : Int) by omega), decide_eq_true ⟨hz, by rw [val_mod]; exact (mod_bound _).2⟩] at hc2
    exact Runs.piece okE12 mx hc2 rfl (by rfl) (lp2 hb hc _)
end
def TrDelta (vs : List V1) (hl : Heap) : Tree (SV × Heap) :=
  match vs, hl with
  | [.g [.c (.int _ .i64 b), .c (.int _ .i64 c)], .g [.ws .u64 4 y], .g [.ws .u64 4 z]], [] => Tree.chk (alw b c && decide (val z < ell)) (.ret (.one (ws (limbs (dlt (val y) (val z) b.toNat c.toNat % ell))), []))
  | _, _ => .fail
theorem ok_rDelta : EntryOk Tryd.prog G0 29 TrDelta := by
  refine EntryOk.unlitRuns (S := E12) (fn := Tryd.f29) (c := cd Tryd.f29) (by kernel_rfl) (by kernel_rfl) (by kernel_rfl) (fun vs hl r hl' ok h => ?_)
  unfold TrDelta at h
  split at h
  · rename_i l b l' c y z
    obtain ⟨h1, h2⟩ := val_chk h
    rw [Bool.and_eq_true] at h1
    obtain ⟨rfl, rfl⟩ := Prod.mk.inj (val_ret h2)
    obtain ⟨B, C, rfl, rfl, b1, b2, b3, b4⟩ := alw_nat h1.1
    rw [Int.toNat_natCast, Int.toNat_natCast]
    exact rDelta_runs ⟨b1, b2⟩ ⟨b3, b4⟩ (of_decide_eq_true h1.2)
  · cases h
noncomputable def E13 : Tab := E12.put 29 0 TrDelta
theorem okE13 : SpecOk Tryd.prog E13 := okE12.put ok_rDelta
end Go.Sc
