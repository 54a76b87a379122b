/-
  Contracts of the document's scalars, part 6: products.
-/
import Derived.Test.YticfnbhbpcpgeaaDoorAr
import Derived.Test.YticfnbhbpcpgeaaDoorRf5
namespace Go.Sc
open Go Go.SX Go.Proofs

def Thalves (vs : List V1) (hl : Heap) : Tree (SV × Heap) :=
  match vs, hl with
  | [.g [.ws .u64 4 xs]], [] => .ret (.one (.g [.ws .u64 8 (hvs xs)]), [])
  | _, _ => .fail
theorem halves_b (a b c d : Int) : (bodyT D8 Tryd.prog allLoops Tryd.f76 (cd Tryd.f76) [ws [a, b, c, d]] []).path [] =
    some ([], .one (.g [.ws .u64 8 [band a 4294967295, shr a 32, band b 4294967295, shr b 32, band c 4294967295, shr c 32, band d 4294967295, shr d 32]]), []) := by kernel_rfl
theorem ok_rhalves : EntryOk Tryd.prog G0 76 Thalves := by
  refine EntryOk.sub (bodyT_ok okD8 mx (un := allLoops) (fn := Tryd.f76) (c := cd Tryd.f76) (by kernel_rfl) (by kernel_rfl) (by kernel_rfl)) (fun vs hl r ok h => ?_)
  unfold Thalves at h
  split at h
  · rename_i xs
    obtain rfl := val_ret h
    obtain ⟨a, b, c, d, rfl, ha, hb, hc, hd⟩ := okL_get (show okL xs from ok.1.1)
    have hp := halves_b a b c d
    have e : ∀ {x : Int}, R x → band x 4294967295 = x % 4294967296 := fun h => band_mask h 32 (by decide)
    have f : ∀ x : Int, shr x 32 = x / 4294967296 := fun x => shr_eq x 32
    rw [e ha, e hb, e hc, e hd, f, f, f, f] at hp
    exact Tree.path_val hp
  · cases h
noncomputable def D9 : Tab := D8.put 76 0 Thalves
theorem okD9 : SpecOk Tryd.prog D9 := okD8.put ok_rhalves

/-! ### Mul -/
noncomputable def rX (k : List Item) (s : St) : Tree Out := runK D9 Tryd.prog noLoops 400 k s
noncomputable def sX (xs ys : List Int) : St := ⟨enterT Tryd.f53 [ws xs, ws ys], []⟩
noncomputable def KX : List Item := leftT [] (rX [.code (cd Tryd.f53)] (sX [] []))
noncomputable def hX (x y p : List Int) : Heap := [.vals [.ws .u64 4 [0, 0, 0, 0]], .vals [.ws .u64 8 x], .vals [.ws .u64 8 y], .vals [.ws .u64 16 p]]
noncomputable def stX (x y p : List Int) (i : Int) : St := ⟨slotsOf 70 [(4, pt 0), (5, pt 1), (6, pt 2), (7, pt 3), (8, one (.int false .i64 i))], hX x y p⟩
noncomputable def KY : List Item := leftT [true] (rX KX (stX [] [] [] 0))
noncomputable def stY (x y p : List Int) (i c k : Int) : St := ⟨slotsOf 70 [(4, pt 0), (5, pt 1), (6, pt 2), (7, pt 3), (8, one (.int false .i64 i)), (9, one (.int false .u64 c)), (10, one (.int false .i64 k))], hX x y p⟩
noncomputable def KZ : List Item := leftT [false] (rX KX (stX [] [] [] 0))
noncomputable def stZ (p r : List Int) (i : Int) : St := ⟨slotsOf 70 [(4, pt 0), (7, pt 1), (12, pt 2), (13, one (.int false .i64 i))], [.vals [.ws .u64 4 [0, 0, 0, 0]], .vals [.ws .u64 16 p], .vals [.ws .u64 4 r]]⟩
theorem x_a (xs ys : List Int) : pieceT [4, 5, 6, 7, 8] [8] [2, 3, 4, 5] [] (rX [.code (cd Tryd.f53)] (sX xs ys)) = some ([], KX, stX (hvs xs) (hvs ys) (List.replicate 16 0) (0 : Nat)) := by kernel_rfl
theorem x_b (x y p : List Int) (i : Nat) : pieceT [4, 5, 6, 7, 8, 9, 10] [9, 10] [0, 1, 2, 3] [true] (rX KX (stX x y p i)) = some ([decide ((i : Int) < 8)], KY, stY x y p i 0 (0 : Nat)) := by kernel_rfl
def tX (x y p : List Int) (i k : Nat) (c : Int) : Int := um (um (um (x.getD i 0 * y.getD k 0) + p.getD (IntKind.i64.wrap ((i : Int) + k)).toNat 0) + c)
theorem x_c (x y p : List Int) (i k : Nat) (c : Int) : pieceT [4, 5, 6, 7, 8, 9, 10] [9, 10] [0, 1, 2, 3] [true, true, true, true, true] (rX KY (stY x y p i c k)) =
    some ([decide ((k : Int) < 8), decide (0 ≤ (i : Int) ∧ (i : Int) < 8), decide (0 ≤ (k : Int) ∧ (k : Int) < 8), decide (0 ≤ IntKind.i64.wrap ((i : Int) + k) ∧ IntKind.i64.wrap ((i : Int) + k) < 16), decide (0 ≤ IntKind.i64.wrap ((i : Int) + k) ∧ IntKind.i64.wrap ((i : Int) + k) < 16)], KY,
      stY x y (p.set (IntKind.i64.wrap ((i : Int) + k)).toNat (band (tX x y p i k c) 4294967295)) i (shr (tX x y p i k c) 32) (IntKind.i64.wrap ((k : Int) + 1))) := by kernel_rfl
theorem x_d (x y p : List Int) (i k : Nat) (c : Int) : pieceT [4, 5, 6, 7, 8] [8] [0, 1, 2, 3] [false, true] (rX KY (stY x y p i c k)) =
    some ([decide ((k : Int) < 8), decide (0 ≤ IntKind.i64.wrap ((i : Int) + 8) ∧ IntKind.i64.wrap ((i : Int) + 8) < 16)], KX, stX x y (p.set (IntKind.i64.wrap ((i : Int) + 8)).toNat c) (IntKind.i64.wrap ((i : Int) + 1))) := by kernel_rfl
theorem x_e (x y p : List Int) (i : Nat) : pieceT [4, 7, 12, 13] [13] [0, 3, 4] [false] (rX KX (stX x y p i)) = some ([decide ((i : Int) < 8)], KZ, stZ p [0, 0, 0, 0] 15) := by kernel_rfl
def uX (r : List Int) (w : Int) : List Int := limbs ((val r * 65536 + w) % ell)
theorem x_f (p r : List Int) (i : Int) : pieceT [4, 7, 12, 13] [13] [0, 1, 2] [true, true, true, true, true] (rX KZ (stZ p r i)) =
    some ([decide (i ≥ 0), decide (0 ≤ i ∧ i < 16), decide (val r < ell ∧ shr (p.getD i.toNat 0) 16 < 65536), decide (0 ≤ i ∧ i < 16), decide (val (uX r (shr (p.getD i.toNat 0) 16)) < ell ∧ band (p.getD i.toNat 0) 65535 < 65536)], KZ,
      stZ p (uX (uX r (shr (p.getD i.toNat 0) 16)) (band (p.getD i.toNat 0) 65535)) (IntKind.i64.wrap (i - 1))) := by kernel_rfl
theorem x_g (p r : List Int) (i : Int) : endT Tryd.prog Tryd.f53 [] [false] (rX KZ (stZ p r i)) = some ([decide (i ≥ 0)], .one (ws r), []) := by kernel_rfl

abbrev RX (K : List Item) (s : St) (z : Int) : Prop := Runs Tryd.prog D9 Tryd.f53 0 K s (.one (ws (limbs (z % ell)))) []
theorem mulZ {p : List Int} (hl : p.length = 16) (h : H32 p) : RX KZ (stZ p [0, 0, 0, 0] 15) (dg 4294967296 p) := by
  refine loopG (st := fun k (r : List Int) => stZ p r (15 - (k : Int))) (I := fun k r => r = limbs (dg 4294967296 (p.drop (16 - k)) % ell)) (n := 16) (fun k r hk hI => ?_) (fun r hI => ?_) 16 0 [0, 0, 0, 0] rfl ?_
  · subst hI
    have hf := x_f p (limbs (dg 4294967296 (p.drop (16 - k)) % ell)) (15 - (k : Int))
    have ei : (15 - (k : Int)).toNat = 15 - k := by omega
    have hp := h (15 - k)
    have e1 : shr (p.getD (15 - k) 0) 16 = p.getD (15 - k) 0 / 65536 := shr_eq _ 16
    have e2 : band (p.getD (15 - k) 0) 65535 = p.getD (15 - k) 0 % 65536 := band_mask (by unfold R; omega) 16 (by decide)
    have hd := dg_drop_pred 4294967296 (y := p) (k := 15 - k) (by omega)
    rw [show 15 - k + 1 = 16 - k from by omega] at hd
    have em : uX (uX (limbs (dg 4294967296 (p.drop (16 - k)) % ell)) (p.getD (15 - k) 0 / 65536)) (p.getD (15 - k) 0 % 65536) = limbs (dg 4294967296 (p.drop (16 - (k + 1))) % ell) := by
      unfold uX
      rw [val_mod, val_mod, add_mod_mul, show 16 - (k + 1) = 15 - k from by omega, hd]
      have e3 : (dg 4294967296 (p.drop (16 - k)) % ell * 65536 + p.getD (15 - k) 0 / 65536) * 65536 + p.getD (15 - k) 0 % 65536 = dg 4294967296 (p.drop (16 - k)) % ell * 4294967296 + p.getD (15 - k) 0 := by omega
      rw [e3, add_mod_mul, Int.add_comm, Int.mul_comm]
    have eb : val (uX (limbs (dg 4294967296 (p.drop (16 - k)) % ell)) (p.getD (15 - k) 0 / 65536)) < ell := by unfold uX; rw [val_mod]; exact (mod_bound _).2
    refine ⟨_, rfl, fun hr => ?_⟩
    rw [ei, e1, e2, em, val_mod, decide_eq_true (by omega), decide_eq_true (by omega), decide_eq_true ⟨(mod_bound _).2, by omega⟩, decide_eq_true ⟨eb, by omega⟩, wrap64 (by omega), show 15 - (k : Int) - 1 = 15 - ((k + 1 : Nat) : Int) from by omega] at hf
    exact Runs.piece okD9 mx hf rfl (by rfl) hr
  · subst hI
    exact Runs.last okD9 mx (x_g p _ (15 - ((16 : Nat) : Int))) rfl (by rfl)
  · rw [Nat.sub_zero, ← hl, List.drop_length]; rfl
theorem mulX {x y : List Int} (hx : H32 x) (hxl : x.length = 8) (hy : H32 y) (hyl : y.length = 8) : RX KX (stX x y (List.replicate 16 0) (0 : Nat)) (dg 4294967296 x * dg 4294967296 y) := by
  refine loopG (st := fun k (p : List Int) => stX x y p k) (I := fun i p => p.length = 16 ∧ H32 p ∧ dg 4294967296 p = dg 4294967296 (x.take i) * dg 4294967296 y ∧ ∀ j, i + 8 ≤ j → p.getD j 0 = 0) (n := 8) (fun i p hi hI => ?_) (fun p hI => ?_) 8 0 (List.replicate 16 0) rfl ?_
  · obtain ⟨i1, i2, i3, i4⟩ := hI
    -- the inner loop
    have hx0 := hx i
    have start : Mid (x.getD i 0) y p i 0 p 0 := ⟨i1, i2, ⟨Int.le_refl _, by decide⟩, by rw [List.take_zero]; show _ + 0 * _ = _ + _ * 0 * _; rw [Int.zero_mul, Int.mul_zero, Int.zero_mul], i4⟩
    have fin : ∃ p', (p'.length = 16 ∧ H32 p' ∧ dg 4294967296 p' = dg 4294967296 p + x.getD i 0 * dg 4294967296 y * 4294967296 ^ i ∧ ∀ j, i + 1 + 8 ≤ j → p'.getD j 0 = 0) ∧
        (RX KX (stX x y p' (i + 1 : Nat)) (dg 4294967296 x * dg 4294967296 y) → RX KY (stY x y p i 0 (0 : Nat)) (dg 4294967296 x * dg 4294967296 y)) := by
      have gen : ∀ d k q (c : Int), k + d = 8 → Mid (x.getD i 0) y p i k q c → ∃ p', (p'.length = 16 ∧ H32 p' ∧ dg 4294967296 p' = dg 4294967296 p + x.getD i 0 * dg 4294967296 y * 4294967296 ^ i ∧ ∀ j, i + 1 + 8 ≤ j → p'.getD j 0 = 0) ∧
        (RX KX (stX x y p' (i + 1 : Nat)) (dg 4294967296 x * dg 4294967296 y) → RX KY (stY x y q i c k) (dg 4294967296 x * dg 4294967296 y)) := by
        intro d
        induction d with
        | zero =>
          intro k q c hk m
          obtain rfl : k = 8 := by omega
          refine ⟨_, m.last hyl hi, fun hr => ?_⟩
          have hd := x_d x y q i 8 c
          rw [wrap64 (x := (i : Int) + 8) (by omega), show ((i : Int) + 8).toNat = i + 8 from by omega, wsucc (by omega), decide_eq_true (show 0 ≤ (i : Int) + 8 ∧ (i : Int) + 8 < 16 by omega)] at hd
          exact Runs.piece okD9 mx hd rfl (by rfl) hr
        | succ d ih =>
          intro k q c hk m
          obtain ⟨p', h1, h2⟩ := ih (k + 1) _ _ (by omega) (m.step hx0 hy hyl (by omega) hi)
          refine ⟨p', h1, fun hr => ?_⟩
          have hc := x_c x y q i k c
          obtain ⟨b0, b1, b2⟩ := mul32 hx0 (hy k) (m.h (i + k)) m.hc
          have ew : IntKind.i64.wrap ((i : Int) + k) = ((i + k : Nat) : Int) := by rw [wrap64 (by omega)]; omega
          have et : tX x y q i k c = x.getD i 0 * y.getD k 0 + q.getD (i + k) 0 + c := by
            unfold tX um
            rw [ew, Int.toNat_natCast, wrapU, wrapU, wrapU]
            have := (m.h (i + k)).1
            have := m.hc.1
            omega
          have e1 : band (x.getD i 0 * y.getD k 0 + q.getD (i + k) 0 + c) 4294967295 = (x.getD i 0 * y.getD k 0 + q.getD (i + k) 0 + c) % 4294967296 := band_mask (by unfold R; omega) 32 (by decide)
          have e2 : shr (x.getD i 0 * y.getD k 0 + q.getD (i + k) 0 + c) 32 = (x.getD i 0 * y.getD k 0 + q.getD (i + k) 0 + c) / 4294967296 := shr_eq _ 32
          rw [et, e1, e2, ew, Int.toNat_natCast, wsucc (by omega), decide_eq_true (show (k : Int) < 8 by omega), decide_eq_true (show 0 ≤ (i : Int) ∧ (i : Int) < 8 by omega), decide_eq_true (show 0 ≤ (k : Int) ∧ (k : Int) < 8 by omega), decide_eq_true (show 0 ≤ ((i + k : Nat) : Int) ∧ ((i + k : Nat) : Int) < 16 by omega)] at hc
          exact Runs.piece okD9 mx hc rfl (by rfl) (h2 hr)
      exact gen 8 0 p 0 rfl start
    obtain ⟨p', ⟨q1, q2, q3, q4⟩, hrun⟩ := fin
    refine ⟨p', ⟨q1, q2, ?_, q4⟩, fun hr => ?_⟩
    · rw [q3, i3, dg_take_succ _ (by omega), Int.add_mul]
      congr 1
      rw [Int.mul_comm (4294967296 ^ i), Int.mul_assoc, Int.mul_assoc, Int.mul_comm (dg 4294967296 y)]
    · have hb := x_b x y p i
      rw [decide_eq_true (by omega)] at hb
      exact Runs.piece okD9 mx hb rfl (by rfl) (hrun hr)
  · obtain ⟨i1, i2, i3, _⟩ := hI
    rw [List.take_of_length_le (by omega)] at i3
    rw [← i3]
    exact Runs.piece okD9 mx (x_e x y p 8) rfl (by rfl) (mulZ i1 i2)
  · refine ⟨rfl, fun j => ?_, ?_, fun j hj => ?_⟩
    · rw [List.getD_eq_getElem?_getD, List.getElem?_replicate]
      split <;> exact ⟨Int.le_refl _, by decide⟩
    · show _ = dg 4294967296 [] * _
      rw [show dg 4294967296 [] = 0 from rfl, Int.zero_mul]; rfl
    · rw [List.getD_eq_getElem?_getD, List.getElem?_replicate]
      split <;> rfl
theorem ok_rMul : EntryOk Tryd.prog G0 53 TMul := by
  refine EntryOk.runs (S := D9) (fn := Tryd.f53) (c := cd Tryd.f53) (by kernel_rfl) (by kernel_rfl) (by kernel_rfl) (fun vs hl r hl' ok h => ?_)
  unfold TMul at h
  split at h
  · rename_i xs ys
    obtain ⟨rfl, rfl⟩ := Prod.mk.inj (val_ret h)
    have hx : okL xs := ok.1.1
    have hy : okL ys := ok.2.1.1
    obtain ⟨x1, x2⟩ := H32_hvs hx
    obtain ⟨y1, y2⟩ := H32_hvs hy
    have hr := mulX x1 x2 y1 y2
    rw [hvs_dg, hvs_dg, ← val_dg hx, ← val_dg hy] at hr
    exact Runs.piece okD9 mx (x_a xs ys) rfl (by rfl) hr
  · cases h
noncomputable def D10 : Tab := D9.put 53 0 TMul
theorem okD10 : SpecOk Tryd.prog D10 := okD9.put ok_rMul
end Go.Sc
