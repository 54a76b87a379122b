/- Contracts of the document's scalars, part 5: sums, differences. -/
import Derived.Test.YtdblbibjggeikaaGreatDoorD4
import Derived.Test.YtdblbibjggeikaaGreatDoorD1
set_option linter.unusedSectionVars false
set_option linter.unusedVariables false
set_option linter.unusedSimpArgs false
namespace Go.Sc
open Go Go.SX Go.Proofs
variable [Level]
def TrAdd (vs : List V1) (hl : Heap) : Tree (SV × Heap) :=
 match vs, hl with
 | [.g [.ws .u64 4 xs], .g [.ws .u64 4 ys]], [] => Tree.chk (decide (val xs < ell /\ val ys < ell)) (.ret (.one (ws (limbs ((val xs + val ys) % ell))), []))
 | _, _ => .fail
theorem rAdd_1 (xs ys : List Int) : (bodyT D5 Tryz.prog allLoops Tryz.f68 (cd Tryz.f68) [ws xs, ws ys] []).path [true] =
  some ([!decide (val (limbs (val xs + val ys)) < val tab0)], .one (ws (limbs (val (limbs (val xs + val ys)) - val tab0))), []) := by kernel_rfl
theorem rAdd_2 (xs ys : List Int) : (bodyT D5 Tryz.prog allLoops Tryz.f68 (cd Tryz.f68) [ws xs, ws ys] []).path [false] =
  some ([!decide (val (limbs (val xs + val ys)) < val tab0)], .one (ws (limbs (val xs + val ys))), []) := by kernel_rfl
theorem ok_rAdd : EntryOk Tryz.prog G0 68 TrAdd := by
 refine EntryOk.sub (bodyT_ok okD5 mx (un := allLoops) (fn := Tryz.f68) (c := cd Tryz.f68) (by kernel_rfl) (by kernel_rfl) (by kernel_rfl)) (fun vs hl r ok h => ?_)
 unfold TrAdd at h;split at h
 ·rename_i xs ys;obtain ⟨h1, h2⟩ := val_chk h;obtain ⟨hx, hy⟩ := ofD h1;obtain rfl := val_ret h2;have bx := val_bound (show okL xs from ok.1.1)
  have bY := val_bound (show okL ys from ok.2.1.1)
  have ev : val (limbs (val xs + val ys)) = val xs + val ys := val_limbs (by unfold ell at *; omega)
  have em : low (val xs + val ys) = (val xs + val ys) % ell := low_mod (by omega)
  by_cases hlt : val xs + val ys < ell
  ·have hp := rAdd_2 xs ys
   have e : (val xs + val ys) % ell = val xs + val ys := by rw [<- em]; unfold low; rw [if_pos hlt]
   rw [ev, val_tab0, deT hlt, <- e] at hp;exact Tree.path_val hp
  ·have hp := rAdd_1 xs ys
   have e : (val xs + val ys) % ell = val xs + val ys - ell := by rw [<- em]; unfold low; rw [if_neg hlt]
   rw [ev, val_tab0, deF hlt, <- e] at hp;exact Tree.path_val hp
 ·cases h
def TrIsZero (vs : List V1) (hl : Heap) : Tree (SV × Heap) :=
 match vs, hl with
 | [.g [.ws .u64 4 xs]], [] => .ret (.one (.c (.bool false (decide (val xs = 0)))), [])
 | _, _ => .fail
theorem rIsZero_b (xs : List Int) : (bodyT D5 Tryz.prog allLoops Tryz.f92 (cd Tryz.f92) [ws xs] []).path [] = some ([], .one (.c (.bool false (xs == [0, 0, 0, 0] && true))), []) := by kernel_rfl
theorem isZero_eq {xs : List Int} (h : okL xs) : (xs == [0, 0, 0, 0] && true) = decide (val xs = 0) := by
 obtain ⟨a, b, c, d, rfl, ha, hb, hc, hd⟩ := okL_get h;by_cases hz : a = 0 /\ b = 0 /\ c = 0 /\ d = 0
 ·obtain ⟨rfl, rfl, rfl, rfl⟩ := hz; rfl
 ·have h1 : ¬ val [a, b, c, d] = 0 := by rw [val4]; omega
  rw [deF h1, Bool.and_true];simp only [beq_eq_false_iff_ne, ne_eq, List.cons.injEq, and_true];exact hz
theorem ok_rIsZero : EntryOk Tryz.prog G0 92 TrIsZero := by
 refine EntryOk.sub (bodyT_ok okD5 mx (un := allLoops) (fn := Tryz.f92) (c := cd Tryz.f92) (by kernel_rfl) (by kernel_rfl) (by kernel_rfl)) (fun vs hl r ok h => ?_)
 unfold TrIsZero at h;split at h
 ·rename_i xs;obtain rfl := val_ret h;have hp := rIsZero_b xs
  rw [isZero_eq (show okL xs from ok.1.1)] at hp
  exact Tree.path_val hp
 ·cases h
noncomputable def D6 : Tab := ((D5.put 68 0 TrAdd).put 92 0 TrIsZero).put 16 0 TInt
theorem b_rInt (n : Int) : (bodyT D5 Tryz.prog allLoops Tryz.f16 (cd Tryz.f16) [.c (.int false .u64 n)] []).path [] = some ([], .one (ws [n, 0, 0, 0]), []) := by kernel_rfl
theorem ok_rInt : EntryOk Tryz.prog G0 16 TInt := by
 refine EntryOk.sub ((bodyT_ok okD5 mx (un := allLoops) (fn := Tryz.f16) (c := cd Tryz.f16) (by kernel_rfl) (by kernel_rfl) (by kernel_rfl)).unlit) (fun vs hl r ok h => ?_)
 unfold TInt at h;split at h
 ·rename_i l n;obtain rfl := val_ret h;exact Tree.path_val (b_rInt n)
 ·cases h
theorem okD6 : SpecOk Tryz.prog D6 := ((okD5.put ok_rAdd).put ok_rIsZero).put ok_rInt
def TrNeg (vs : List V1) (hl : Heap) : Tree (SV × Heap) :=
 match vs, hl with
 | [.g [.ws .u64 4 xs]], [] => Tree.chk (decide (val xs < ell)) (.ret (.one (ws (limbs ((0 - val xs) % ell))), []))
 | _, _ => .fail
theorem rNeg_1 (xs : List Int) : (bodyT D6 Tryz.prog allLoops Tryz.f120 (cd Tryz.f120) [ws xs] []).path [true] = some ([decide (val xs = 0)], .one (ws xs), []) := by kernel_rfl
theorem rNeg_2 (xs : List Int) : (bodyT D6 Tryz.prog allLoops Tryz.f120 (cd Tryz.f120) [ws xs] []).path [false] = some ([decide (val xs = 0)], .one (ws (limbs (val tab0 - val xs))), []) := by kernel_rfl
theorem ok_rNeg : EntryOk Tryz.prog G0 120 TrNeg := by
 refine EntryOk.sub (bodyT_ok okD6 mx (un := allLoops) (fn := Tryz.f120) (c := cd Tryz.f120) (by kernel_rfl) (by kernel_rfl) (by kernel_rfl)) (fun vs hl r ok h => ?_)
 unfold TrNeg at h;split at h
 ·rename_i xs;obtain ⟨h1, h2⟩ := val_chk h;have hx := ofD h1
  obtain rfl := val_ret h2;have bx := val_bound (show okL xs from ok.1.1)
  by_cases hz : val xs = 0
  ·have hp := rNeg_1 xs
   have e : xs = limbs ((0 - val xs) % ell) := by
    rw [hz, <- limbs_val (show okL xs from ok.1.1), hz]; rfl
   rw [deT hz] at hp;exact (Tree.path_val hp).trans (congrArg (fun z => some (SV.one (ws z), ([] : Heap))) e)
  ·have hp := rNeg_2 xs
   have e : (0 - val xs) % ell = ell - val xs := by unfold ell at *; omega
   rw [deF hz, val_tab0, <- e] at hp;exact Tree.path_val hp
 ·cases h
noncomputable def D7 : Tab := D6.put 120 0 TrNeg
theorem okD7 : SpecOk Tryz.prog D7 := okD6.put ok_rNeg
theorem add_mod2 (a b : Int) : (a + b % ell) % ell = (a + b) % ell := by unfold ell; omega
theorem sub_zero2 (a b : Int) : a + (0 - b) = a - b := by omega
def TrSub (vs : List V1) (hl : Heap) : Tree (SV × Heap) :=
 match vs, hl with
 | [.g [.ws .u64 4 xs], .g [.ws .u64 4 ys]], [] => Tree.chk (decide (val xs < ell /\ val ys < ell)) (.ret (.one (ws (limbs ((val xs - val ys) % ell))), []))
 | _, _ => .fail
theorem rSub_b (xs ys : List Int) : (bodyT D7 Tryz.prog allLoops Tryz.f65 (cd Tryz.f65) [ws xs, ws ys] []).path [true, true] =
  some ([decide (val ys < ell), decide (val xs < ell /\ val (limbs ((0 - val ys) % ell)) < ell)], .one (ws (limbs ((val xs + val (limbs ((0 - val ys) % ell))) % ell))), []) := by kernel_rfl
theorem ok_rSub : EntryOk Tryz.prog G0 65 TrSub := by
 refine EntryOk.sub (bodyT_ok okD7 mx (un := allLoops) (fn := Tryz.f65) (c := cd Tryz.f65) (by kernel_rfl) (by kernel_rfl) (by kernel_rfl)) (fun vs hl r ok h => ?_)
 unfold TrSub at h;split at h
 ·rename_i xs ys;obtain ⟨h1, h2⟩ := val_chk h;obtain ⟨hx, hy⟩ := ofD h1;obtain rfl := val_ret h2;have hp := rSub_b xs ys
  have e : (val xs + (0 - val ys) % ell) % ell = (val xs - val ys) % ell := by
   rw [add_mod2, sub_zero2]
  rw [val_mod, deT hy, deT ⟨hx, (mod_bound _).2⟩, e] at hp;exact Tree.path_val hp
 ·cases h
noncomputable def D8 : Tab := D7.put 65 0 TrSub
theorem okD8 : SpecOk Tryz.prog D8 := okD7.put ok_rSub
def Thalves (vs : List V1) (hl : Heap) : Tree (SV × Heap) :=
 match vs, hl with
 | [.g [.ws .u64 4 xs]], [] => .ret (.one (.g [.ws .u64 8 (hvs xs)]), [])
 | _, _ => .fail
theorem halves_b (a b c d : Int) : (bodyT D8 Tryz.prog allLoops Tryz.f121 (cd Tryz.f121) [ws [a, b, c, d]] []).path [] =
  some ([], .one (.g [.ws .u64 8 [band a 4294967295, shr a 32, band b 4294967295, shr b 32, band c 4294967295, shr c 32, band d 4294967295, shr d 32]]), []) := by kernel_rfl
theorem ok_rhalves : EntryOk Tryz.prog G0 121 Thalves := by
 refine EntryOk.sub (bodyT_ok okD8 mx (un := allLoops) (fn := Tryz.f121) (c := cd Tryz.f121) (by kernel_rfl) (by kernel_rfl) (by kernel_rfl)) (fun vs hl r ok h => ?_)
 unfold Thalves at h;split at h
 ·rename_i xs;obtain rfl := val_ret h;obtain ⟨a, b, c, d, rfl, ha, hb, hc, hd⟩ := okL_get (show okL xs from ok.1.1)
  have hp := halves_b a b c d
  have e : ∀ {x : Int}, R x -> band x 4294967295 = x % 4294967296 := fun h => band_mask h 32 (by decide)
  have f : ∀ x : Int, shr x 32 = x / 4294967296 := fun x => shr_eq x 32
  rw [e ha, e hb, e hc, e hd, f, f, f, f] at hp;exact Tree.path_val hp
 ·cases h
noncomputable def D9 : Tab := D8.put 121 0 Thalves
theorem okD9 : SpecOk Tryz.prog D9 := okD8.put ok_rhalves
noncomputable def rX (k : List Item) (s : St) : Tree Out := runK D9 Tryz.prog noLoops 400 k s
noncomputable def sX (xs ys : List Int) : St := ⟨enterT Tryz.f67 [ws xs, ws ys], []⟩
noncomputable def KX : List Item := leftT [] (rX [.code (cd Tryz.f67)] (sX [] []))
noncomputable def hX (x y p : List Int) : Heap := [.vals [.ws .u64 4 [0, 0, 0, 0]], .vals [.ws .u64 8 x], .vals [.ws .u64 8 y], .vals [.ws .u64 16 p]]
noncomputable def stX (x y p : List Int) (i : Int) : St := ⟨slotsOf 70 [(4, pt 0), (5, pt 1), (6, pt 2), (7, pt 3), (8, one (.int false .i64 i))], hX x y p⟩
noncomputable def KY : List Item := leftT [true] (rX KX (stX [] [] [] 0))
noncomputable def stY (x y p : List Int) (i c k : Int) : St := ⟨slotsOf 70 [(4, pt 0), (5, pt 1), (6, pt 2), (7, pt 3), (8, one (.int false .i64 i)), (9, one (.int false .u64 c)), (10, one (.int false .i64 k))], hX x y p⟩
noncomputable def KZ : List Item := leftT [false] (rX KX (stX [] [] [] 0))
noncomputable def stZ (p r : List Int) (i : Int) : St := ⟨slotsOf 70 [(4, pt 0), (7, pt 1), (12, pt 2), (13, one (.int false .i64 i))], [.vals [.ws .u64 4 [0, 0, 0, 0]], .vals [.ws .u64 16 p], .vals [.ws .u64 4 r]]⟩
theorem x_a (xs ys : List Int) : pieceT [4, 5, 6, 7, 8] [8] [2, 3, 4, 5] [] (rX [.code (cd Tryz.f67)] (sX xs ys)) = some ([], KX, stX (hvs xs) (hvs ys) (List.replicate 16 0) (0 : Nat)) := by kernel_rfl
theorem x_b (x y p : List Int) (i : Nat) : pieceT [4, 5, 6, 7, 8, 9, 10] [9, 10] [0, 1, 2, 3] [true] (rX KX (stX x y p i)) = some ([decide ((i : Int) < 8)], KY, stY x y p i 0 (0 : Nat)) := by kernel_rfl
def tX (x y p : List Int) (i k : Nat) (c : Int) : Int := um (um (um (x.getD i 0 * y.getD k 0) + p.getD (IntKind.i64.wrap ((i : Int) + k)).toNat 0) + c)
theorem x_c (x y p : List Int) (i k : Nat) (c : Int) : pieceT [4, 5, 6, 7, 8, 9, 10] [9, 10] [0, 1, 2, 3] [true, true, true, true, true] (rX KY (stY x y p i c k)) =
  some ([decide ((k : Int) < 8), decide (0 <= (i : Int) /\ (i : Int) < 8), decide (0 <= (k : Int) /\ (k : Int) < 8), decide (0 <= IntKind.i64.wrap ((i : Int) + k) /\ IntKind.i64.wrap ((i : Int) + k) < 16), decide (0 <= IntKind.i64.wrap ((i : Int) + k) /\ IntKind.i64.wrap ((i : Int) + k) < 16)], KY,
   stY x y (p.set (IntKind.i64.wrap ((i : Int) + k)).toNat (band (tX x y p i k c) 4294967295)) i (shr (tX x y p i k c) 32) (IntKind.i64.wrap ((k : Int) + 1))) := by kernel_rfl
theorem x_d (x y p : List Int) (i k : Nat) (c : Int) : pieceT [4, 5, 6, 7, 8] [8] [0, 1, 2, 3] [false, true] (rX KY (stY x y p i c k)) =
  some ([decide ((k : Int) < 8), decide (0 <= IntKind.i64.wrap ((i : Int) + 8) /\ IntKind.i64.wrap ((i : Int) + 8) < 16)], KX, stX x y (p.set (IntKind.i64.wrap ((i : Int) + 8)).toNat c) (IntKind.i64.wrap ((i : Int) + 1))) := by kernel_rfl
theorem x_e (x y p : List Int) (i : Nat) : pieceT [4, 7, 12, 13] [13] [0, 3, 4] [false] (rX KX (stX x y p i)) = some ([decide ((i : Int) < 8)], KZ, stZ p [0, 0, 0, 0] 15) := by kernel_rfl
def uX (r : List Int) (w : Int) : List Int := limbs ((val r * 65536 + w) % ell)
theorem x_f (p r : List Int) (i : Int) : pieceT [4, 7, 12, 13] [13] [0, 1, 2] [true, true, true, true, true] (rX KZ (stZ p r i)) =
  some ([decide (i >= 0), decide (0 <= i /\ i < 16), decide (val r < ell /\ shr (p.getD i.toNat 0) 16 < 65536), decide (0 <= i /\ i < 16), decide (val (uX r (shr (p.getD i.toNat 0) 16)) < ell /\ band (p.getD i.toNat 0) 65535 < 65536)], KZ,
   stZ p (uX (uX r (shr (p.getD i.toNat 0) 16)) (band (p.getD i.toNat 0) 65535)) (IntKind.i64.wrap (i - 1))) := by kernel_rfl
theorem x_g (p r : List Int) (i : Int) : endT Tryz.prog Tryz.f67 [] [false] (rX KZ (stZ p r i)) = some ([decide (i >= 0)], .one (ws r), []) := by kernel_rfl
abbrev RX (K : List Item) (s : St) (z : Int) : Prop := Runs Tryz.prog D9 Tryz.f67 0 K s (.one (ws (limbs (z % ell)))) []
theorem mulZ {p : List Int} (hl : p.length = 16) (h : H32 p) : RX KZ (stZ p [0, 0, 0, 0] 15) (dg 4294967296 p) := by
 refine loopG (st := fun k (r : List Int) => stZ p r (15 - (k : Int))) (I := fun k r => r = limbs (dg 4294967296 (p.drop (16 - k)) % ell)) (n := 16) (fun k r hk hI => ?_) (fun r hI => ?_) 16 0 [0, 0, 0, 0] rfl ?_
 ·subst hI;have hf := x_f p (limbs (dg 4294967296 (p.drop (16 - k)) % ell)) (15 - (k : Int))
  have ei : (15 - (k : Int)).toNat = 15 - k := by omega
  have hp := h (15 - k)
  have e1 : shr (p.getD (15 - k) 0) 16 = p.getD (15 - k) 0 / 65536 := shr_eq _ 16
  have e2 : band (p.getD (15 - k) 0) 65535 = p.getD (15 - k) 0 % 65536 := band_mask (by unfold R; omega) 16 (by decide)
  have hd := dg_drop_pred 4294967296 (y := p) (k := 15 - k) (by omega)
  rw [show 15 - k + 1 = 16 - k from by omega] at hd
  have em : uX (uX (limbs (dg 4294967296 (p.drop (16 - k)) % ell)) (p.getD (15 - k) 0 / 65536)) (p.getD (15 - k) 0 % 65536) = limbs (dg 4294967296 (p.drop (16 - (k + 1))) % ell) := by
   unfold uX;rw [val_mod, val_mod, add_mod_mul, show 16 - (k + 1) = 15 - k from by omega, hd]
   have e3 : (dg 4294967296 (p.drop (16 - k)) % ell * 65536 + p.getD (15 - k) 0 / 65536) * 65536 + p.getD (15 - k) 0 % 65536 = dg 4294967296 (p.drop (16 - k)) % ell * 4294967296 + p.getD (15 - k) 0 := by omega
   rw [e3, add_mod_mul, Int.add_comm, Int.mul_comm]
  have eb : val (uX (limbs (dg 4294967296 (p.drop (16 - k)) % ell)) (p.getD (15 - k) 0 / 65536)) < ell := by unfold uX; rw [val_mod]; exact (mod_bound _).2
  refine ⟨_, rfl, fun hr => ?_⟩
  rw [ei, e1, e2, em, val_mod, deT (by omega), deT (by omega), deT ⟨(mod_bound _).2, by omega⟩, deT ⟨eb, by omega⟩, wrap64 (by omega), show 15 - (k : Int) - 1 = 15 - ((k + 1 : Nat) : Int) from by omega] at hf
  exact Runs.piece okD9 mx hf rfl (by rfl) hr
 ·subst hI;exact Runs.last okD9 mx (x_g p _ (15 - ((16 : Nat) : Int))) rfl (by rfl)
 ·rw [Nat.sub_zero, <- hl, List.drop_length]; rfl
theorem mulX {x y : List Int} (hx : H32 x) (hxl : x.length = 8) (hy : H32 y) (hyl : y.length = 8) : RX KX (stX x y (List.replicate 16 0) (0 : Nat)) (dg 4294967296 x * dg 4294967296 y) := by
 refine loopG (st := fun k (p : List Int) => stX x y p k) (I := fun i p => p.length = 16 /\ H32 p /\ dg 4294967296 p = dg 4294967296 (x.take i) * dg 4294967296 y /\ ∀ j, i + 8 <= j -> p.getD j 0 = 0) (n := 8) (fun i p hi hI => ?_) (fun p hI => ?_) 8 0 (List.replicate 16 0) rfl ?_
 ·obtain ⟨i1, i2, i3, i4⟩ := hI;have hx0 := hx i
  have start : Mid (x.getD i 0) y p i 0 p 0 := ⟨i1, i2, ⟨Int.le_refl _, by decide⟩, by rw [List.take_zero]; show _ + 0 * _ = _ + _ * 0 * _; rw [Int.zero_mul, Int.mul_zero, Int.zero_mul], i4⟩
  have fin : ∃ p', (p'.length = 16 /\ H32 p' /\ dg 4294967296 p' = dg 4294967296 p + x.getD i 0 * dg 4294967296 y * 4294967296 ^ i /\ ∀ j, i + 1 + 8 <= j -> p'.getD j 0 = 0) /\
    (RX KX (stX x y p' (i + 1 : Nat)) (dg 4294967296 x * dg 4294967296 y) -> RX KY (stY x y p i 0 (0 : Nat)) (dg 4294967296 x * dg 4294967296 y)) := by
   have gen : ∀ d k q (c : Int), k + d = 8 -> Mid (x.getD i 0) y p i k q c -> ∃ p', (p'.length = 16 /\ H32 p' /\ dg 4294967296 p' = dg 4294967296 p + x.getD i 0 * dg 4294967296 y * 4294967296 ^ i /\ ∀ j, i + 1 + 8 <= j -> p'.getD j 0 = 0) /\
    (RX KX (stX x y p' (i + 1 : Nat)) (dg 4294967296 x * dg 4294967296 y) -> RX KY (stY x y q i c k) (dg 4294967296 x * dg 4294967296 y)) := by
    intro d
    induction d with
    | zero =>
     intro k q c hk m;obtain rfl : k = 8 := by omega
     refine ⟨_, m.last hyl hi, fun hr => ?_⟩
     have hd := x_d x y q i 8 c
     rw [wrap64 (x := (i : Int) + 8) (by omega), show ((i : Int) + 8).toNat = i + 8 from by omega, wsucc (by omega), deT (show 0 <= (i : Int) + 8 /\ (i : Int) + 8 < 16 by omega)] at hd
     exact Runs.piece okD9 mx hd rfl (by rfl) hr
    | succ d ih =>
     intro k q c hk m;obtain ⟨p', h1, h2⟩ := ih (k + 1) _ _ (by omega) (m.step hx0 hy hyl (by omega) hi)
     refine ⟨p', h1, fun hr => ?_⟩
     have hc := x_c x y q i k c
     obtain ⟨b0, b1, b2⟩ := mul32 hx0 (hy k) (m.h (i + k)) m.hc;have ew : IntKind.i64.wrap ((i : Int) + k) = ((i + k : Nat) : Int) := by rw [wrap64 (by omega)]; omega
     have et : tX x y q i k c = x.getD i 0 * y.getD k 0 + q.getD (i + k) 0 + c := by
      unfold tX um;rw [ew, Int.toNat_natCast, wrapU, wrapU, wrapU];have := (m.h (i + k)).1
      have := m.hc.1
      omega
     have e1 : band (x.getD i 0 * y.getD k 0 + q.getD (i + k) 0 + c) 4294967295 = (x.getD i 0 * y.getD k 0 + q.getD (i + k) 0 + c) % 4294967296 := band_mask (by unfold R; omega) 32 (by decide)
     have e2 : shr (x.getD i 0 * y.getD k 0 + q.getD (i + k) 0 + c) 32 = (x.getD i 0 * y.getD k 0 + q.getD (i + k) 0 + c) / 4294967296 := shr_eq _ 32
     rw [et, e1, e2, ew, Int.toNat_natCast, wsucc (by omega), deT (show (k : Int) < 8 by omega), deT (show 0 <= (i : Int) /\ (i : Int) < 8 by omega), deT (show 0 <= (k : Int) /\ (k : Int) < 8 by omega), deT (show 0 <= ((i + k : Nat) : Int) /\ ((i + k : Nat) : Int) < 16 by omega)] at hc
     exact Runs.piece okD9 mx hc rfl (by rfl) (h2 hr)
   exact gen 8 0 p 0 rfl start
  obtain ⟨p', ⟨q1, q2, q3, q4⟩, hrun⟩ := fin;refine ⟨p', ⟨q1, q2, ?_, q4⟩, fun hr => ?_⟩
  ·rw [q3, i3, dg_take_succ _ (by omega), Int.add_mul]
   congr 1
   rw [Int.mul_comm (4294967296 ^ i), Int.mul_assoc, Int.mul_assoc, Int.mul_comm (dg 4294967296 y)]
  ·have hb := x_b x y p i
   rw [deT (by omega)] at hb
   exact Runs.piece okD9 mx hb rfl (by rfl) (hrun hr)
 ·obtain ⟨i1, i2, i3, _⟩ := hI;rw [List.take_of_length_le (by omega)] at i3
  rw [<- i3];exact Runs.piece okD9 mx (x_e x y p 8) rfl (by rfl) (mulZ i1 i2)
 ·refine ⟨rfl, fun j => ?_, ?_, fun j hj => ?_⟩
  ·rw [List.getD_eq_getElem?_getD, List.getElem?_replicate]
   split <;> exact ⟨Int.le_refl _, by decide⟩
  ·show _ = dg 4294967296 [] * _
   rw [show dg 4294967296 [] = 0 from rfl, Int.zero_mul]; rfl
  ·rw [List.getD_eq_getElem?_getD, List.getElem?_replicate]
   split <;> rfl
theorem ok_rMul : EntryOk Tryz.prog G0 67 TMul := by
 refine EntryOk.runs (S := D9) (fn := Tryz.f67) (c := cd Tryz.f67) (by kernel_rfl) (by kernel_rfl) (by kernel_rfl) (fun vs hl r hl' ok h => ?_)
 unfold TMul at h;split at h
 ·rename_i xs ys;obtain ⟨rfl, rfl⟩ := Prod.mk.inj (val_ret h);have hx : okL xs := ok.1.1
  have hy : okL ys := ok.2.1.1
  obtain ⟨x1, x2⟩ := H32_hvs hx;obtain ⟨y1, y2⟩ := H32_hvs hy;have hr := mulX x1 x2 y1 y2
  rw [hvs_dg, hvs_dg, <- val_dg hx, <- val_dg hy] at hr;exact Runs.piece okD9 mx (x_a xs ys) rfl (by rfl) hr
 ·cases h
noncomputable def D10 : Tab := D9.put 67 0 TMul
theorem okD10 : SpecOk Tryz.prog D10 := okD9.put ok_rMul
def TPow (vs : List V1) (hl : Heap) : Tree (SV × Heap) :=
 match vs, hl with
 | [.g [.ws .u64 4 xs], .c (.int _ .u64 e)], [] => .ret (.one (ws (limbs (val xs ^ e.toNat % ell))), [])
 | _, _ => .fail
noncomputable def rQ (k : List Item) (s : St) : Tree Out := runK D10 Tryz.prog noLoops 400 k s
noncomputable def sQ (xs : List Int) (e : Int) : St := ⟨enterT Tryz.f94 [ws xs, .c (.int false .u64 e)], []⟩
noncomputable def KQ : List Item := leftT [] (rQ [.code (cd Tryz.f94)] (sQ [] 0))
noncomputable def stQ (xs r : List Int) (e i : Int) : St := ⟨slotsOf 24 [(1, one (.int false .u64 e)), (2, pt 0), (4, pt 1), (5, pt 2), (6, one (.int false .i64 i))], [.vals [.ws .u64 4 xs], .vals [.ws .u64 4 [0, 0, 0, 0]], .vals [.ws .u64 4 r]]⟩
theorem q_a (xs : List Int) (e : Int) : pieceT [1, 2, 4, 5, 6] [6] [0, 1, 2] [] (rQ [.code (cd Tryz.f94)] (sQ xs e)) = some ([], KQ, stQ xs [1, 0, 0, 0] e 63) := by kernel_rfl
def sqr (r : List Int) : List Int := limbs (val r * val r % ell)
theorem q_b (xs r : List Int) (e i : Int) : pieceT [1, 2, 4, 5, 6] [6] [0, 1, 2] [true, true, true] (rQ KQ (stQ xs r e i)) =
  some ([decide (i >= 0), decide (0 <= i), band (Int.fdiv e (2 ^ (min i.toNat 64))) 1 == 1], KQ, stQ xs (limbs (val (sqr r) * val xs % ell)) e (IntKind.i64.wrap (i - 1))) := by kernel_rfl
theorem q_c (xs r : List Int) (e i : Int) : pieceT [1, 2, 4, 5, 6] [6] [0, 1, 2] [true, true, false] (rQ KQ (stQ xs r e i)) =
  some ([decide (i >= 0), decide (0 <= i), band (Int.fdiv e (2 ^ (min i.toNat 64))) 1 == 1], KQ, stQ xs (sqr r) e (IntKind.i64.wrap (i - 1))) := by kernel_rfl
theorem q_d (xs r : List Int) (e i : Int) : endT Tryz.prog Tryz.f94 [] [false] (rQ KQ (stQ xs r e i)) = some ([decide (i >= 0)], .one (ws r), []) := by kernel_rfl
theorem pow_dbl (x : Int) (v b : Nat) : x ^ (2 * v + b) = x ^ v * x ^ v * x ^ b := by
 rw [Int.pow_add, Nat.two_mul, Int.pow_add]
theorem half_step (E i : Nat) : E / 2 ^ i = 2 * (E / 2 ^ (i + 1)) + E / 2 ^ i % 2 := by
 rw [Nat.pow_succ, <- Nat.div_div_eq_div_mul]; omega
theorem power_runs {xs : List Int} {E : Nat} (hE : E < 18446744073709551616) : Runs Tryz.prog D10 Tryz.f94 0 [.code (cd Tryz.f94)] (sQ xs (E : Int)) (.one (ws (limbs (val xs ^ E % ell)))) [] := by
 refine Runs.piece okD10 mx (q_a xs E) rfl (by rfl) ?_
 refine loopG (st := fun k (r : List Int) => stQ xs r E (63 - (k : Int))) (I := fun k r => r = limbs (val xs ^ (E / 2 ^ (64 - k)) % ell)) (n := 64) (fun k r hk hI => ?_) (fun r hI => ?_) 64 0 [1, 0, 0, 0] rfl ?_
 ·subst hI;have hi : (63 - (k : Int)).toNat = 63 - k := by omega
  have hp : (2 : Int) ^ min (63 - k) 64 = ((2 ^ (63 - k) : Nat) : Int) := by rw [Nat.min_eq_left (by omega)]; simp
  have hq : Int.fdiv (E : Int) ((2 ^ (63 - k) : Nat) : Int) = ((E / 2 ^ (63 - k) : Nat) : Int) := by rw [fdiv_pos]; rfl
  have hle : E / 2 ^ (63 - k) <= E := Nat.div_le_self _ _
  have hR : R ((E / 2 ^ (63 - k) : Nat) : Int) := ⟨Int.natCast_nonneg _, by omega⟩
  have hb : band ((E / 2 ^ (63 - k) : Nat) : Int) 1 = ((E / 2 ^ (63 - k) : Nat) : Int) % 2 := band_mask hR 1 (by decide)
  have hh := half_step E (63 - k)
  rw [show 63 - k + 1 = 64 - k from by omega] at hh
  have hs : val (sqr (limbs (val xs ^ (E / 2 ^ (64 - k)) % ell))) = val xs ^ (E / 2 ^ (64 - k)) * val xs ^ (E / 2 ^ (64 - k)) % ell := by
   unfold sqr; rw [val_mod, val_mod, <- Int.mul_emod]
  have hw : IntKind.i64.wrap (63 - (k : Int) - 1) = 63 - ((k + 1 : Nat) : Int) := by rw [wrap64 (by omega)]; omega
  by_cases hbit : E / 2 ^ (63 - k) % 2 = 1
  ·have hqb := q_b xs (limbs (val xs ^ (E / 2 ^ (64 - k)) % ell)) E (63 - (k : Int))
   refine ⟨_, rfl, fun hr => ?_⟩
   have e1 : (val xs ^ (E / 2 ^ (64 - k)) * val xs ^ (E / 2 ^ (64 - k)) % ell) * val xs % ell = val xs ^ (E / 2 ^ (64 - (k + 1))) % ell := by
    rw [emod_mul, show 64 - (k + 1) = 63 - k from by omega, hh, hbit, pow_dbl, Int.pow_one]
   have e2 : (((E / 2 ^ (63 - k) : Nat) : Int) % 2 == 1) = true := by
    have : ((E / 2 ^ (63 - k) : Nat) : Int) % 2 = 1 := by omega
    rw [this]; rfl
   rw [hi, hp, hq, hb, hs, e1, e2, hw, deT (show 63 - (k : Int) >= 0 by omega)] at hqb
   exact Runs.piece okD10 mx hqb rfl (by rfl) hr
  ·have hqb := q_c xs (limbs (val xs ^ (E / 2 ^ (64 - k)) % ell)) E (63 - (k : Int))
   refine ⟨_, rfl, fun hr => ?_⟩
   have h0 : E / 2 ^ (63 - k) % 2 = 0 := by omega
   have e1 : sqr (limbs (val xs ^ (E / 2 ^ (64 - k)) % ell)) = limbs (val xs ^ (E / 2 ^ (64 - (k + 1))) % ell) := by
    unfold sqr;rw [val_mod, <- Int.mul_emod, show 64 - (k + 1) = 63 - k from by omega, hh, h0, pow_dbl, Int.pow_zero, Int.mul_one]
   have e2 : (((E / 2 ^ (63 - k) : Nat) : Int) % 2 == 1) = false := by
    have : ((E / 2 ^ (63 - k) : Nat) : Int) % 2 = 0 := by omega
    rw [this]; rfl
   rw [hi, hp, hq, hb, e1, e2, hw, deT (show 63 - (k : Int) >= 0 by omega)] at hqb
   exact Runs.piece okD10 mx hqb rfl (by rfl) hr
 ·subst hI;have hd := q_d xs (limbs (val xs ^ (E / 2 ^ (64 - 64)) % ell)) E (63 - ((64 : Nat) : Int))
  rw [Nat.sub_self, Nat.pow_zero, Nat.div_one] at hd ⊢;exact Runs.last okD10 mx hd rfl (by rfl)
 ·rw [Nat.sub_zero, Nat.div_eq_of_lt hE, Int.pow_zero]; rfl
theorem ok_rPower : EntryOk Tryz.prog G0 94 TPow := by
 refine EntryOk.runs (S := D10) (fn := Tryz.f94) (c := cd Tryz.f94) (by kernel_rfl) (by kernel_rfl) (by kernel_rfl) (fun vs hl r hl' ok h => ?_)
 unfold TPow at h;split at h
 ·rename_i xs l e;obtain ⟨rfl, rfl⟩ := Prod.mk.inj (val_ret h);obtain ⟨E, rfl, hE⟩ := nat_of (inU.mp ok.2.1);exact lit_int [1] (power_runs hE) (by kernel_rfl)
 ·cases h
noncomputable def D11 : Tab := D10.put 94 0 TPow
theorem okD11 : SpecOk Tryz.prog D11 := okD10.put ok_rPower
end Go.Sc
