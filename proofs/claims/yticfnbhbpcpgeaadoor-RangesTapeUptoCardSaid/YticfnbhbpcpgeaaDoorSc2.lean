/-
  Contracts of the program's scalars, part 2: sums, differences, choices, products of words.
-/
import Derived.Test.YticfnbhbpcpgeaaDoorAr
import Derived.Test.YticfnbhbpcpgeaaDoorSc1
namespace Go.Sc
open Go Go.SX Go.Proofs

theorem b_plus (xs ys : List Int) : (bodyT C1 Tryd.prog allLoops Tryd.f34 (cd Tryd.f34) [ws xs, ws ys] []).path [true, true, true, true] =
    some ([true, decide (cr xs ys 1 ≤ 1), decide (cr xs ys 2 ≤ 1), decide (cr xs ys 3 ≤ 1)], .tup [ws (addL xs ys), .c (.int false .u64 (cr xs ys 4))], []) := by kernel_rfl
theorem b_minus (xs ys : List Int) : (bodyT C1 Tryd.prog allLoops Tryd.f57 (cd Tryd.f57) [ws xs, ws ys] []).path [true, true, true, true] =
    some ([true, decide (bw xs ys 1 ≤ 1), decide (bw xs ys 2 ≤ 1), decide (bw xs ys 3 ≤ 1)], .tup [ws (subL xs ys), .c (.int false .u64 (bw xs ys 4))], []) := by kernel_rfl
theorem ok_plus : EntryOk Tryd.prog G0 34 Tplus := by
  refine EntryOk.sub (bodyT_ok okC1 mx (un := allLoops) (fn := Tryd.f34) (c := cd Tryd.f34) (by kernel_rfl) (by kernel_rfl) (by kernel_rfl)) (fun vs hl r ok h => ?_)
  unfold Tplus at h
  split at h
  · rename_i xs ys
    obtain rfl := val_ret h
    have hx : okL xs := ok.1.1
    have hy : okL ys := ok.2.1.1
    have hp := b_plus xs ys
    obtain ⟨e1, e2⟩ := addL_eq hx hy
    have c1 := cr_le hx hy 1 (by decide)
    have c2 := cr_le hx hy 2 (by decide)
    have c3 := cr_le hx hy 3 (by decide)
    rw [decide_eq_true c1.2, decide_eq_true c2.2, decide_eq_true c3.2, e1, e2] at hp
    exact Tree.path_val hp
  · cases h
theorem ok_minus : EntryOk Tryd.prog G0 57 Tminus := by
  refine EntryOk.sub (bodyT_ok okC1 mx (un := allLoops) (fn := Tryd.f57) (c := cd Tryd.f57) (by kernel_rfl) (by kernel_rfl) (by kernel_rfl)) (fun vs hl r ok h => ?_)
  unfold Tminus at h
  split at h
  · rename_i xs ys
    obtain rfl := val_ret h
    have hx : okL xs := ok.1.1
    have hy : okL ys := ok.2.1.1
    have hp := b_minus xs ys
    obtain ⟨e1, e2⟩ := subL_eq hx hy
    rw [decide_eq_true (bw_le 1).2, decide_eq_true (bw_le 2).2, decide_eq_true (bw_le 3).2, e1, e2] at hp
    exact Tree.path_val hp
  · cases h

/-! ### choose -/
def Tchoose (vs : List V1) (hl : Heap) : Tree (SV × Heap) :=
  match vs, hl with
  | [.c (.int _ .u64 m), .g [.ws .u64 4 xs], .g [.ws .u64 4 ys]], [] => Tree.chk (decide (m = 0 ∨ m = 18446744073709551615)) (.ret (.one (ws (if m = 0 then ys else xs)), []))
  | _, _ => .fail
def ch (m x y : Int) : Int := bor (band x m) (bandn y m)
theorem b_choose (m a b c d a' b' c' d' : Int) : (bodyT C1 Tryd.prog allLoops Tryd.f58 (cd Tryd.f58) [.c (.int false .u64 m), ws [a, b, c, d], ws [a', b', c', d']] []).path [] =
    some ([], .one (ws [ch m a a', ch m b b', ch m c c', ch m d d']), []) := by kernel_rfl
theorem ch_zero {x y : Int} (hx : R x) (hy : R y) : ch 0 x y = y := by unfold ch; rw [band_zero hx, bandn_zero hy, zero_bor hy]
theorem ch_all {x y : Int} (hx : R x) : ch 18446744073709551615 x y = x := by unfold ch; rw [band_all hx, bandn_all, bor_zero hx]
theorem ok_choose : EntryOk Tryd.prog G0 58 Tchoose := by
  refine EntryOk.sub ((bodyT_ok okC1 mx (un := allLoops) (fn := Tryd.f58) (c := cd Tryd.f58) (by kernel_rfl) (by kernel_rfl) (by kernel_rfl)).unlit) (fun vs hl r ok h => ?_)
  unfold Tchoose at h
  split at h
  · rename_i l m xs ys
    obtain ⟨h1, h2⟩ := val_chk h
    have hm := of_decide_eq_true h1
    obtain rfl := val_ret h2
    obtain ⟨a, b, c, d, rfl, ha, hb, hc, hd⟩ := okL_get (show okL xs from ok.2.1.1)
    obtain ⟨a', b', c', d', rfl, ha', hb', hc', hd'⟩ := okL_get (show okL ys from ok.2.2.1.1)
    have hp := b_choose m a b c d a' b' c' d'
    rcases hm with rfl | rfl
    · rw [ch_zero ha ha', ch_zero hb hb', ch_zero hc hc', ch_zero hd hd'] at hp
      exact Tree.path_val hp
    · rw [ch_all ha, ch_all hb, ch_all hc, ch_all hd] at hp
      exact Tree.path_val hp
  · cases h

/-! ### Mul64 -/
def TMul64 (vs : List V1) (hl : Heap) : Tree (SV × Heap) :=
  match vs, hl with
  | [.c (.int _ .u64 x), .c (.int _ .u64 y)], [] => .ret (.tup [.c (.int false .u64 (mulHi x y)), .c (.int false .u64 (mulLo x y))], [])
  | _, _ => .fail

def mt (x y : Int) : Int := um (um (Int.fdiv x 4294967296 * band y 4294967295) + Int.fdiv (um (band x 4294967295 * band y 4294967295)) 4294967296)
def mv (x y : Int) : Int := um (band (mt x y) 4294967295 + um (band x 4294967295 * Int.fdiv y 4294967296))
theorem b_Mul64 (x y : Int) : (bodyT C1 Tryd.prog allLoops Tryd.f56 (cd Tryd.f56) [.c (.int false .u64 x), .c (.int false .u64 y)] []).path [] =
    some ([], .tup [.c (.int false .u64 (um (um (um (Int.fdiv x 4294967296 * Int.fdiv y 4294967296) + Int.fdiv (mt x y) 4294967296) + Int.fdiv (mv x y) 4294967296))), .c (.int false .u64 (um (x * y)))], []) := by kernel_rfl
theorem ok_Mul64 : EntryOk Tryd.prog G0 56 TMul64 := by
  refine EntryOk.sub ((bodyT_ok okC1 mx (un := allLoops) (fn := Tryd.f56) (c := cd Tryd.f56) (by kernel_rfl) (by kernel_rfl) (by kernel_rfl)).unlit) (fun vs hl r ok h => ?_)
  unfold TMul64 at h
  split at h
  · rename_i l x l' y
    obtain rfl := val_ret h
    have hx : R x := inU.mp ok.1
    have hy : R y := inU.mp ok.2.1
    have hp := b_Mul64 x y
    have f (x : Int) : Int.fdiv x 4294967296 = x / 4294967296 := fdiv_pos x 32
    have bm {x : Int} (h : R x) : band x 4294967295 = x % 4294967296 := band_mask h 32 (by decide)
    have hmt : mt x y = (x / 4294967296 * (y % 4294967296) % 18446744073709551616 + x % 4294967296 * (y % 4294967296) % 18446744073709551616 / 4294967296) % 18446744073709551616 := by
      unfold mt um
      rw [f, f, bm hx, bm hy, wrapU, wrapU, wrapU]
    have hR : R (mt x y) := by rw [hmt]; unfold R; omega
    have hmv : mv x y = (mt x y % 4294967296 + x % 4294967296 * (y / 4294967296) % 18446744073709551616) % 18446744073709551616 := by
      unfold mv um
      rw [f, bm hx, bm hR, wrapU, wrapU]
    rw [f, f, f, f] at hp
    unfold um at hp
    rw [wrapU, wrapU, wrapU, wrapU] at hp
    obtain ⟨e1, e2⟩ := mul64 hx hy rfl rfl rfl rfl rfl hmt rfl rfl hmv rfl rfl
    rw [e1, e2] at hp
    exact Tree.path_val hp
  · cases h
noncomputable def C2 : Tab := ((((C1.put 34 0 Tplus).put 57 0 Tminus).put 58 0 Tchoose).put 56 0 TMul64)
theorem okC2 : SpecOk Tryd.prog C2 := (((okC1.put ok_plus).put ok_minus).put ok_choose).put ok_Mul64
end Go.Sc
