/- Contracts of the program's scalars, part 4: products. -/
import Derived.Test.YtdblbibjggeikaaGreatDoorD2
set_option linter.unusedSectionVars false
set_option linter.unusedVariables false
set_option linter.unusedSimpArgs false
namespace Go.Sc
open Go Go.SX Go.Proofs
variable [Level]
def Tinto (vs : List V1) (hl : Heap) : Tree (SV × Heap) :=
 match vs, hl with
 | [.c (.int _ .u64 x), .c (.int _ .u64 y), .c (.int _ .u64 z), .c (.int _ .u64 c)], [] =>
  .ret (.tup [.c (.int false .u64 ((x * y + z + c) % 18446744073709551616)), .c (.int false .u64 ((x * y + z + c) / 18446744073709551616))], [])
 | _, _ => .fail
theorem b_into (x y z c : Int) : (bodyT C4 Tryz.prog allLoops Tryz.f170 (cd Tryz.f170) [.c (.int false .u64 x), .c (.int false .u64 y), .c (.int false .u64 z), .c (.int false .u64 c)] []).path [true, true] =
  some ([true, true], .tup [.c (.int false .u64 (((mulLo x y + z + 0) % 18446744073709551616 + c + 0) % 18446744073709551616)),
   .c (.int false .u64 (um (um (mulHi x y + (mulLo x y + z + 0) / 18446744073709551616) + ((mulLo x y + z + 0) % 18446744073709551616 + c + 0) / 18446744073709551616)))], []) := by kernel_rfl
theorem ok_into : EntryOk Tryz.prog G0 170 Tinto := by
 refine EntryOk.sub ((bodyT_ok okC4 mx (un := allLoops) (fn := Tryz.f170) (c := cd Tryz.f170) (by kernel_rfl) (by kernel_rfl) (by kernel_rfl)).unlit) (fun vs hl r ok h => ?_)
 unfold Tinto at h;split at h
 ·rename_i l x l' y l2 z l3 c;obtain rfl := val_ret h;have hx : R x := inU.mp ok.1
  have hy : R y := inU.mp ok.2.1
  have hz : R z := inU.mp ok.2.2.1
  have hc : R c := inU.mp ok.2.2.2.1
  have hp := b_into x y z c
  have hb := mul_bits hx hy
  have e1 : ((mulLo x y + z + 0) % 18446744073709551616 + c + 0) % 18446744073709551616 = (x * y + z + c) % 18446744073709551616 := by
   unfold mulLo; omega
  have e2 : um (um (mulHi x y + (mulLo x y + z + 0) / 18446744073709551616) + ((mulLo x y + z + 0) % 18446744073709551616 + c + 0) / 18446744073709551616) = (x * y + z + c) / 18446744073709551616 := by
   unfold um mulLo mulHi;rw [wrapU, wrapU];unfold R at *
   generalize x * y = p at *
   omega
  rw [e1, e2] at hp;exact Tree.path_val hp
 ·cases h
noncomputable def C5 : Tab := C4.put 170 0 Tinto
theorem okC5 : SpecOk Tryz.prog C5 := okC4.put ok_into
def mc (x : Int) (xs ts : List Int) : Nat -> Int
 | 0 => 0
 | n + 1 => (xs.getD n 0 * x + ts.getD n 0 + mc x xs ts n) / 18446744073709551616
def ml (x : Int) (xs ts : List Int) (n : Nat) : Int := (xs.getD n 0 * x + ts.getD n 0 + mc x xs ts n) % 18446744073709551616
def dc (x : Int) (ts : List Int) : Nat -> Int
 | 0 => 0
 | n + 1 => (x * tab0.getD n 0 + ts.getD n 0 + dc x ts n) / 18446744073709551616
def dl (x : Int) (ts : List Int) (n : Nat) : Int := (x * tab0.getD n 0 + ts.getD n 0 + dc x ts n) % 18446744073709551616
def qs (x : Int) (xs ts : List Int) : List Int := [ml x xs ts 0, ml x xs ts 1, ml x xs ts 2, ml x xs ts 3]
def top (x : Int) (xs ts : List Int) : Int := ts.getD 4 0 + mc x xs ts 4 + 0
def mm (x : Int) (xs ts : List Int) : Int := um (ml x xs ts 0 * 15183074304973897243)
def top2 (x : Int) (xs ts : List Int) : Int := top x xs ts % 18446744073709551616 + dc (mm x xs ts) (qs x xs ts) 4 + 0
def nxt (x : Int) (xs ts : List Int) : List Int :=
 [dl (mm x xs ts) (qs x xs ts) 1, dl (mm x xs ts) (qs x xs ts) 2, dl (mm x xs ts) (qs x xs ts) 3, top2 x xs ts % 18446744073709551616, um (top x xs ts / 18446744073709551616 + top2 x xs ts / 18446744073709551616)]
noncomputable def rp (is : List Item) (s : St) : Tree Out := runK C5 Tryz.prog (only [7, 16]) 400 is s
noncomputable def sp (a b : List Int) : St := ⟨enterT Tryz.f115 [ws a, ws b], []⟩
noncomputable def Kp : List Item := leftT [] (rp [.code (cd Tryz.f115)] (sp [] []))
def pt (k : Nat) : SV := one (.ptr k 0 0 0 0 0)
noncomputable def stp (a b ts : List Int) (i : Int) : St := ⟨slotsOf 101 [(2, pt 0), (3, pt 1), (4, pt 2), (5, pt 3), (13, one (.int false .i64 i))], [.vals [.ws .u64 4 a], .vals [.ws .u64 4 b], .vals [.ws .u64 4 [0, 0, 0, 0]], .vals [.ws .u64 5 ts]]⟩
theorem p_start (a b : List Int) : pieceT [2, 3, 4, 5, 13] [13] [0, 1, 2, 3] [] (rp [.code (cd Tryz.f115)] (sp a b)) = some ([], Kp, stp a b [0, 0, 0, 0, 0] 0) := by kernel_rfl
theorem p_step (a0 a1 a2 a3 : Int) (b : List Int) (t0 t1 t2 t3 t4 i : Int) : pieceT [2, 3, 4, 5, 13] [13] [0, 1, 2, 3] [true, true, true, true, true, true, true] (rp Kp (stp [a0, a1, a2, a3] b [t0, t1, t2, t3, t4] i)) =
  some ([decide (i < 4), decide (0 <= i /\ i < 4), decide (0 <= i /\ i < 4), decide (0 <= i /\ i < 4), decide (0 <= i /\ i < 4), true, true], Kp,
   stp [a0, a1, a2, a3] b (nxt (b.getD i.toNat 0) [a0, a1, a2, a3] [t0, t1, t2, t3, t4]) (IntKind.i64.wrap (i + 1))) := by kernel_rfl
theorem p_end (a b : List Int) (t0 t1 t2 t3 t4 i : Int) : endT Tryz.prog Tryz.f115 [] [false] (rp Kp (stp a b [t0, t1, t2, t3, t4] i)) =
  some ([decide (i < 4)], .one (ws (limbs (low (val [t0, t1, t2, t3])))), []) := by kernel_rfl
theorem add_mul4 (a b c d x A B C : Int) : (a + A * b + B * c + C * d) * x = a * x + A * (b * x) + B * (c * x) + C * (d * x) := by
 rw [Int.add_mul, Int.add_mul, Int.add_mul, Int.mul_assoc, Int.mul_assoc, Int.mul_assoc]
theorem sr_div {a : Int} (ha : 0 <= a) : 18446744073709551616 * (a / 18446744073709551616) + a % 18446744073709551616 = a /\ 0 <= a / 18446744073709551616 /\ R (a % 18446744073709551616) := by unfold R; omega
theorem sr_nn {p t c : Int} (hp : 0 <= p) (ht : R t) (hc : 0 <= c) : 0 <= p + t + c := by unfold R at ht; omega
theorem sr_first {q m : Int} (hq : R q) (hm : m = q * 15183074304973897243 % 18446744073709551616) : 18446744073709551616 * ((m * 6346243789798364141 + q + 0) / 18446744073709551616) = m * 6346243789798364141 + q /\ 0 <= (m * 6346243789798364141 + q + 0) / 18446744073709551616 /\ R m := by unfold R at *; omega
theorem sr_m {m : Int} (h : R m) : 0 <= m * 1503914060200516822 /\ 0 <= m * 0 /\ 0 <= m * 1152921504606846976 := by unfold R at h; omega
theorem sr_top {t c x : Int} (ht : R t) (hc : 0 <= c) (hx : 0 <= x) : ((t + c) % 18446744073709551616 + x) % 18446744073709551616 + 18446744073709551616 * ((t + c) / 18446744073709551616 + ((t + c) % 18446744073709551616 + x) / 18446744073709551616) = t + c + x /\
  R (((t + c) % 18446744073709551616 + x) % 18446744073709551616) /\ 0 <= (t + c) / 18446744073709551616 + ((t + c) % 18446744073709551616 + x) / 18446744073709551616 := by unfold R at *; omega
theorem sr_key {p0 p1 p2 p3 t0 t1 t2 t3 t4 c1 c2 c3 c4 q0 q1 q2 q3 m x1 x2 x3 x4 y1 y2 y3 v3 v4 : Int} (g1 : 18446744073709551616 * c1 + q0 = p0 + t0) (g2 : 18446744073709551616 * c2 + q1 = p1 + t1 + c1) (g3 : 18446744073709551616 * c3 + q2 = p2 + t2 + c2) (g4 : 18446744073709551616 * c4 + q3 = p3 + t3 + c3)
  (s1 : 18446744073709551616 * x1 = m * 6346243789798364141 + q0) (s2 : 18446744073709551616 * x2 + y1 = m * 1503914060200516822 + q1 + x1) (s3 : 18446744073709551616 * x3 + y2 = m * 0 + q2 + x2) (s4 : 18446744073709551616 * x4 + y3 = m * 1152921504606846976 + q3 + x3) (s5 : v3 + 18446744073709551616 * v4 = t4 + c4 + x4) :
  18446744073709551616 * (y1 + 18446744073709551616 * y2 + 340282366920938463463374607431768211456 * y3 + 6277101735386680763835789423207666416102355444464034512896 * v3 + 115792089237316195423570985008687907853269984665640564039457584007913129639936 * v4) =
   t0 + 18446744073709551616 * t1 + 340282366920938463463374607431768211456 * t2 + 6277101735386680763835789423207666416102355444464034512896 * t3 + 115792089237316195423570985008687907853269984665640564039457584007913129639936 * t4 + (p0 + 18446744073709551616 * p1 + 340282366920938463463374607431768211456 * p2 + 6277101735386680763835789423207666416102355444464034512896 * p3) + m * ell := by
 unfold ell; omega
theorem sr_lt {U T A m : Int} (h : 18446744073709551616 * U = T + A + m * ell) (hT : T < 2 * ell) (hA : A <= (ell - 1) * 18446744073709551615) (hm : R m) : U < 2 * ell := by
 unfold R at hm;unfold ell at *; omega
theorem sr_v4 {y1 y2 y3 v3 v4 : Int} (h : y1 + 18446744073709551616 * y2 + 340282366920938463463374607431768211456 * y3 + 6277101735386680763835789423207666416102355444464034512896 * v3 + 115792089237316195423570985008687907853269984665640564039457584007913129639936 * v4 < 2 * ell) (h1 : R y1) (h2 : R y2) (h3 : R y3) (h4 : R v3) (h5 : 0 <= v4) : v4 = 0 := by
 unfold R at *; unfold ell at h; omega
theorem round_ok {a0 a1 a2 a3 x t0 t1 t2 t3 t4 : Int} (h0 : R a0) (h1 : R a1) (h2 : R a2) (h3 : R a3) (hx : R x) (k0 : R t0) (k1 : R t1) (k2 : R t2) (k3 : R t3) (k4 : R t4)
  (hA : val [a0, a1, a2, a3] < ell) (hT : val [t0, t1, t2, t3] + 115792089237316195423570985008687907853269984665640564039457584007913129639936 * t4 < 2 * ell) :
  ∃ u0 u1 u2 u3 m : Int, nxt x [a0, a1, a2, a3] [t0, t1, t2, t3, t4] = [u0, u1, u2, u3, 0] /\ R u0 /\ R u1 /\ R u2 /\ R u3 /\
   18446744073709551616 * val [u0, u1, u2, u3] = val [t0, t1, t2, t3] + 115792089237316195423570985008687907853269984665640564039457584007913129639936 * t4 + val [a0, a1, a2, a3] * x + m * ell /\ val [u0, u1, u2, u3] < 2 * ell := by
 have b0 := (mul_bits h0 hx).1
 have b1 := (mul_bits h1 hx).1
 have b2 := (mul_bits h2 hx).1
 have b3 := (mul_bits h3 hx).1
 have hAx : val [a0, a1, a2, a3] * x <= (ell - 1) * 18446744073709551615 := by
  have h0 : 0 <= val [a0, a1, a2, a3] := by rw [val4]; unfold R at *; omega
  exact (mul_bound h0 (by omega) hx.1 hx.2).2
 have eA : val [a0, a1, a2, a3] * x = a0 * x + 18446744073709551616 * (a1 * x) + 340282366920938463463374607431768211456 * (a2 * x) + 6277101735386680763835789423207666416102355444464034512896 * (a3 * x) := by rw [val4, add_mul4]
 have e1 : mc x [a0, a1, a2, a3] [t0, t1, t2, t3, t4] 1 = (a0 * x + t0 + 0) / 18446744073709551616 := rfl
 have e2 : mc x [a0, a1, a2, a3] [t0, t1, t2, t3, t4] 2 = (a1 * x + t1 + mc x [a0, a1, a2, a3] [t0, t1, t2, t3, t4] 1) / 18446744073709551616 := rfl
 have e3 : mc x [a0, a1, a2, a3] [t0, t1, t2, t3, t4] 3 = (a2 * x + t2 + mc x [a0, a1, a2, a3] [t0, t1, t2, t3, t4] 2) / 18446744073709551616 := rfl
 have e4 : mc x [a0, a1, a2, a3] [t0, t1, t2, t3, t4] 4 = (a3 * x + t3 + mc x [a0, a1, a2, a3] [t0, t1, t2, t3, t4] 3) / 18446744073709551616 := rfl
 have f1 : ml x [a0, a1, a2, a3] [t0, t1, t2, t3, t4] 0 = (a0 * x + t0 + 0) % 18446744073709551616 := rfl
 have f2 : ml x [a0, a1, a2, a3] [t0, t1, t2, t3, t4] 1 = (a1 * x + t1 + mc x [a0, a1, a2, a3] [t0, t1, t2, t3, t4] 1) % 18446744073709551616 := rfl
 have f3 : ml x [a0, a1, a2, a3] [t0, t1, t2, t3, t4] 2 = (a2 * x + t2 + mc x [a0, a1, a2, a3] [t0, t1, t2, t3, t4] 2) % 18446744073709551616 := rfl
 have f4 : ml x [a0, a1, a2, a3] [t0, t1, t2, t3, t4] 3 = (a3 * x + t3 + mc x [a0, a1, a2, a3] [t0, t1, t2, t3, t4] 3) % 18446744073709551616 := rfl
 obtain ⟨g1, n1, r1⟩ := sr_div (sr_nn b0 k0 (Int.le_refl 0));rw [<- e1, <- f1, Int.add_zero] at g1;rw [<- e1] at n1;rw [<- f1] at r1;obtain ⟨g2, n2, r2⟩ := sr_div (sr_nn b1 k1 n1);rw [<- e2, <- f2] at g2;rw [<- e2] at n2;rw [<- f2] at r2;obtain ⟨g3, n3, r3⟩ := sr_div (sr_nn b2 k2 n2);rw [<- e3, <- f3] at g3;rw [<- e3] at n3;rw [<- f3] at r3;obtain ⟨g4, n4, r4⟩ := sr_div (sr_nn b3 k3 n3);rw [<- e4, <- f4] at g4;rw [<- e4] at n4;rw [<- f4] at r4;have eQ : qs x [a0, a1, a2, a3] [t0, t1, t2, t3, t4] = [ml x [a0, a1, a2, a3] [t0, t1, t2, t3, t4] 0, ml x [a0, a1, a2, a3] [t0, t1, t2, t3, t4] 1, ml x [a0, a1, a2, a3] [t0, t1, t2, t3, t4] 2, ml x [a0, a1, a2, a3] [t0, t1, t2, t3, t4] 3] := rfl
 have eT : top x [a0, a1, a2, a3] [t0, t1, t2, t3, t4] = t4 + mc x [a0, a1, a2, a3] [t0, t1, t2, t3, t4] 4 := Int.add_zero _
 have eM : mm x [a0, a1, a2, a3] [t0, t1, t2, t3, t4] = ml x [a0, a1, a2, a3] [t0, t1, t2, t3, t4] 0 * 15183074304973897243 % 18446744073709551616 := by
  unfold mm um; rw [wrapU]
 have e2T : top2 x [a0, a1, a2, a3] [t0, t1, t2, t3, t4] = top x [a0, a1, a2, a3] [t0, t1, t2, t3, t4] % 18446744073709551616 + dc (mm x [a0, a1, a2, a3] [t0, t1, t2, t3, t4]) (qs x [a0, a1, a2, a3] [t0, t1, t2, t3, t4]) 4 := Int.add_zero _
 have eN : nxt x [a0, a1, a2, a3] [t0, t1, t2, t3, t4] = [dl (mm x [a0, a1, a2, a3] [t0, t1, t2, t3, t4]) (qs x [a0, a1, a2, a3] [t0, t1, t2, t3, t4]) 1, dl (mm x [a0, a1, a2, a3] [t0, t1, t2, t3, t4]) (qs x [a0, a1, a2, a3] [t0, t1, t2, t3, t4]) 2, dl (mm x [a0, a1, a2, a3] [t0, t1, t2, t3, t4]) (qs x [a0, a1, a2, a3] [t0, t1, t2, t3, t4]) 3,
   top2 x [a0, a1, a2, a3] [t0, t1, t2, t3, t4] % 18446744073709551616, um (top x [a0, a1, a2, a3] [t0, t1, t2, t3, t4] / 18446744073709551616 + top2 x [a0, a1, a2, a3] [t0, t1, t2, t3, t4] / 18446744073709551616)] := rfl
 rw [eN, e2T, eT, eQ];clear eN e2T eT eQ e1 e2 e3 e4 f1 f2 f3 f4
 generalize mm x [a0, a1, a2, a3] [t0, t1, t2, t3, t4] = m at *
 generalize ml x [a0, a1, a2, a3] [t0, t1, t2, t3, t4] 0 = q0 at *
 generalize ml x [a0, a1, a2, a3] [t0, t1, t2, t3, t4] 1 = q1 at *
 generalize ml x [a0, a1, a2, a3] [t0, t1, t2, t3, t4] 2 = q2 at *
 generalize ml x [a0, a1, a2, a3] [t0, t1, t2, t3, t4] 3 = q3 at *
 generalize mc x [a0, a1, a2, a3] [t0, t1, t2, t3, t4] 1 = c1 at *
 generalize mc x [a0, a1, a2, a3] [t0, t1, t2, t3, t4] 2 = c2 at *
 generalize mc x [a0, a1, a2, a3] [t0, t1, t2, t3, t4] 3 = c3 at *
 generalize mc x [a0, a1, a2, a3] [t0, t1, t2, t3, t4] 4 = c4 at *
 have d1 : dc m [q0, q1, q2, q3] 1 = (m * 6346243789798364141 + q0 + 0) / 18446744073709551616 := rfl
 have d2 : dc m [q0, q1, q2, q3] 2 = (m * 1503914060200516822 + q1 + dc m [q0, q1, q2, q3] 1) / 18446744073709551616 := rfl
 have d3 : dc m [q0, q1, q2, q3] 3 = (m * 0 + q2 + dc m [q0, q1, q2, q3] 2) / 18446744073709551616 := rfl
 have d4 : dc m [q0, q1, q2, q3] 4 = (m * 1152921504606846976 + q3 + dc m [q0, q1, q2, q3] 3) / 18446744073709551616 := rfl
 have o1 : dl m [q0, q1, q2, q3] 1 = (m * 1503914060200516822 + q1 + dc m [q0, q1, q2, q3] 1) % 18446744073709551616 := rfl
 have o2 : dl m [q0, q1, q2, q3] 2 = (m * 0 + q2 + dc m [q0, q1, q2, q3] 2) % 18446744073709551616 := rfl
 have o3 : dl m [q0, q1, q2, q3] 3 = (m * 1152921504606846976 + q3 + dc m [q0, q1, q2, q3] 3) % 18446744073709551616 := rfl
 generalize dc m [q0, q1, q2, q3] 1 = x1 at *
 generalize dc m [q0, q1, q2, q3] 2 = x2 at *
 generalize dc m [q0, q1, q2, q3] 3 = x3 at *
 generalize dc m [q0, q1, q2, q3] 4 = x4 at *
 generalize dl m [q0, q1, q2, q3] 1 = y1 at *
 generalize dl m [q0, q1, q2, q3] 2 = y2 at *
 generalize dl m [q0, q1, q2, q3] 3 = y3 at *
 obtain ⟨s1, nx1, hmR⟩ := sr_first r1 eM;rw [<- d1] at s1 nx1;obtain ⟨l1, l2, l3⟩ := sr_m hmR;obtain ⟨s2, nx2, ry1⟩ := sr_div (sr_nn l1 r2 nx1);rw [<- d2, <- o1] at s2;rw [<- d2] at nx2;rw [<- o1] at ry1;obtain ⟨s3, nx3, ry2⟩ := sr_div (sr_nn l2 r3 nx2);rw [<- d3, <- o2] at s3;rw [<- d3] at nx3;rw [<- o2] at ry2;obtain ⟨s4, nx4, ry3⟩ := sr_div (sr_nn l3 r4 nx3);rw [<- d4, <- o3] at s4;rw [<- d4] at nx4;rw [<- o3] at ry3;obtain ⟨s5, rv3, hv⟩ := sr_top k4 n4 nx4;unfold um;rw [wrapU]
 generalize ((t4 + c4) % 18446744073709551616 + x4) % 18446744073709551616 = v3 at *
 generalize (t4 + c4) / 18446744073709551616 + ((t4 + c4) % 18446744073709551616 + x4) / 18446744073709551616 = v4 at *
 have key := sr_key g1 g2 g3 g4 s1 s2 s3 s4 s5
 rw [<- eA] at key;have hlt := sr_lt key (by rw [val4] at hT; exact hT) hAx hmR
 have hv4 := sr_v4 hlt ry1 ry2 ry3 rv3 hv
 subst hv4;refine ⟨y1, y2, y3, v3, m, rfl, ry1, ry2, ry3, rv3, ?_, ?_⟩
 ·rw [val4, val4];rw [Int.mul_zero, Int.add_zero] at key;exact key
 ·rw [val4];rw [Int.mul_zero, Int.add_zero] at hlt;exact hlt
def rinv : Int := 4458503529701987551646482192314240623644693141688353256590997718326214331684
def redc (a b : Int) : Int := a * b * rinv % ell
def Tproduct (vs : List V1) (hl : Heap) : Tree (SV × Heap) :=
 match vs, hl with
 | [.g [.ws .u64 4 xs], .g [.ws .u64 4 ys]], [] => Tree.chk (decide (val xs < ell)) (.ret (.one (ws (limbs (redc (val xs) (val ys)))), []))
 | _, _ => .fail
theorem low_mod {t : Int} (ht : 0 <= t /\ t < 2 * ell) : low t = t % ell := by
 unfold low;unfold ell at *;split <;> omega
theorem rinv_eq : 115792089237316195423570985008687907853269984665640564039457584007913129639936 * rinv = 1 + ell * 71336056475231800826343715077027849978041630819377026201054086228062141447707 := by rfl
theorem rinv_mul {t : Int} : 115792089237316195423570985008687907853269984665640564039457584007913129639936 * t * rinv = t + ell * (71336056475231800826343715077027849978041630819377026201054086228062141447707 * t) := by
 rw [Int.mul_right_comm, rinv_eq, Int.add_mul, Int.one_mul, Int.mul_assoc]
theorem redc_eq {a b k t : Int} (h1 : (115792089237316195423570985008687907853269984665640564039457584007913129639936 * t) * rinv = (a * b + k * ell) * rinv) (h3 : (a * b + k * ell) * rinv = a * b * rinv + ell * (k * rinv)) :
  a * b * rinv = t + ell * (71336056475231800826343715077027849978041630819377026201054086228062141447707 * t - k * rinv) := by
 rw [Int.mul_sub];have h2 := rinv_mul (t := t)
 generalize ell * (71336056475231800826343715077027849978041630819377026201054086228062141447707 * t) = x at *
 rw [h2, h3] at h1
 generalize a * b * rinv = y at *
 generalize ell * (k * rinv) = z at *
 omega
theorem redc_of {a b t k : Int} (h : 115792089237316195423570985008687907853269984665640564039457584007913129639936 * t = a * b + k * ell) (ht : 0 <= t /\ t < 2 * ell) : low t = redc a b := by
 have h3 : (a * b + k * ell) * rinv = a * b * rinv + ell * (k * rinv) := by
  rw [Int.add_mul]; congr 1;rw [Int.mul_comm k ell, Int.mul_assoc]
 unfold redc;rw [redc_eq (by rw [h]) h3, Int.add_mul_emod_self_left]
 exact low_mod ht
theorem all_rounds {T1 T2 T3 T4 A b0 b1 b2 b3 m1 m2 m3 m4 : Int} (h1 : 18446744073709551616 * T1 = 0 + A * b0 + m1 * ell) (h2 : 18446744073709551616 * T2 = T1 + A * b1 + m2 * ell) (h3 : 18446744073709551616 * T3 = T2 + A * b2 + m3 * ell) (h4 : 18446744073709551616 * T4 = T3 + A * b3 + m4 * ell) :
  115792089237316195423570985008687907853269984665640564039457584007913129639936 * T4 = A * val [b0, b1, b2, b3] + (m1 + 18446744073709551616 * m2 + 340282366920938463463374607431768211456 * m3 + 6277101735386680763835789423207666416102355444464034512896 * m4) * ell := by
 have e : A * val [b0, b1, b2, b3] = A * b0 + 18446744073709551616 * (A * b1) + 340282366920938463463374607431768211456 * (A * b2) + 6277101735386680763835789423207666416102355444464034512896 * (A * b3) := by
  rw [val4, Int.mul_add, Int.mul_add, Int.mul_add, Int.mul_left_comm, Int.mul_left_comm A, Int.mul_left_comm A]
 rw [e, add_mul4]
 generalize A * b0 = p0 at *
 generalize A * b1 = p1 at *
 generalize A * b2 = p2 at *
 generalize A * b3 = p3 at *
 generalize m1 * ell = q1 at *
 generalize m2 * ell = q2 at *
 generalize m3 * ell = q3 at *
 generalize m4 * ell = q4 at *
 omega
theorem val_zero : val [0, 0, 0, 0] = 0 := rfl
theorem R_zero : R 0 := by unfold R; decide
theorem product_runs {a0 a1 a2 a3 b0 b1 b2 b3 : Int} (h0 : R a0) (h1 : R a1) (h2 : R a2) (h3 : R a3) (k0 : R b0) (k1 : R b1) (k2 : R b2) (k3 : R b3) (hA : val [a0, a1, a2, a3] < ell) :
  Runs Tryz.prog C5 Tryz.f115 0 [.code (cd Tryz.f115)] (sp [a0, a1, a2, a3] [b0, b1, b2, b3]) (.one (ws (limbs (redc (val [a0, a1, a2, a3]) (val [b0, b1, b2, b3]))))) [] := by
 refine Runs.piece okC5 mx (p_start _ _) rfl (by rfl) ?_
 obtain ⟨u0, u1, u2, u3, m1, e1, r0, r1, r2, r3, q1, l1⟩ := round_ok h0 h1 h2 h3 k0 R_zero R_zero R_zero R_zero R_zero hA (by rw [val_zero]; unfold ell; decide)
 obtain ⟨v0, v1, v2, v3, m2, e2, s0, s1, s2, s3, q2, l2⟩ := round_ok h0 h1 h2 h3 k1 r0 r1 r2 r3 R_zero hA (by rw [Int.mul_zero, Int.add_zero]; exact l1)
 obtain ⟨w0, w1, w2, w3, m3, e3, t0, t1, t2, t3, q3, l3⟩ := round_ok h0 h1 h2 h3 k2 s0 s1 s2 s3 R_zero hA (by rw [Int.mul_zero, Int.add_zero]; exact l2)
 obtain ⟨x0, x1, x2, x3, m4, e4, y0, y1, y2, y3, q4, l4⟩ := round_ok h0 h1 h2 h3 k3 t0 t1 t2 t3 R_zero hA (by rw [Int.mul_zero, Int.add_zero]; exact l3)
 rw [val_zero, Int.mul_zero, Int.add_zero] at q1;rw [Int.mul_zero, Int.add_zero] at q2 q3 q4;have p1 := p_step a0 a1 a2 a3 [b0, b1, b2, b3] 0 0 0 0 0 0
 rw [show ([b0, b1, b2, b3] : List Int).getD (Int.toNat 0) 0 = b0 from rfl, e1, show IntKind.i64.wrap (0 + 1) = 1 from rfl] at p1
 refine Runs.piece okC5 mx p1 rfl (by rfl) ?_
 have p2 := p_step a0 a1 a2 a3 [b0, b1, b2, b3] u0 u1 u2 u3 0 1
 rw [show ([b0, b1, b2, b3] : List Int).getD (Int.toNat 1) 0 = b1 from rfl, e2, show IntKind.i64.wrap (1 + 1) = 2 from rfl] at p2
 refine Runs.piece okC5 mx p2 rfl (by rfl) ?_
 have p3 := p_step a0 a1 a2 a3 [b0, b1, b2, b3] v0 v1 v2 v3 0 2
 rw [show ([b0, b1, b2, b3] : List Int).getD (Int.toNat 2) 0 = b2 from rfl, e3, show IntKind.i64.wrap (2 + 1) = 3 from rfl] at p3
 refine Runs.piece okC5 mx p3 rfl (by rfl) ?_
 have p4 := p_step a0 a1 a2 a3 [b0, b1, b2, b3] w0 w1 w2 w3 0 3
 rw [show ([b0, b1, b2, b3] : List Int).getD (Int.toNat 3) 0 = b3 from rfl, e4, show IntKind.i64.wrap (3 + 1) = 4 from rfl] at p4
 refine Runs.piece okC5 mx p4 rfl (by rfl) ?_
 have p5 := p_end [a0, a1, a2, a3] [b0, b1, b2, b3] x0 x1 x2 x3 0 4
 have hr := redc_of (all_rounds q1 q2 q3 q4) ⟨by rw [val4]; unfold R at y0 y1 y2 y3; clear q1 q2 q3 q4; omega, l4⟩
 rw [hr] at p5;exact Runs.last okC5 mx p5 rfl (by rfl)
theorem ok_product : EntryOk Tryz.prog G0 115 Tproduct := by
 refine EntryOk.runs (S := C5) (fn := Tryz.f115) (c := cd Tryz.f115) (by kernel_rfl) (by kernel_rfl) (by kernel_rfl) (fun vs hl r hl' ok h => ?_)
 unfold Tproduct at h;split at h
 ·rename_i xs ys;obtain ⟨h1, h2⟩ := val_chk h;have hA := ofD h1
  obtain h3 := val_ret h2;obtain ⟨rfl, rfl⟩ := Prod.mk.inj h3;obtain ⟨a, b, c, d, rfl, ha, hb, hc, hd⟩ := okL_get (show okL xs from ok.1.1)
  obtain ⟨a', b', c', d', rfl, ha', hb', hc', hd'⟩ := okL_get (show okL ys from ok.2.1.1)
  exact product_runs ha hb hc hd ha' hb' hc' hd' hA
 ·cases h
noncomputable def C6 : Tab := C5.put 115 0 Tproduct
theorem okC6 : SpecOk Tryz.prog C6 := okC5.put ok_product
theorem mod_bound (n : Int) : 0 <= n % ell /\ n % ell < ell := by unfold ell; omega
theorem val_mod (n : Int) : val (limbs (n % ell)) = n % ell := val_limbs (by have := mod_bound n; unfold ell at *; omega)
def TAdd (vs : List V1) (hl : Heap) : Tree (SV × Heap) :=
 match vs, hl with
 | [.g [.ws .u64 4 xs], .g [.ws .u64 4 ys]], [] => .ret (.one (ws (limbs ((val xs + val ys) % ell))), [])
 | _, _ => .fail
def TSub (vs : List V1) (hl : Heap) : Tree (SV × Heap) :=
 match vs, hl with
 | [.g [.ws .u64 4 xs], .g [.ws .u64 4 ys]], [] => .ret (.one (ws (limbs ((val xs - val ys) % ell))), [])
 | _, _ => .fail
def TMul (vs : List V1) (hl : Heap) : Tree (SV × Heap) :=
 match vs, hl with
 | [.g [.ws .u64 4 xs], .g [.ws .u64 4 ys]], [] => .ret (.one (ws (limbs (val xs * val ys % ell))), [])
 | _, _ => .fail
def TInt (vs : List V1) (hl : Heap) : Tree (SV × Heap) :=
 match vs, hl with
 | [.c (.int _ .u64 n)], [] => .ret (.one (ws [n, 0, 0, 0]), [])
 | _, _ => .fail
def lm (xs : List Int) : List Int := limbs (val xs % ell)
theorem b_Add (xs ys : List Int) : (bodyT C6 Tryz.prog allLoops Tryz.f58 (cd Tryz.f58) [ws xs, ws ys] []).path [] =
  some ([], .one (ws (limbs (low (val (limbs (val (lm xs) + val (lm ys))))))), []) := by kernel_rfl
theorem ok_Add : EntryOk Tryz.prog G0 58 TAdd := by
 refine EntryOk.sub (bodyT_ok okC6 mx (un := allLoops) (fn := Tryz.f58) (c := cd Tryz.f58) (by kernel_rfl) (by kernel_rfl) (by kernel_rfl)) (fun vs hl r ok h => ?_)
 unfold TAdd at h;split at h
 ·rename_i xs ys;obtain rfl := val_ret h;have hp := b_Add xs ys
  have e : low (val (limbs (val (lm xs) + val (lm ys)))) = (val xs + val ys) % ell := by
   unfold lm;rw [val_mod, val_mod];have h1 := mod_bound (val xs)
   have h2 := mod_bound (val ys)
   rw [val_limbs (by unfold ell at *; omega), low_mod (by omega), <- Int.add_emod]
  rw [e] at hp;exact Tree.path_val hp
 ·cases h
theorem b_Sub (xs ys : List Int) : (bodyT C6 Tryz.prog allLoops Tryz.f51 (cd Tryz.f51) [ws xs, ws ys] []).path [true] =
  some ([decide (neg1 (val (lm xs) < val (lm ys)) = 0 \/ neg1 (val (lm xs) < val (lm ys)) = 18446744073709551615)],
   .one (ws (if neg1 (val (lm xs) < val (lm ys)) = 0 then limbs (val (lm xs) - val (lm ys)) else limbs (val (limbs (val (lm xs) - val (lm ys))) + val tab0))), []) := by kernel_rfl
theorem sub_mod {a b : Int} (ha : 0 <= a /\ a < ell) (hb : 0 <= b /\ b < ell) : (if a < b then limbs (val (limbs (a - b)) + ell) else limbs (a - b)) = limbs ((a - b) % ell) := by
 by_cases h : a < b
 ·rw [if_pos h];have e : (a - b) % ell = a - b + ell := by unfold ell at *; omega
  have e2 : limbs (val (limbs (a - b)) + ell) = limbs (a - b + ell) := by
   rw [val_limbs'];unfold limbs;unfold ell at *
   congr 1
   ·omega
   congr 1
   ·omega
   congr 1
   ·omega
   congr 1
   omega
  rw [e, e2]
 ·rw [if_neg h];have e : (a - b) % ell = a - b := by unfold ell at *; omega
  rw [e]
theorem ok_Sub : EntryOk Tryz.prog G0 51 TSub := by
 refine EntryOk.sub (bodyT_ok okC6 mx (un := allLoops) (fn := Tryz.f51) (c := cd Tryz.f51) (by kernel_rfl) (by kernel_rfl) (by kernel_rfl)) (fun vs hl r ok h => ?_)
 unfold TSub at h;split at h
 ·rename_i xs ys;obtain rfl := val_ret h;have hp := b_Sub xs ys
  unfold lm at hp;rw [neg1_or, neg1_if, val_tab0, val_mod, val_mod, sub_mod (mod_bound _) (mod_bound _), <- Int.sub_emod] at hp;exact Tree.path_val hp
 ·cases h
theorem b_Mul (xs ys : List Int) : (bodyT C6 Tryz.prog allLoops Tryz.f57 (cd Tryz.f57) [ws xs, ws ys] []).path [true, true] =
  some ([decide (val (lm xs) < ell), decide (val (limbs (redc (val (lm xs)) (val (lm ys)))) < ell)], .one (ws (limbs (redc (val (limbs (redc (val (lm xs)) (val (lm ys))))) (val tab2)))), []) := by kernel_rfl
theorem val_tab2 : val tab2 = 1627715501170711445284395025044413883736156588369414752970002579683115011841 := by decide
theorem r2_eq : 1627715501170711445284395025044413883736156588369414752970002579683115011841 * rinv = 115792089237316195423570985008687907853269984665640564039457584007913129639936 + ell * 1002787027006193005169263912116952179000496417731327443473456661383751921972 := by rfl
theorem emod_mul (u c : Int) : u % ell * c % ell = u * c % ell := by rw [Int.mul_emod, Int.emod_emod_of_dvd _ (Int.dvd_refl _), <- Int.mul_emod]
theorem redc_twice (x y : Int) : redc (redc x y) 1627715501170711445284395025044413883736156588369414752970002579683115011841 = x * y % ell := by
 unfold redc;rw [Int.mul_assoc, emod_mul, r2_eq];have e : x * y * rinv * (115792089237316195423570985008687907853269984665640564039457584007913129639936 + ell * 1002787027006193005169263912116952179000496417731327443473456661383751921972) = x * y + ell * (x * y * 71336056475231800826343715077027849978041630819377026201054086228062141447707 + x * y * rinv * 1002787027006193005169263912116952179000496417731327443473456661383751921972) := by
  have h1 : x * y * rinv * 115792089237316195423570985008687907853269984665640564039457584007913129639936 = x * y + ell * (x * y * 71336056475231800826343715077027849978041630819377026201054086228062141447707) := by
   rw [Int.mul_assoc, Int.mul_comm rinv, rinv_eq, Int.mul_add, Int.mul_one]
   congr 1
   rw [Int.mul_left_comm]
  rw [Int.mul_add, h1, Int.mul_add, Int.add_assoc]
  congr 2
  rw [Int.mul_left_comm]
 rw [e, Int.add_mul_emod_self_left]
theorem redc_bound (x y : Int) : val (limbs (redc x y)) = redc x y /\ redc x y < ell := by
 unfold redc;exact ⟨val_mod _, (mod_bound _).2⟩
theorem ok_Mul : EntryOk Tryz.prog G0 57 TMul := by
 refine EntryOk.sub (bodyT_ok okC6 mx (un := allLoops) (fn := Tryz.f57) (c := cd Tryz.f57) (by kernel_rfl) (by kernel_rfl) (by kernel_rfl)) (fun vs hl r ok h => ?_)
 unfold TMul at h;split at h
 ·rename_i xs ys;obtain rfl := val_ret h;have hp := b_Mul xs ys
  unfold lm at hp;rw [val_mod, val_mod, (redc_bound _ _).1, val_tab2, redc_twice, deT (mod_bound _).2, deT (redc_bound _ _).2, <- Int.mul_emod] at hp;exact Tree.path_val hp
 ·cases h
theorem b_Int (n : Int) : (bodyT C6 Tryz.prog allLoops Tryz.f14 (cd Tryz.f14) [.c (.int false .u64 n)] []).path [] = some ([], .one (ws [n, 0, 0, 0]), []) := by kernel_rfl
theorem ok_Int : EntryOk Tryz.prog G0 14 TInt := by
 refine EntryOk.sub ((bodyT_ok okC6 mx (un := allLoops) (fn := Tryz.f14) (c := cd Tryz.f14) (by kernel_rfl) (by kernel_rfl) (by kernel_rfl)).unlit) (fun vs hl r ok h => ?_)
 unfold TInt at h;split at h
 ·rename_i l n;obtain rfl := val_ret h;exact Tree.path_val (b_Int n)
 ·cases h
noncomputable def C7 : Tab := ((((C6.put 58 0 TAdd).put 51 0 TSub).put 57 0 TMul).put 14 0 TInt)
theorem okC7 : SpecOk Tryz.prog C7 := (((okC6.put ok_Add).put ok_Sub).put ok_Mul).put ok_Int
noncomputable def C8 : Tab := C7
theorem okC8 : SpecOk Tryz.prog C8 := okC7
noncomputable def C9 : Tab := C8
theorem okC9 : SpecOk Tryz.prog C9 := okC8
theorem redc_r2 (x : Int) : redc x 1627715501170711445284395025044413883736156588369414752970002579683115011841 = x * 115792089237316195423570985008687907853269984665640564039457584007913129639936 % ell := by
 unfold redc;rw [Int.mul_assoc, r2_eq, Int.mul_add, Int.mul_left_comm, Int.add_mul_emod_self_left]
noncomputable def C10 : Tab := C9
theorem okC10 : SpecOk Tryz.prog C10 := okC9
theorem bytes_S : Tryz.prog.bytesOf 26 = 32 := by kernel_rfl
theorem wrap64 {x : Int} (h : -9223372036854775808 <= x /\ x < 9223372036854775808) : IntKind.i64.wrap x = x := by rw [IntKind.wrap_i64]; omega
theorem wsucc {k : Nat} (h : k < 1099511627776) : IntKind.i64.wrap ((k : Int) + 1) = ((k + 1 : Nat) : Int) := by rw [wrap64 (by omega)]; omega
theorem lit_int {P : Program} {S : Tab} {fn : Func} {m : Nat} {k : List Item} {s s' : St} {v : SV} {hl : Heap} (l : List Nat) (h : Runs P S fn m k s' v hl) (e : s.unlit l = s') : Runs P S fn m k s v hl := Runs.unlit l (e ▸ h)
noncomputable def C11 : Tab := C10
theorem okC11 : SpecOk Tryz.prog C11 := okC10
end Go.Sc
