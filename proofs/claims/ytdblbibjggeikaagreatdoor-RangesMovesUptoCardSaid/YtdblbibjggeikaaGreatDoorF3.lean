/- Scalars' inner products; is a scalar 0? -/
import Derived.Test.YtdblbibjggeikaaGreatDoorF2
set_option linter.unusedSectionVars false
set_option linter.unusedVariables false
set_option linter.unusedSimpArgs false
namespace Go.Sc
open Go Go.SX Go.Proofs
variable [Level] [Lone]
def TIsZ (vs : List V1) (hl : Heap) : Tree (SV × Heap) :=
 match vs, hl with
 | [.g [.ws .u64 4 xs]], [] => .ret (.one (.c (.bool false (decide (val xs % ell = 0)))), [])
 | _, _ => .fail
theorem IsZ_b (xs : List Int) : (bodyT L14 Tryz.prog allLoops Tryz.f19 (cd Tryz.f19) [ws xs] []).path [] = some ([], .one (.c (.bool false (limbs (val xs % ell) == [0, 0, 0, 0] && true))), []) := by kernel_rfl
theorem ok_IsZ : EntryOk Tryz.prog G0 19 TIsZ := by
 refine EntryOk.sub (bodyT_ok okL14 mx (un := allLoops) (fn := Tryz.f19) (c := cd Tryz.f19) (by kernel_rfl) (by kernel_rfl) (by kernel_rfl)) (fun vs hl r ok h => ?_)
 unfold TIsZ at h;split at h
 ·rename_i xs;obtain rfl := val_ret h;have hp := IsZ_b xs
  rw [isZero_eq (okL_limbs _), val_mod] at hp;exact Tree.path_val hp
 ·cases h
noncomputable def inR (k : List Item) (s : St) : Tree Out := runK L14 Tryz.prog noLoops 400 k s
noncomputable def inS (xs : List (List Int)) (n : Nat) (ys : List (List Int)) (m : Nat) : St := ⟨enterT Tryz.f59 [.c (.ro WS xs n), .c (.ro WS ys m)], []⟩
noncomputable def inK : List Item := leftT [false] (inR [.code (cd Tryz.f59)] (inS [] 0 [] 0))
noncomputable def inT (xs : List (List Int)) (n : Nat) (ys : List (List Int)) (m : Nat) (o : List Int) (i : Int) : St := ⟨slotsOf 34 [(1, one (.ro WS ys m)), (4, pt 0), (5, one (.int false .i64 0)), (6, pt 1), (15, one (.ro WS xs n)), (16, one (.int false .i64 n)), (17, one (.int false .i64 i))], [.vals [.ws .u64 4 zL], .vals [.ws .u64 4 o]]⟩
theorem in_a (xs : List (List Int)) (n : Nat) (ys : List (List Int)) (m : Nat) : pieceT [1, 4, 5, 6, 15, 16, 17] [5, 17] [0, 1] [false] (inR [.code (cd Tryz.f59)] (inS xs n ys m)) = some ([(n : Int) != m], inK, inT xs n ys m zL (0 : Nat)) := by kernel_rfl
theorem in_b (xs : List (List Int)) (n : Nat) (ys : List (List Int)) (m : Nat) (o : List Int) (i : Nat) : pieceT [1, 4, 5, 6, 15, 16, 17] [5, 17] [0, 1] [true, true, true] (inR inK (inT xs n ys m o i)) =
  some ([decide ((i : Int) < n), decide (0 <= (i : Int) /\ (i : Int) < n), decide (0 <= (i : Int) /\ (i : Int) < m)], inK, inT xs n ys m (limbs ((val o + val (limbs (val (xs.getD i zL) * val (ys.getD i zL) % ell))) % ell)) (iw ((i : Int) + 1))) := by kernel_rfl
theorem in_c (xs : List (List Int)) (n : Nat) (ys : List (List Int)) (m : Nat) (o : List Int) (i : Nat) : endT Tryz.prog Tryz.f59 [] [false] (inR inK (inT xs n ys m o i)) = some ([decide ((i : Int) < n)], .tup [ws o, .c (.int true .i64 0)], []) := by kernel_rfl
def inn (xs ys : List (List Int)) (n : Nat) : Int := sumN (fun i => val (xs.getD i zL) * val (ys.getD i zL)) n
theorem in_runs {xs ys : List (List Int)} {n : Nat} (hn : n <= 1048576) : Runs Tryz.prog L14 Tryz.f59 0 [.code (cd Tryz.f59)] (inS xs n ys n) (.tup [ws (limbs (inn xs ys n % ell)), .c (.int true .i64 0)]) [] := by
 have h := in_a xs n ys n
 rw [bneq' rfl] at h;refine Runs.piece okL14 mx h rfl (by rfl) ?_
 refine loopG (st := fun k (a : List Int) => inT xs n ys n a k) (I := fun k a => a = limbs (inn xs ys k % ell)) (n := n) (fun k a hk hI => ?_) (fun a hI => ?_) n 0 zL (by omega) rfl
 ·subst hI;have h := in_b xs n ys n (limbs (inn xs ys k % ell)) k
  rw [decide_eq_true (show (k : Int) < n by omega), decide_eq_true (show 0 <= (k : Int) /\ (k : Int) < n by omega), iwk (by omega), val_mod, val_mod, <- Int.add_emod] at h
  exact ⟨_, rfl, fun hr => Runs.piece okL14 mx h rfl (by rfl) hr⟩
 ·subst hI;exact Runs.last okL14 mx (in_c xs n ys n _ n) (by rw [decide_eq_false (by omega)]) (by rfl)
def TInner (vs : List V1) (hl : Heap) : Tree (SV × Heap) :=
 match vs, hl with
 | [.c (.ro (.ws .u64 4) xs n), .c (.ro (.ws .u64 4) ys m)], [] => Tree.chk (decide (n = m /\ n <= 1048576)) (.ret (.tup [ws (limbs (inn xs ys n % ell)), .c (.int true .i64 0)], []))
 | _, _ => .fail
theorem ok_AInner : EntryOk Tryz.prog G0 59 TInner := by
 refine EntryOk.runs (S := L14) (fn := Tryz.f59) (c := cd Tryz.f59) (by kernel_rfl) (by kernel_rfl) (by kernel_rfl) (fun vs hl r hl' ok h => ?_)
 unfold TInner at h;split at h
 ·rename_i xs n ys m;obtain ⟨h1, h2⟩ := val_chk h;obtain ⟨rfl, q⟩ := of_decide_eq_true h1;obtain ⟨rfl, rfl⟩ := Prod.mk.inj (val_ret h2);exact in_runs q
 ·cases h
noncomputable def L15 : Tab := (L14.put 19 0 TIsZ).put 59 0 TInner
theorem okL15 : SpecOk Tryz.prog L15 := (okL14.put ok_IsZ).put ok_AInner
structure MiA where
 B : List Int
 D : List Int
 Q : List Int
 gs : List PL.den
 hs : List PL.den
 ng : Nat
 nh : Nat
 b : Int
 c : Int
 a : List Int
 r : List Int
 t1 : List Int
 t2 : List Int
 n1 : Nat
 n2 : Nat
 n3 : Nat
 SL : List (List Int)
 SR : List (List Int)
 VS : OpT
 k : Nat
 bits : List (List Int)
 v : Vw
def mi0 : MiA := ⟨[], [], [], [], [], 0, 0, 0, 0, [], [], [], [], 0, 0, 0, [], [], [], 0, [], vw0⟩
def prG (l : Bool) (ph : Int) (m : MiA) (lc ld rc rd : Cell) (v : Vw) (L R : Cell) : List FCell :=
 [.c (.int l .i64 ph), .c (.int false .i64 m.b), .c (.int false .i64 m.c), .ws .u64 4 m.a, .ws .u64 4 m.r, .ws .u64 4 m.t1, .ws .u64 4 m.t2, .c (.sl 2 0 m.n1), .c (.sl 3 0 m.n2), .c (.sl 4 0 m.n3), .c (.sl 5 0 m.k), .c lc, .c ld, .c rc, .c rd] ++ vwF v L R ++ [.c (.fn 48 [.ptr 1 0 0 0 0 0])]
def mgB (m : MiA) : Blk := .vals (gSet m.B m.D m.Q m.gs m.hs m.ng m.nh)
def mLs (m : MiA) : Heap := [mgB m, .arr WS m.SL 0 [], .arr WS m.SR 0 [], .arr OP m.VS 0 [], .arr WS m.bits 0 []]
def miP (l : Bool) (m : MiA) : List FCell := prG l 1 m .nils .nils .nils .nils m.v .nils .nils
def miH (l : Bool) (m : MiA) : Heap := .vals (miP l m) :: mLs m
noncomputable def miS (l : Bool) (m : MiA) (y z : List Int) : St := ⟨enterT Tryz.f13 [.c (.ptr 0 0 0 0 0 0), ws y, ws z], miH l m⟩
noncomputable def miR (k : List Item) (s : St) : Tree Out := runK L15 Tryz.prog noLoops 400 k s
noncomputable def miK : List Item := leftT [false, false, true, false, true] (miR [.code (cd Tryz.f13)] (miS false mi0 [] []))
def miSl (k N M : Nat) : List (Nat × SV) := [(0, pt 0), (4, pt 6), (5, pt 7), (6, pt 8), (7, one (.int false .i64 0)), (8, one (.sl 9 0 N)), (9, one (.sl 10 0 M)), (57, one (.sl 5 0 k)), (58, one (.int false .i64 k))]
noncomputable def miT (m : MiA) (y z : List Int) (N M : Nat) (ys ss : List (List Int)) (lc rc rd : Cell) (h : Heap) (i : Int) : St :=
 ⟨slotsOf 231 (miSl m.k N M ++ [(59, one (.int false .i64 i))]), [.vals (prG false 1 m lc .nils rc rd m.v .nils .nils)] ++ mLs m ++ [.vals [.ws .u64 4 y], .vals [.ws .u64 4 z], .vals (vwF vw0 .nils .nils), .arr WS ys 0 [], .arr WS ss 0 []] ++ h⟩
noncomputable def miW (m : MiA) (y z : List Int) (N M : Nat) (ys ss : List (List Int)) (k : Nat) (lc rc rd : List (List Int)) (i : Int) : St :=
 miT m y z N M ys ss (.sl 11 0 k) (.sl 12 0 k) (.sl 13 0 k) [.arr WS lc 0 [], .arr WS rc 0 [], .arr WS rd 0 []] i
def lcE (m : MiA) (z : List Int) (i : Nat) : List Int := limbs ((val (m.bits.getD i zL) - val z) % ell)
def rcE (m : MiA) (z : List Int) (ys ss : List (List Int)) (i : Nat) : List Int := limbs ((val (limbs (val (ys.getD i zL) * val (limbs ((val (limbs ((val (m.bits.getD i zL) - 1) % ell)) + val z) % ell)) % ell)) + val (ss.getD i zL)) % ell)
def rdE (m : MiA) (ys : List (List Int)) (i : Nat) : List Int := limbs (val (ys.getD i zL) * val (m.SR.getD i zL) % ell)
section
variable (m : MiA) (y z : List Int) (N M : Nat) (ys ss : List (List Int)) (k i : Nat) (lc rc rd : List (List Int))
theorem mi_n (y z : List Int) : endT Tryz.prog Tryz.f13 [] [] (miR [.code (cd Tryz.f13)] ⟨enterT Tryz.f13 [.c .nilp, ws y, ws z], []⟩) = some ([], .tup [.g (vwF vw0 .nils .nils), .c (.int true .i64 1)], []) := by kernel_rfl
theorem mi_x : endT Tryz.prog Tryz.f13 (List.range 6) [false, false, false] (miR [.code (cd Tryz.f13)] (miS false m y z)) = some ([false, false, decide (val y % ell = 0) == false], .tup [.g (vwF vw0 .nils .nils), .c (.int true .i64 4)], miH false m) := by kernel_rfl
theorem mi_y : endT Tryz.prog Tryz.f13 (List.range 6) [false, false, true, true] (miR [.code (cd Tryz.f13)] (miS false m y z)) = some ([false, false, decide (val y % ell = 0) == false, decide (val z % ell = 0)], .tup [.g (vwF vw0 .nils .nils), .c (.int true .i64 4)], miH false m) := by kernel_rfl
theorem mi_a : pieceT [0, 4, 5, 6, 7, 8, 9, 57, 58, 59] [7, 59] (List.range 11) [false, false, true, false, true] (miR [.code (cd Tryz.f13)] (miS false m y z)) =
  some ([false, false, decide (val y % ell = 0) == false, decide (val z % ell = 0), alw m.b m.c], miK, miT m y z (m.b.toNat * m.c.toNat) (stepL (val z) m.b.toNat m.c.toNat).length (powL (val y) (m.b.toNat * m.c.toNat)) (stepL (val z) m.b.toNat m.c.toNat) .nils .nils .nils [] (0 : Nat)) := by kernel_rfl
theorem mi_b0 : pieceT [0, 4, 5, 6, 7, 8, 9, 57, 58, 59] [59] [0, 1, 2, 3, 4, 5, 6, 7, 8, 9, 10, 13, 15, 17] [true, true, true, true, true, true, true, true, true] (miR miK (miT m y z N M ys ss .nils .nils .nils [] (0 : Nat))) =
  some ([decide (((0 : Nat) : Int) < m.k), decide (0 <= ((0 : Nat) : Int) /\ ((0 : Nat) : Int) < m.k), true, decide (0 <= ((0 : Nat) : Int) /\ ((0 : Nat) : Int) < N), decide (0 <= ((0 : Nat) : Int) /\ ((0 : Nat) : Int) < M), true, decide (0 <= ((0 : Nat) : Int) /\ ((0 : Nat) : Int) < N), decide (0 <= ((0 : Nat) : Int) /\ ((0 : Nat) : Int) < m.n2), true], miK,
   miW m y z N M ys ss 1 [lcE m z 0] [rcE m z ys ss 0] [rdE m ys 0] (1 : Nat)) := by kernel_rfl
theorem mi_b : pieceT [0, 4, 5, 6, 7, 8, 9, 57, 58, 59] [59] [0, 1, 2, 3, 4, 5, 6, 7, 8, 9, 10, 16, 18, 20] [true, true, true, true, true, true, true, true, true] (miR miK (miW m y z N M ys ss k lc rc rd i)) =
  some ([decide ((i : Int) < m.k), decide (0 <= (i : Int) /\ (i : Int) < m.k), decide (k = lc.length) && roomW (k + 1), decide (0 <= (i : Int) /\ (i : Int) < N), decide (0 <= (i : Int) /\ (i : Int) < M), decide (k = rc.length) && roomW (k + 1), decide (0 <= (i : Int) /\ (i : Int) < N), decide (0 <= (i : Int) /\ (i : Int) < m.n2), decide (k = rd.length) && roomW (k + 1)], miK,
   miW m y z N M ys ss (k + 1) (lc ++ [lcE m z (0 + i)]) (rc ++ [rcE m z ys ss (0 + i)]) (rd ++ [rdE m ys (0 + i)]) (iw ((i : Int) + 1))) := by kernel_rfl
def miV (m : MiA) (y z : List Int) (lc rc rd : List (List Int)) (k : Nat) : Vw :=
 { m.v with T1 := limbs (comS m.B m.D (limbs ((val (limbs (inn lc rd k % ell)) + val (limbs (inn m.SL rc m.n1 % ell))) % ell)) m.t1 % ell), T2 := limbs (comS m.B m.D (limbs (inn m.SL rd m.n1 % ell)) m.t2 % ell), Y := limbs (val y % ell), Z := limbs (val z % ell) }
def mjH (m : MiA) (k : Nat) (v : Vw) (lc rc rd : List (List Int)) : Heap := [.vals (prG true 2 m (.sl 6 0 k) (.sl 2 0 m.n1) (.sl 7 0 k) (.sl 8 0 k) v .nils .nils)] ++ mLs m ++ [.arr WS lc 0 [], .arr WS rc 0 [], .arr WS rd 0 []]
theorem mi_e : endT Tryz.prog Tryz.f13 [0, 1, 2, 3, 4, 5, 11, 12, 13] [false, true, true, true] (miR miK (miW m y z N M ys ss k lc rc rd i)) =
  some ([decide ((i : Int) < m.k), decide (k = k /\ k <= 1048576), decide (m.n1 = k /\ m.n1 <= 1048576), decide (m.n1 = k /\ m.n1 <= 1048576)], .tup [.g (vwF (miV { m with SL := m.SL.drop 0 } y z (lc.drop 0) (rc.drop 0) (rd.drop 0) k) .nils .nils), .c (.int true .i64 0)], mjH m k (miV { m with SL := m.SL.drop 0 } y z (lc.drop 0) (rc.drop 0) (rd.drop 0) k) lc rc rd) := by kernel_rfl
end
structure MiOk (m : MiA) : Prop where
 al : alw m.b m.c = true
 k : (m.k : Int) = m.b * m.c
 n1 : m.n1 = m.k
 n2 : m.n2 = m.k
def ysL (m : MiA) (y : List Int) : List (List Int) := powL (val y) (m.b.toNat * m.c.toNat)
def ssL (m : MiA) (z : List Int) : List (List Int) := stepL (val z) m.b.toNat m.c.toNat
def lcL (m : MiA) (z : List Int) (k : Nat) : List (List Int) := (List.range k).map (lcE m z)
def rcL (m : MiA) (y z : List Int) (k : Nat) : List (List Int) := (List.range k).map (rcE m z (ysL m y) (ssL m z))
def rdL (m : MiA) (y : List Int) (k : Nat) : List (List Int) := (List.range k).map (rdE m (ysL m y))
def miVw (m : MiA) (y z : List Int) : Vw := miV m y z (lcL m z m.k) (rcL m y z m.k) (rdL m y m.k) m.k
def miHeap (m : MiA) (y z : List Int) : Heap := mjH m m.k (miVw m y z) (lcL m z m.k) (rcL m y z m.k) (rdL m y m.k)
abbrev RM (k : List Item) (s : St) (v : SV) (h : Heap) : Prop := Runs Tryz.prog L15 Tryz.f13 6 k s v h
theorem mi_runs {m : MiA} (ho : MiOk m) {y z : List Int} (hy : val y % ell ≠ 0) (hz : val z % ell ≠ 0) : RM [.code (cd Tryz.f13)] (miS false m y z) (.tup [.g (vwF (miVw m y z) .nils .nils), .c (.int true .i64 0)]) (miHeap m y z) := by
 obtain ⟨m1, m2, m3⟩ := alw_mul ho.al;obtain ⟨⟨b1, b2⟩, c1, c2⟩ := alw_of ho.al;have hk := ho.k
 have hN : m.b.toNat * m.c.toNat = m.k := by
  have : ((m.b.toNat * m.c.toNat : Nat) : Int) = m.k := by rw [Int.natCast_mul, Int.toNat_of_nonneg (by omega), Int.toNat_of_nonneg (by omega), hk]
  omega
 have hS : (stepL (val z) m.b.toNat m.c.toNat).length = m.k := by rw [stepL_len, Nat.mul_comm, hN]
 have h := mi_a m y z
 rw [decide_eq_false hy, decide_eq_false hz, ho.al, hS, hN] at h;rw [<- hN] at h;rw [show powL (val y) (m.b.toNat * m.c.toNat) = ysL m y from rfl, show stepL (val z) m.b.toNat m.c.toNat = ssL m z from rfl, hN] at h
 refine Runs.piece okL15 mx h rfl (by rfl) ?_
 have h := mi_b0 m y z m.k m.k (ysL m y) (ssL m z)
 have hn2 := ho.n2
 have hn1 := ho.n1
 rw [decide_eq_true (show ((0 : Nat) : Int) < m.k by omega), decide_eq_true (show 0 <= ((0 : Nat) : Int) /\ ((0 : Nat) : Int) < m.k by omega), decide_eq_true (show 0 <= ((0 : Nat) : Int) /\ ((0 : Nat) : Int) < m.n2 by omega)] at h
 refine Runs.piece okL15 mx h rfl (by rfl) ?_
 refine loopG (st := fun k (a : List (List Int) × List (List Int) × List (List Int)) => miW m y z m.k m.k (ysL m y) (ssL m z) k a.1 a.2.1 a.2.2 k) (I := fun k a => a = (lcL m z k, rcL m y z k, rdL m y k)) (n := m.k) (fun k a hk hI => ?_) (fun a hI => ?_) (m.k - 1) 1 ([lcE m z 0], [rcE m z (ysL m y) (ssL m z) 0], [rdE m (ysL m y) 0]) (by omega) rfl
 ·subst hI;have h := mi_b m y z m.k m.k (ysL m y) (ssL m z) k k (lcL m z k) (rcL m y z k) (rdL m y k)
  rw [Nat.zero_add, decide_eq_true (show (k : Int) < m.k by omega), decide_eq_true (show 0 <= (k : Int) /\ (k : Int) < m.k by omega), decide_eq_true (show 0 <= (k : Int) /\ (k : Int) < m.n2 by omega), decide_eq_true (show k = (lcL m z k).length from (map_range_len (lcE m z) k).symm), decide_eq_true (show k = (rcL m y z k).length from (map_range_len (rcE m z (ysL m y) (ssL m z)) k).symm), decide_eq_true (show k = (rdL m y k).length from (map_range_len (rdE m (ysL m y)) k).symm), roomWk (by omega), iwk (by omega)] at h
  refine ⟨(lcL m z k ++ [lcE m z k], rcL m y z k ++ [rcE m z (ysL m y) (ssL m z) k], rdL m y k ++ [rdE m (ysL m y) k]), Prod.ext (map_range_snoc (lcE m z) k) (Prod.ext (map_range_snoc (rcE m z (ysL m y) (ssL m z)) k) (map_range_snoc (rdE m (ysL m y)) k)), fun hr => Runs.piece okL15 mx h rfl (by rfl) hr⟩
 subst hI;have h := mi_e m y z m.k m.k (ysL m y) (ssL m z) m.k m.k (lcL m z m.k) (rcL m y z m.k) (rdL m y m.k)
 rw [decide_eq_false (by omega), decide_eq_true (show m.k = m.k /\ m.k <= 1048576 by omega), decide_eq_true (show m.n1 = m.k /\ m.n1 <= 1048576 by omega), List.drop_zero, List.drop_zero, List.drop_zero, List.drop_zero] at h
 exact Runs.last okL15 mx h rfl (by rfl)
end Go.Sc
