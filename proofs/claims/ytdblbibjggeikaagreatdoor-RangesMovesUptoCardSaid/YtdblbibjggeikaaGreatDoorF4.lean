/- Lists of scalars, mixed. -/
import Derived.Test.YtdblbibjggeikaaGreatDoorF3
set_option linter.unusedSectionVars false
set_option linter.unusedVariables false
set_option linter.unusedSimpArgs false
namespace Go.Sc
open Go Go.SX Go.Proofs
variable [Level] [Lone]
def mixE (x y s t : List Int) : List Int := limbs ((val (limbs (val x * val s % ell)) + val (limbs (val y * val t % ell))) % ell)
def TMix1 (vs : List V1) (hl : Heap) : Tree (SV × Heap) :=
 match vs, hl with
 | [.g [.ws .u64 4 s], .g [.ws .u64 4 t], .c (.ptr 0 0 0 0 0 0), .c (.ptr 1 0 0 0 0 0)], [.vals [.ws .u64 4 x], .vals [.ws .u64 4 y]] => .ret (.one (ws (mixE x y s t)), [.vals [.ws .u64 4 x], .vals [.ws .u64 4 y]])
 | _, _ => .fail
theorem mix1_a (s t x y : List Int) : (bodyT L15 Tryz.prog allLoops Tryz.f132 (cd Tryz.f132) [ws s, ws t, .c (.ptr 0 0 0 0 0 0), .c (.ptr 1 0 0 0 0 0)] [.vals [.ws .u64 4 x], .vals [.ws .u64 4 y]]).path [] = some ([], .one (ws (mixE x y s t)), [.vals [.ws .u64 4 x], .vals [.ws .u64 4 y]]) := by kernel_rfl
theorem ok_AMix1 : EntryOk Tryz.prog G0 132 TMix1 := by
 refine EntryOk.sub (bodyT_ok okL15 mx (un := allLoops) (fn := Tryz.f132) (c := cd Tryz.f132) (by kernel_rfl) (by kernel_rfl) (by kernel_rfl)) (fun vs hl r ok h => ?_)
 unfold TMix1 at h;split at h
 ·rename_i s t x y;obtain rfl := val_ret h;exact Tree.path_val (mix1_a s t x y)
 ·cases h
noncomputable def L16 : Tab := L15.put 132 0 TMix1
theorem okL16 : SpecOk Tryz.prog L16 := okL15.put ok_AMix1
noncomputable def prR (k : List Item) (s : St) : Tree Out := runK L16 Tryz.prog noLoops 400 k s
def prFn : Cell := .fn 132 [.ptr 0 0 0 0 0 0, .ptr 1 0 0 0 0 0]
noncomputable def prS (xs : List (List Int)) (n : Nat) (ys : List (List Int)) (m : Nat) (x y : List Int) : St := ⟨enterT Tryz.f131 [.c (.ro WS xs n), .c (.ro WS ys m), .c prFn], [.vals [.ws .u64 4 x], .vals [.ws .u64 4 y]]⟩
noncomputable def prK : List Item := leftT [false, true] (prR [.code (cd Tryz.f131)] (prS [] 0 [] 0 [] []))
noncomputable def prT (xs : List (List Int)) (n : Nat) (ys : List (List Int)) (m : Nat) (x y : List Int) (o : List (List Int)) (i : Int) : St :=
 ⟨slotsOf 38 [(0, one (.ro WS xs n)), (1, one (.ro WS ys m)), (2, one prFn), (8, one (.sl 2 0 n)), (19, one (.int false .i64 n)), (20, one (.int false .i64 i))], [.vals [.ws .u64 4 x], .vals [.ws .u64 4 y], .arr WS o 0 []]⟩
theorem pr_a (xs : List (List Int)) (n : Nat) (ys : List (List Int)) (m : Nat) (x y : List Int) : pieceT [0, 1, 2, 8, 19, 20] [20] [0, 1, 2] [false, true] (prR [.code (cd Tryz.f131)] (prS xs n ys m x y)) =
  some ([(n : Int) != m, decide (0 <= (n : Int) /\ (n : Int) <= n /\ (n : Int) <= 281474976710656 /\ ((Tryz.prog.bytesOf 26 : Nat) : Int) * n <= 281474976710656)], prK, prT xs n ys m x y (List.replicate n zL) (0 : Nat)) := by kernel_rfl
theorem pr_b (xs : List (List Int)) (n : Nat) (ys : List (List Int)) (m : Nat) (x y : List Int) (o : List (List Int)) (i : Nat) : pieceT [0, 1, 2, 8, 19, 20] [20] [0, 1, 2] [true, true, true, true] (prR prK (prT xs n ys m x y o i)) =
  some ([decide ((i : Int) < n), decide (0 <= (i : Int) /\ (i : Int) < n), decide (0 <= (i : Int) /\ (i : Int) < m), decide (0 <= (i : Int) /\ (i : Int) < n)], prK, prT xs n ys m x y (o.set (0 + i) (mixE x y (xs.getD i zL) (ys.getD i zL))) (iw ((i : Int) + 1))) := by kernel_rfl
theorem pr_c (xs : List (List Int)) (n : Nat) (ys : List (List Int)) (m : Nat) (x y : List Int) (o : List (List Int)) (i : Nat) : endT Tryz.prog Tryz.f131 [0, 1, 2] [false] (prR prK (prT xs n ys m x y o i)) = some ([decide ((i : Int) < n)], .tup [.c (.sl 2 0 n), .c (.int true .i64 0)], [.vals [.ws .u64 4 x], .vals [.ws .u64 4 y], .arr WS o 0 []]) := by kernel_rfl
def mixL (x y : List Int) (xs ys : List (List Int)) (n : Nat) : List (List Int) := (List.range n).map fun i => mixE x y (xs.getD i zL) (ys.getD i zL)
def mixP (x y : List Int) (xs ys : List (List Int)) (n k : Nat) : List (List Int) := (List.range n).map fun i => if i < k then mixE x y (xs.getD i zL) (ys.getD i zL) else zL
theorem mixP_0 (x y : List Int) (xs ys : List (List Int)) (n : Nat) : List.replicate n zL = mixP x y xs ys n 0 := by
 rw [<- map_range_const];exact List.map_congr_left fun _ _ => rfl
theorem mixP_next (x y : List Int) (xs ys : List (List Int)) (n k : Nat) : (mixP x y xs ys n k).set k (mixE x y (xs.getD k zL) (ys.getD k zL)) = mixP x y xs ys n (k + 1) := by
 unfold mixP;rw [map_range_set];refine List.map_congr_left fun e _ => ?_
 by_cases he : e = k
 ·subst he;rw [if_pos rfl, if_pos (by omega)]
 ·rw [if_neg he];by_cases hl : e < k
  ·rw [if_pos hl, if_pos (by omega)]
  ·rw [if_neg hl, if_neg (by omega)]
theorem mixP_all (x y : List Int) (xs ys : List (List Int)) (n : Nat) : mixP x y xs ys n n = mixL x y xs ys n := List.map_congr_left fun e he => if_pos (List.mem_range.1 he)
theorem pr_runs {xs ys : List (List Int)} {n : Nat} {x y : List Int} (hn : n <= 1048576) : Runs Tryz.prog L16 Tryz.f131 2 [.code (cd Tryz.f131)] (prS xs n ys n x y) (.tup [.c (.sl 2 0 n), .c (.int true .i64 0)]) [.vals [.ws .u64 4 x], .vals [.ws .u64 4 y], .arr WS (mixL x y xs ys n) 0 []] := by
 have h := pr_a xs n ys n x y
 rw [bneq' rfl, show Tryz.prog.bytesOf 26 = 32 from by kernel_rfl, decide_eq_true (by omega), mixP_0 x y xs ys n] at h
 refine Runs.piece okL16 mx h rfl (by rfl) ?_
 refine loopG (st := fun k (a : List (List Int)) => prT xs n ys n x y a k) (I := fun k a => a = mixP x y xs ys n k) (n := n) (fun k a hk hI => ?_) (fun a hI => ?_) n 0 _ (by omega) rfl
 ·subst hI;have h := pr_b xs n ys n x y (mixP x y xs ys n k) k
  rw [decide_eq_true (show (k : Int) < n by omega), decide_eq_true (show 0 <= (k : Int) /\ (k : Int) < n by omega), Nat.zero_add, mixP_next, iwk (by omega)] at h
  exact ⟨_, rfl, fun hr => Runs.piece okL16 mx h rfl (by rfl) hr⟩
 ·subst hI;rw [<- mixP_all];exact Runs.last okL16 mx (pr_c xs n ys n x y _ n) (by rw [decide_eq_false (by omega)]) (by rfl)
def Tpairs (vs : List V1) (hl : Heap) : Tree (SV × Heap) :=
 match vs, hl with
 | [.c (.ro (.ws .u64 4) xs n), .c (.ro (.ws .u64 4) ys m), .c (.fn 132 [.ptr 0 0 0 0 0 0, .ptr 1 0 0 0 0 0])], [.vals [.ws .u64 4 x], .vals [.ws .u64 4 y]] =>
  Tree.chk (decide (n = m /\ n <= 1048576)) (.ret (.tup [.c (.sl 2 0 n), .c (.int true .i64 0)], [.vals [.ws .u64 4 x], .vals [.ws .u64 4 y], .arr WS (mixL x y xs ys n) 0 []]))
 | _, _ => .fail
theorem ok_Apairs : EntryOk Tryz.prog G0 131 Tpairs := by
 refine EntryOk.runs (S := L16) (fn := Tryz.f131) (c := cd Tryz.f131) (by kernel_rfl) (by kernel_rfl) (by kernel_rfl) (fun vs hl r hl' ok h => ?_)
 unfold Tpairs at h;split at h
 ·rename_i xs n ys m x y;obtain ⟨h1, h2⟩ := val_chk h;obtain ⟨rfl, q⟩ := of_decide_eq_true h1;obtain ⟨rfl, rfl⟩ := Prod.mk.inj (val_ret h2);exact pr_runs q
 ·cases h
noncomputable def L17 : Tab := L16.put 131 1 Tpairs
theorem okL17 : SpecOk Tryz.prog L17 := okL16.put ok_Apairs
noncomputable def mxR (k : List Item) (s : St) : Tree Out := runK L17 Tryz.prog noLoops 400 k s
theorem mix_a (xs : List (List Int)) (n : Nat) (ys : List (List Int)) (m : Nat) (x y : List Int) : endT Tryz.prog Tryz.f89 [2] [true] (mxR [.code (cd Tryz.f89)] ⟨enterT Tryz.f89 [ws x, .c (.ro WS xs n), ws y, .c (.ro WS ys m)], []⟩) =
  some ([decide (n = m /\ n <= 1048576)], .tup [.c (.sl 0 0 n), .c (.int true .i64 0)], [.arr WS (mixL x y xs ys n) 0 []]) := by kernel_rfl
def TMix (vs : List V1) (hl : Heap) : Tree (SV × Heap) :=
 match vs, hl with
 | [.g [.ws .u64 4 x], .c (.ro (.ws .u64 4) xs n), .g [.ws .u64 4 y], .c (.ro (.ws .u64 4) ys m)], [] =>
  Tree.chk (decide (n = m /\ n <= 1048576)) (.ret (.tup [.c (.sl 0 0 n), .c (.int true .i64 0)], [.arr WS (mixL x y xs ys n) 0 []]))
 | _, _ => .fail
theorem ok_AMix : EntryOk Tryz.prog G0 89 TMix := by
 refine EntryOk.runs (S := L17) (fn := Tryz.f89) (c := cd Tryz.f89) (by kernel_rfl) (by kernel_rfl) (by kernel_rfl) (fun vs hl r hl' ok h => ?_)
 unfold TMix at h;split at h
 ·rename_i x xs n y ys m;obtain ⟨h1, h2⟩ := val_chk h;obtain ⟨rfl, rfl⟩ := Prod.mk.inj (val_ret h2);exact Runs.last okL17 mx (mix_a xs n ys m x y) (by rw [h1]) (by rfl)
 ·cases h
noncomputable def L18 : Tab := L17.put 89 3 TMix
theorem okL18 : SpecOk Tryz.prog L18 := okL17.put ok_AMix
noncomputable def atR (k : List Item) (s : St) : Tree Out := runK L18 Tryz.prog noLoops 400 k s
theorem at_a (xs : List (List Int)) (n : Nat) (ys : List (List Int)) (m : Nat) (x : List Int) : endT Tryz.prog Tryz.f75 [2] [true] (atR [.code (cd Tryz.f75)] ⟨enterT Tryz.f75 [.g [.c (.ro WS xs n), .c (.ro WS ys m)], ws x], []⟩) =
  some ([decide (n = m /\ n <= 1048576)], .one (.c (.sl 0 0 n)), [.arr WS (mixL [1, 0, 0, 0] x xs ys n) 0 []]) := by kernel_rfl
def Tratl (vs : List V1) (hl : Heap) : Tree (SV × Heap) :=
 match vs, hl with
 | [.g [.c (.ro (.ws .u64 4) xs n), .c (.ro (.ws .u64 4) ys m)], .g [.ws .u64 4 x]], [] =>
  Tree.chk (decide (n = m /\ n <= 1048576)) (.ret (.one (.c (.sl 0 0 n)), [.arr WS (mixL [1, 0, 0, 0] x xs ys n) 0 []]))
 | _, _ => .fail
theorem ok_ratl : EntryOk Tryz.prog G0 75 Tratl := by
 refine EntryOk.runs (S := L18) (fn := Tryz.f75) (c := cd Tryz.f75) (by kernel_rfl) (by kernel_rfl) (by kernel_rfl) (fun vs hl r hl' ok h => ?_)
 unfold Tratl at h;split at h
 ·rename_i xs n ys m x;obtain ⟨h1, h2⟩ := val_chk h;obtain ⟨rfl, rfl⟩ := Prod.mk.inj (val_ret h2);exact Runs.last okL18 mx (at_a xs n ys m x) (by rw [h1]) (by rfl)
 ·cases h
noncomputable def L19 : Tab := L18.put 75 5 Tratl
theorem okL19 : SpecOk Tryz.prog L19 := okL18.put ok_ratl
def mkH (l : Bool) (ph : Int) (m : MiA) (k : Nat) (v : Vw) (lc rc rd : List (List Int)) : Heap := [.vals (prG l ph m (.sl 6 0 k) (.sl 2 0 m.n1) (.sl 7 0 k) (.sl 8 0 k) v .nils .nils)] ++ mLs m ++ [.arr WS lc 0 [], .arr WS rc 0 [], .arr WS rd 0 []]
noncomputable def fnR (k : List Item) (s : St) : Tree Out := runK L19 Tryz.prog noLoops 400 k s
noncomputable def fnS (m : MiA) (k : Nat) (v : Vw) (lc rc rd : List (List Int)) (x : List Int) : St := ⟨enterT Tryz.f21 [.c (.ptr 0 0 0 0 0 0), ws x], mkH false 2 m k v lc rc rd⟩
noncomputable def fnK : List Item := leftT [false, false, false, true, true, true] (fnR [.code (cd Tryz.f21)] (fnS mi0 0 vw0 [] [] [] []))
noncomputable def fnT (m : MiA) (k : Nat) (v : Vw) (lc rc rd : List (List Int)) (x : List Int) (u : Vw) (L R : List (List Int)) (z : List Int) (i : Int) : St :=
 ⟨slotsOf 125 [(0, pt 0), (3, pt 9), (4, pt 10), (5, one (.int false .i64 0)), (6, pt 11), (7, pt 14), (102, one (.sl 4 0 m.n3)), (103, one (.int false .i64 m.n3)), (104, one (.int false .i64 i))],
  mkH false 2 m k v lc rc rd ++ [.vals [.ws .u64 4 x], .vals (vwF vw0 .nils .nils), .vals (vwF u (.sl 12 0 k) (.sl 13 0 k)), .arr WS L 0 [], .arr WS R 0 [], .vals [.ws .u64 4 z]]⟩
section
variable (m : MiA) (k i : Nat) (v u : Vw) (lc rc rd : List (List Int)) (x z : List Int) (L R : List (List Int))
def fnV (m : MiA) (v : Vw) (x : List Int) (L R : List (List Int)) (k : Nat) : Vw :=
 { v with X := limbs (val x % ell), Tx := limbs ((val (limbs (val m.t1 * val x % ell)) + val (limbs (val (limbs (val m.t2 * val x % ell)) * val x % ell))) % ell), Mu := limbs ((val m.a + val (limbs (val m.r * val x % ell))) % ell), Th := limbs (inn L R k % ell) }
theorem fn_n (x : List Int) : endT Tryz.prog Tryz.f21 [] [] (fnR [.code (cd Tryz.f21)] ⟨enterT Tryz.f21 [.c .nilp, ws x], []⟩) = some ([], .tup [.g (vwF vw0 .nils .nils), .c (.int true .i64 1)], []) := by kernel_rfl
theorem fn_x : endT Tryz.prog Tryz.f21 (List.range 9) [false, false, true] (fnR [.code (cd Tryz.f21)] (fnS m k v lc rc rd x)) = some ([false, false, decide (val x % ell = 0)], .tup [.g (vwF vw0 .nils .nils), .c (.int true .i64 4)], mkH false 2 m k v lc rc rd) := by kernel_rfl
theorem fn_a : pieceT [0, 3, 4, 5, 6, 7, 102, 103, 104] [5, 104] [0, 1, 2, 3, 4, 5, 6, 7, 8, 9, 10, 11, 12, 17, 22] [false, false, false, true, true, true] (fnR [.code (cd Tryz.f21)] (fnS m k v lc rc rd x)) =
  some ([false, false, decide (val x % ell = 0), decide (k = m.n1 /\ k <= 1048576), decide (k = k /\ k <= 1048576), decide (k = k /\ k <= 1048576)], fnK,
   fnT m k v lc rc rd x (fnV m v x ((mixL [1, 0, 0, 0] x (lc.drop 0) (m.SL.drop 0) k).drop 0) ((mixL [1, 0, 0, 0] x (rc.drop 0) (rd.drop 0) k).drop 0) k) (mixL [1, 0, 0, 0] x (lc.drop 0) (m.SL.drop 0) k) (mixL [1, 0, 0, 0] x (rc.drop 0) (rd.drop 0) k) (limbs (val v.Z * val v.Z % ell)) (0 : Nat)) := by kernel_rfl
theorem fn_b : pieceT [0, 3, 4, 5, 6, 7, 102, 103, 104] [5, 104] [0, 1, 2, 3, 4, 5, 6, 7, 8, 9, 10, 11, 12, 13, 14] [true, true] (fnR fnK (fnT m k v lc rc rd x u L R z i)) =
  some ([decide ((i : Int) < m.n3), decide (0 <= (i : Int) /\ (i : Int) < m.n3)], fnK, fnT m k v lc rc rd x { u with Tx := limbs ((val u.Tx + val (limbs (val z * val (opB m.VS (0 + i)) % ell))) % ell) } L R (limbs (val z * val u.Z % ell)) (iw ((i : Int) + 1))) := by kernel_rfl
theorem fn_e : endT Tryz.prog Tryz.f21 [0, 1, 2, 3, 4, 5, 6, 7, 8, 12, 13] [false] (fnR fnK (fnT m k v lc rc rd x u L R z i)) =
  some ([decide ((i : Int) < m.n3)], .tup [.g (vwF u (.sl 9 0 k) (.sl 10 0 k)), .c (.int true .i64 0)], mkH true 3 m k v lc rc rd ++ [.arr WS L 0 [], .arr WS R 0 []]) := by kernel_rfl
end
end Go.Sc
