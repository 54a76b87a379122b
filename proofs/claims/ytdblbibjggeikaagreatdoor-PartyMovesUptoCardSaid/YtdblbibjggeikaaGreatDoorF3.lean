/- Scalars' inner products; is a scalar 0? -/
import Derived.Test.YtdblbibjggeikaaGreatDoorF2
set_option linter.unusedSectionVars false
set_option linter.unusedVariables false
set_option linter.unusedSimpArgs false
namespace Go.Sc
open Go Go.SX Go.Proofs
variable [Level] [Lone]
def TIsZ (vs : List V1) (hl : Heap) : Tree (SV × Heap) :=
 match vs, hl with
 | [.g [.ws .u64 4 xs]], [] => .ret (.one (.c (.bool false (decide (val xs % ell = 0)))), [])
 | _, _ => .fail
theorem IsZ_b (xs : List Int) : (bodyT L14 Tryz.prog allLoops Tryz.f19 (cd Tryz.f19) [ws xs] []).path [] = some ([], .one (.c (.bool false (limbs (val xs % ell) == [0, 0, 0, 0] && true))), []) := by kernel_rfl
theorem ok_IsZ : EntryOk Tryz.prog G0 19 TIsZ := by
 refine EntryOk.sub (bodyT_ok okL14 mx (un := allLoops) (fn := Tryz.f19) (c := cd Tryz.f19) (by kernel_rfl) (by kernel_rfl) (by kernel_rfl)) (fun vs hl r ok h => ?_)
 unfold TIsZ at h;split at h
 ·rename_i xs;obtain rfl := val_ret h;have hp := IsZ_b xs
  rw [isZero_eq (okL_limbs _), val_mod] at hp;exact Tree.path_val hp
 ·cases h
noncomputable def inR (k : List Item) (s : St) : Tree Out := runK L14 Tryz.prog noLoops 400 k s
noncomputable def inS (xs : List (List Int)) (n : Nat) (ys : List (List Int)) (m : Nat) : St := ⟨enterT Tryz.f59 [.c (.ro WS xs n), .c (.ro WS ys m)], []⟩
noncomputable def inK : List Item := leftT [false] (inR [.code (cd Tryz.f59)] (inS [] 0 [] 0))
noncomputable def inT (xs : List (List Int)) (n : Nat) (ys : List (List Int)) (m : Nat) (o : List Int) (i : Int) : St := ⟨slotsOf 34 [(1, one (.ro WS ys m)), (4, pt 0), (5, one (.int false .i64 0)), (6, pt 1), (15, one (.ro WS xs n)), (16, one (.int false .i64 n)), (17, one (.int false .i64 i))], [.vals [.ws .u64 4 zL], .vals [.ws .u64 4 o]]⟩
theorem in_a (xs : List (List Int)) (n : Nat) (ys : List (List Int)) (m : Nat) : pieceT [1, 4, 5, 6, 15, 16, 17] [5, 17] [0, 1] [false] (inR [.code (cd Tryz.f59)] (inS xs n ys m)) = some ([(n : Int) != m], inK, inT xs n ys m zL (0 : Nat)) := by kernel_rfl
theorem in_b (xs : List (List Int)) (n : Nat) (ys : List (List Int)) (m : Nat) (o : List Int) (i : Nat) : pieceT [1, 4, 5, 6, 15, 16, 17] [5, 17] [0, 1] [true, true, true] (inR inK (inT xs n ys m o i)) =
  some ([decide ((i : Int) < n), decide (0 <= (i : Int) /\ (i : Int) < n), decide (0 <= (i : Int) /\ (i : Int) < m)], inK, inT xs n ys m (limbs ((val o + val (limbs (val (xs.getD i zL) * val (ys.getD i zL) % ell))) % ell)) (iw ((i : Int) + 1))) := by kernel_rfl
theorem in_c (xs : List (List Int)) (n : Nat) (ys : List (List Int)) (m : Nat) (o : List Int) (i : Nat) : endT Tryz.prog Tryz.f59 [] [false] (inR inK (inT xs n ys m o i)) = some ([decide ((i : Int) < n)], .tup [ws o, .c (.int true .i64 0)], []) := by kernel_rfl
def inn (xs ys : List (List Int)) (n : Nat) : Int := sumN (fun i => val (xs.getD i zL) * val (ys.getD i zL)) n
theorem in_runs {xs ys : List (List Int)} {n : Nat} (hn : n <= 1048576) : Runs Tryz.prog L14 Tryz.f59 0 [.code (cd Tryz.f59)] (inS xs n ys n) (.tup [ws (limbs (inn xs ys n % ell)), .c (.int true .i64 0)]) [] := by
 have h := in_a xs n ys n
 rw [bneq' rfl] at h;refine Runs.piece okL14 mx h rfl (by rfl) ?_
 refine loopG (st := fun k (a : List Int) => inT xs n ys n a k) (I := fun k a => a = limbs (inn xs ys k % ell)) (n := n) (fun k a hk hI => ?_) (fun a hI => ?_) n 0 zL (by omega) rfl
 ·subst hI;have h := in_b xs n ys n (limbs (inn xs ys k % ell)) k
  rw [deT (show (k : Int) < n by omega), deT (show 0 <= (k : Int) /\ (k : Int) < n by omega), iwk (by omega), val_mod, val_mod, <- Int.add_emod] at h
  exact ⟨_, rfl, fun hr => Runs.piece okL14 mx h rfl (by rfl) hr⟩
 ·subst hI;exact Runs.last okL14 mx (in_c xs n ys n _ n) (by rw [deF (by omega)]) (by rfl)
def TInner (vs : List V1) (hl : Heap) : Tree (SV × Heap) :=
 match vs, hl with
 | [.c (.ro (.ws .u64 4) xs n), .c (.ro (.ws .u64 4) ys m)], [] => Tree.chk (decide (n = m /\ n <= 1048576)) (.ret (.tup [ws (limbs (inn xs ys n % ell)), .c (.int true .i64 0)], []))
 | _, _ => .fail
theorem ok_AInner : EntryOk Tryz.prog G0 59 TInner := by
 refine EntryOk.runs (S := L14) (fn := Tryz.f59) (c := cd Tryz.f59) (by kernel_rfl) (by kernel_rfl) (by kernel_rfl) (fun vs hl r hl' ok h => ?_)
 unfold TInner at h;split at h
 ·rename_i xs n ys m;obtain ⟨h1, h2⟩ := val_chk h;obtain ⟨rfl, q⟩ := ofD h1;obtain ⟨rfl, rfl⟩ := Prod.mk.inj (val_ret h2);exact in_runs q
 ·cases h
noncomputable def L15 : Tab := (L14.put 19 0 TIsZ).put 59 0 TInner
theorem okL15 : SpecOk Tryz.prog L15 := (okL14.put ok_IsZ).put ok_AInner
structure MiA where
 B : List Int
 D : List Int
 Q : List Int
 gs : List PL.den
 hs : List PL.den
 ng : Nat
 nh : Nat
 b : Int
 c : Int
 a : List Int
 r : List Int
 t1 : List Int
 t2 : List Int
 n1 : Nat
 n2 : Nat
 n3 : Nat
 SL : List (List Int)
 SR : List (List Int)
 VS : OpT
 k : Nat
 bits : List (List Int)
 v : Vw
section
variable (m : MiA) (y z : List Int) (N M : Nat) (ys ss : List (List Int)) (k i : Nat) (lc rc rd : List (List Int))
end
def mixE (x y s t : List Int) : List Int := limbs ((val (limbs (val x * val s % ell)) + val (limbs (val y * val t % ell))) % ell)
def TMix1 (vs : List V1) (hl : Heap) : Tree (SV × Heap) :=
 match vs, hl with
 | [.g [.ws .u64 4 s], .g [.ws .u64 4 t], .c (.ptr 0 0 0 0 0 0), .c (.ptr 1 0 0 0 0 0)], [.vals [.ws .u64 4 x], .vals [.ws .u64 4 y]] => .ret (.one (ws (mixE x y s t)), [.vals [.ws .u64 4 x], .vals [.ws .u64 4 y]])
 | _, _ => .fail
theorem mix1_a (s t x y : List Int) : (bodyT L15 Tryz.prog allLoops Tryz.f132 (cd Tryz.f132) [ws s, ws t, .c (.ptr 0 0 0 0 0 0), .c (.ptr 1 0 0 0 0 0)] [.vals [.ws .u64 4 x], .vals [.ws .u64 4 y]]).path [] = some ([], .one (ws (mixE x y s t)), [.vals [.ws .u64 4 x], .vals [.ws .u64 4 y]]) := by kernel_rfl
theorem ok_AMix1 : EntryOk Tryz.prog G0 132 TMix1 := by
 refine EntryOk.sub (bodyT_ok okL15 mx (un := allLoops) (fn := Tryz.f132) (c := cd Tryz.f132) (by kernel_rfl) (by kernel_rfl) (by kernel_rfl)) (fun vs hl r ok h => ?_)
 unfold TMix1 at h;split at h
 ·rename_i s t x y;obtain rfl := val_ret h;exact Tree.path_val (mix1_a s t x y)
 ·cases h
noncomputable def L16 : Tab := L15.put 132 0 TMix1
theorem okL16 : SpecOk Tryz.prog L16 := okL15.put ok_AMix1
noncomputable def prR (k : List Item) (s : St) : Tree Out := runK L16 Tryz.prog noLoops 400 k s
def prFn : Cell := .fn 132 [.ptr 0 0 0 0 0 0, .ptr 1 0 0 0 0 0]
noncomputable def prS (xs : List (List Int)) (n : Nat) (ys : List (List Int)) (m : Nat) (x y : List Int) : St := ⟨enterT Tryz.f131 [.c (.ro WS xs n), .c (.ro WS ys m), .c prFn], [.vals [.ws .u64 4 x], .vals [.ws .u64 4 y]]⟩
noncomputable def prK : List Item := leftT [false, true] (prR [.code (cd Tryz.f131)] (prS [] 0 [] 0 [] []))
noncomputable def prT (xs : List (List Int)) (n : Nat) (ys : List (List Int)) (m : Nat) (x y : List Int) (o : List (List Int)) (i : Int) : St :=
 ⟨slotsOf 38 [(0, one (.ro WS xs n)), (1, one (.ro WS ys m)), (2, one prFn), (8, one (.sl 2 0 n)), (19, one (.int false .i64 n)), (20, one (.int false .i64 i))], [.vals [.ws .u64 4 x], .vals [.ws .u64 4 y], .arr WS o 0 []]⟩
theorem pr_a (xs : List (List Int)) (n : Nat) (ys : List (List Int)) (m : Nat) (x y : List Int) : pieceT [0, 1, 2, 8, 19, 20] [20] [0, 1, 2] [false, true] (prR [.code (cd Tryz.f131)] (prS xs n ys m x y)) =
  some ([(n : Int) != m, decide (0 <= (n : Int) /\ (n : Int) <= n /\ (n : Int) <= 281474976710656 /\ ((Tryz.prog.bytesOf 26 : Nat) : Int) * n <= 281474976710656)], prK, prT xs n ys m x y (List.replicate n zL) (0 : Nat)) := by kernel_rfl
theorem pr_b (xs : List (List Int)) (n : Nat) (ys : List (List Int)) (m : Nat) (x y : List Int) (o : List (List Int)) (i : Nat) : pieceT [0, 1, 2, 8, 19, 20] [20] [0, 1, 2] [true, true, true, true] (prR prK (prT xs n ys m x y o i)) =
  some ([decide ((i : Int) < n), decide (0 <= (i : Int) /\ (i : Int) < n), decide (0 <= (i : Int) /\ (i : Int) < m), decide (0 <= (i : Int) /\ (i : Int) < n)], prK, prT xs n ys m x y (o.set (0 + i) (mixE x y (xs.getD i zL) (ys.getD i zL))) (iw ((i : Int) + 1))) := by kernel_rfl
theorem pr_c (xs : List (List Int)) (n : Nat) (ys : List (List Int)) (m : Nat) (x y : List Int) (o : List (List Int)) (i : Nat) : endT Tryz.prog Tryz.f131 [0, 1, 2] [false] (prR prK (prT xs n ys m x y o i)) = some ([decide ((i : Int) < n)], .tup [.c (.sl 2 0 n), .c (.int true .i64 0)], [.vals [.ws .u64 4 x], .vals [.ws .u64 4 y], .arr WS o 0 []]) := by kernel_rfl
def mixL (x y : List Int) (xs ys : List (List Int)) (n : Nat) : List (List Int) := (List.range n).map fun i => mixE x y (xs.getD i zL) (ys.getD i zL)
def mixP (x y : List Int) (xs ys : List (List Int)) (n k : Nat) : List (List Int) := (List.range n).map fun i => if i < k then mixE x y (xs.getD i zL) (ys.getD i zL) else zL
theorem mixP_0 (x y : List Int) (xs ys : List (List Int)) (n : Nat) : List.replicate n zL = mixP x y xs ys n 0 := by
 rw [<- map_range_const];exact List.map_congr_left fun _ _ => rfl
theorem mixP_next (x y : List Int) (xs ys : List (List Int)) (n k : Nat) : (mixP x y xs ys n k).set k (mixE x y (xs.getD k zL) (ys.getD k zL)) = mixP x y xs ys n (k + 1) := by
 unfold mixP;rw [map_range_set];refine List.map_congr_left fun e _ => ?_
 by_cases he : e = k
 ·subst he;rw [if_pos rfl, if_pos (by omega)]
 ·rw [if_neg he];by_cases hl : e < k
  ·rw [if_pos hl, if_pos (by omega)]
  ·rw [if_neg hl, if_neg (by omega)]
theorem mixP_all (x y : List Int) (xs ys : List (List Int)) (n : Nat) : mixP x y xs ys n n = mixL x y xs ys n := List.map_congr_left fun e he => if_pos (List.mem_range.1 he)
theorem pr_runs {xs ys : List (List Int)} {n : Nat} {x y : List Int} (hn : n <= 1048576) : Runs Tryz.prog L16 Tryz.f131 2 [.code (cd Tryz.f131)] (prS xs n ys n x y) (.tup [.c (.sl 2 0 n), .c (.int true .i64 0)]) [.vals [.ws .u64 4 x], .vals [.ws .u64 4 y], .arr WS (mixL x y xs ys n) 0 []] := by
 have h := pr_a xs n ys n x y
 rw [bneq' rfl, show Tryz.prog.bytesOf 26 = 32 from by kernel_rfl, deT (by omega), mixP_0 x y xs ys n] at h
 refine Runs.piece okL16 mx h rfl (by rfl) ?_
 refine loopG (st := fun k (a : List (List Int)) => prT xs n ys n x y a k) (I := fun k a => a = mixP x y xs ys n k) (n := n) (fun k a hk hI => ?_) (fun a hI => ?_) n 0 _ (by omega) rfl
 ·subst hI;have h := pr_b xs n ys n x y (mixP x y xs ys n k) k
  rw [deT (show (k : Int) < n by omega), deT (show 0 <= (k : Int) /\ (k : Int) < n by omega), Nat.zero_add, mixP_next, iwk (by omega)] at h
  exact ⟨_, rfl, fun hr => Runs.piece okL16 mx h rfl (by rfl) hr⟩
 ·subst hI;rw [<- mixP_all];exact Runs.last okL16 mx (pr_c xs n ys n x y _ n) (by rw [deF (by omega)]) (by rfl)
def Tpairs (vs : List V1) (hl : Heap) : Tree (SV × Heap) :=
 match vs, hl with
 | [.c (.ro (.ws .u64 4) xs n), .c (.ro (.ws .u64 4) ys m), .c (.fn 132 [.ptr 0 0 0 0 0 0, .ptr 1 0 0 0 0 0])], [.vals [.ws .u64 4 x], .vals [.ws .u64 4 y]] =>
  Tree.chk (decide (n = m /\ n <= 1048576)) (.ret (.tup [.c (.sl 2 0 n), .c (.int true .i64 0)], [.vals [.ws .u64 4 x], .vals [.ws .u64 4 y], .arr WS (mixL x y xs ys n) 0 []]))
 | _, _ => .fail
theorem ok_Apairs : EntryOk Tryz.prog G0 131 Tpairs := by
 refine EntryOk.runs (S := L16) (fn := Tryz.f131) (c := cd Tryz.f131) (by kernel_rfl) (by kernel_rfl) (by kernel_rfl) (fun vs hl r hl' ok h => ?_)
 unfold Tpairs at h;split at h
 ·rename_i xs n ys m x y;obtain ⟨h1, h2⟩ := val_chk h;obtain ⟨rfl, q⟩ := ofD h1;obtain ⟨rfl, rfl⟩ := Prod.mk.inj (val_ret h2);exact pr_runs q
 ·cases h
noncomputable def L17 : Tab := L16.put 131 1 Tpairs
theorem okL17 : SpecOk Tryz.prog L17 := okL16.put ok_Apairs
noncomputable def mxR (k : List Item) (s : St) : Tree Out := runK L17 Tryz.prog noLoops 400 k s
theorem mix_a (xs : List (List Int)) (n : Nat) (ys : List (List Int)) (m : Nat) (x y : List Int) : endT Tryz.prog Tryz.f89 [2] [true] (mxR [.code (cd Tryz.f89)] ⟨enterT Tryz.f89 [ws x, .c (.ro WS xs n), ws y, .c (.ro WS ys m)], []⟩) =
  some ([decide (n = m /\ n <= 1048576)], .tup [.c (.sl 0 0 n), .c (.int true .i64 0)], [.arr WS (mixL x y xs ys n) 0 []]) := by kernel_rfl
def TMix (vs : List V1) (hl : Heap) : Tree (SV × Heap) :=
 match vs, hl with
 | [.g [.ws .u64 4 x], .c (.ro (.ws .u64 4) xs n), .g [.ws .u64 4 y], .c (.ro (.ws .u64 4) ys m)], [] =>
  Tree.chk (decide (n = m /\ n <= 1048576)) (.ret (.tup [.c (.sl 0 0 n), .c (.int true .i64 0)], [.arr WS (mixL x y xs ys n) 0 []]))
 | _, _ => .fail
theorem ok_AMix : EntryOk Tryz.prog G0 89 TMix := by
 refine EntryOk.runs (S := L17) (fn := Tryz.f89) (c := cd Tryz.f89) (by kernel_rfl) (by kernel_rfl) (by kernel_rfl) (fun vs hl r hl' ok h => ?_)
 unfold TMix at h;split at h
 ·rename_i x xs n y ys m;obtain ⟨h1, h2⟩ := val_chk h;obtain ⟨rfl, rfl⟩ := Prod.mk.inj (val_ret h2);exact Runs.last okL17 mx (mix_a xs n ys m x y) (by rw [h1]) (by rfl)
 ·cases h
noncomputable def L18 : Tab := L17.put 89 3 TMix
theorem okL18 : SpecOk Tryz.prog L18 := okL17.put ok_AMix
end Go.Sc
