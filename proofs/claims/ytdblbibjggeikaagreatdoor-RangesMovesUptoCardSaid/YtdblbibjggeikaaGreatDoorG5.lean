/- RangesMoves: the loop over moves, behind Begin. -/
import Derived.Test.YtdblbibjggeikaaGreatDoorG4
set_option linter.unusedSectionVars false
set_option linter.unusedVariables false
set_option linter.unusedSimpArgs false
namespace Go.Sc
open Go Go.SX Go.Proofs
variable [Level] [Lone]
def mvA (ms : List MV.den) (i : Nat) : Bool := (ms.getD i MV.dflt).1
def mvYi (ms : List MV.den) (i : Nat) : List Int := (ms.getD i MV.dflt).2.1
def mvZi (ms : List MV.den) (i : Nat) : List Int := (ms.getD i MV.dflt).2.2.1
def mvXi (ms : List MV.den) (i : Nat) : List Int := (ms.getD i MV.dflt).2.2.2.1
def mvN (s : CsA) (Y Z : List Int) : Heap := [.arr WS (lcL (mvM s) Z (mvM s).k) 0 [], .arr WS (rcL (mvM s) Y Z (mvM s).k) 0 [], .arr WS (rdL (mvM s) Y (mvM s).k) 0 []]
noncomputable def mvT3 (s : CsA) (ms : List MV.den) (n : Nat) (l : Bool) (e f ph pp : Int) (v : Vw) (L R : Cell) (Y Z y z : List Int) (i : Int) (h : Heap) : St :=
 mvU s ms n e f ph i (prF l pp (mvZ s) 7 6 (.sl 10 0 (beN (mvZ s))) (.sl 15 0 (mvM s).k) (.sl 7 0 (mvM s).n1) (.sl 16 0 (mvM s).k) (.sl 17 0 (mvM s).k) (miVw (mvM s) Y Z) .nils .nils) (mvC s v L R y z ++ mvN s Y Z ++ h)
section
variable (s : CsA) (ms : List MV.den) (n i : Nat) (l : Bool) (e f : Int) (v : Vw) (y z : List Int)
theorem mv1_z : pieceT kpM [4, 11, 12, 16, 19] (List.range 15) [true, true, true, true, true, true, false, true, true, false] (mvR mvK (mvT1 s ms n l e f v y z i)) =
  some ([decide ((i : Int) < n), decide (0 <= (i : Int) /\ (i : Int) < n), !mvA ms i, miOk (mvM s), decide (val (mvYi ms i) % ell = 0 \/ val (mvZi ms i) % ell = 0), decide (val (mvYi ms i) % ell = 0) == false, false, decide (val (mvZi ms i) % ell = 0), true, false], mvK,
   mvT1 s ms n false 4 4 vw0 y z (iw ((i : Int) + 1))) := by kernel_rfl
theorem mv1_y : pieceT kpM [4, 11, 12, 16, 19] (List.range 15) [true, true, true, true, true, false, false, true, false] (mvR mvK (mvT1 s ms n l e f v y z i)) =
  some ([decide ((i : Int) < n), decide (0 <= (i : Int) /\ (i : Int) < n), !mvA ms i, miOk (mvM s), decide (val (mvYi ms i) % ell = 0 \/ val (mvZi ms i) % ell = 0), decide (val (mvYi ms i) % ell = 0) == false, false, true, false], mvK,
   mvT1 s ms n false 4 4 vw0 y z (iw ((i : Int) + 1))) := by kernel_rfl
theorem mv1_l : pieceT kpM [4, 11, 12, 16, 19] (List.range 15) [true, true, false, true, true, true, false] (mvR mvK (mvT1 s ms n l e f v y z i)) =
  some ([decide ((i : Int) < n), decide (0 <= (i : Int) /\ (i : Int) < n), !mvA ms i, true, true, true, false], mvK,
   mvT1 s ms n false 6 6 vw0 y z (iw ((i : Int) + 1))) := by kernel_rfl
theorem mv1_m : pieceT kpM [4, 11, 12, 16, 19] (List.range 15 ++ [16, 17, 18]) [true, true, true, true, false, true, false, false, true, true, true, true, false] (mvR mvK (mvT1 s ms n l e f v y z i)) =
  some ([decide ((i : Int) < n), decide (0 <= (i : Int) /\ (i : Int) < n), !mvA ms i, miOk (mvM s), decide (val (mvYi ms i) % ell = 0 \/ val (mvZi ms i) % ell = 0), decide (val (mvYi ms i) % ell = 0) == false, false, decide (val (mvZi ms i) % ell = 0),
   decide (s.nv <= 1048576), decide (s.nl <= 1048576) && decide (s.nr <= 1048576), whB (mvH s (leL (mvYi ms i)) (leL (mvZi ms i)) one4), vB (miVw (mvM s) (mvYi ms i) (mvZi ms i)) (ev2 (mvH s (leL (mvYi ms i)) (leL (mvZi ms i)) one4) (leL (mvYi ms i)) (leL (mvZi ms i))), false], mvK,
   mvT3 s ms n true 0 0 1 2 (miVw (mvM s) (mvYi ms i) (mvZi ms i)) .nils .nils (mvYi ms i) (mvZi ms i) (leL (mvYi ms i)) (leL (mvZi ms i)) (iw ((i : Int) + 1)) []) := by kernel_rfl
theorem mv1_e : endT Tryz.prog Tryz.f3 [] [false, true] (mvR mvK (mvT1 s ms n l e f v y z i)) = some ([decide ((i : Int) < n), styOk (mvY s)], .one (.c (.bool false true)), []) := by kernel_rfl
end
def mvKc (s : CsA) (Y Z : List Int) : Bool := okK (mvF s Y Z) (mvM s).k (mvM s).n1 (mvM s).k (mvM s).k
def mvKd (s : CsA) : Bool := decide (((mvM s).k = (mvM s).n1 /\ (mvM s).k <= 1048576) /\ (mvM s).n3 <= 1048576)
def mvW3 (s : CsA) (Y Z X : List Int) : Vw := fnW (mvF s Y Z) (mvM s).k (lcL (mvM s) Z (mvM s).k) (rcL (mvM s) Y Z (mvM s).k) (rdL (mvM s) Y (mvM s).k) X (mvM s).n3
def mvLL (s : CsA) (Y Z X : List Int) : List (List Int) := fnL (mvF s Y Z) (mvM s).k (lcL (mvM s) Z (mvM s).k) X
def mvRR (s : CsA) (Y Z X : List Int) : List (List Int) := fnQ (mvM s).k (rcL (mvM s) Y Z (mvM s).k) (rdL (mvM s) Y (mvM s).k) X
noncomputable def mvT4 (s : CsA) (ms : List MV.den) (n : Nat) (v : Vw) (Y Z y z : List Int) (i j : Int) (L R : List (List Int)) : St :=
 ⟨slotsOf 268 (mvSl ms n ++ [(11, one (.int false .i64 0)), (12, one (.int false .i64 0)), (16, one (.int false .i64 2)), (19, one (.int false .i64 i)), (26, one (.int false .i64 j))]), (mvT3 s ms n true 0 0 2 3 v (.sl 18 0 (mvM s).k) (.sl 19 0 (mvM s).k) Y Z y z i [.arr WS L 0 [], .arr WS R 0 []]).h⟩
noncomputable def mvK2 : List Item := leftT [true, true, false, true, false, false, false, true, true, true, true, false] (mvR mvK (mvT3 cs0A [] 0 false 0 0 1 2 vw0 .nils .nils [] [] [] [] 0 []))
section
variable (s : CsA) (ms : List MV.den) (n i : Nat) (l : Bool) (e f : Int) (v : Vw) (Y Z y z : List Int)
theorem mv2_y : pieceT kpM [4, 11, 12, 16, 19] (List.range 18) [true, true, true, true, false, true, true, false] (mvR mvK (mvT3 s ms n l e f 1 2 v .nils .nils Y Z y z i [])) =
  some ([decide ((i : Int) < n), decide (0 <= (i : Int) /\ (i : Int) < n), !mvA ms i, mvKc s Y Z && true, decide (val (mvYi ms i) % ell = 0) == false, true, true, false], mvK,
   mvT3 s ms n false 6 6 1 2 vw0 .nils .nils Y Z y z (iw ((i : Int) + 1)) []) := by kernel_rfl
theorem mv2_n : pieceT kpM [4, 11, 12, 16, 19] (List.range 18) [true, true, true, true, true, true, true, false] (mvR mvK (mvT3 s ms n l e f 1 2 v .nils .nils Y Z y z i [])) =
  some ([decide ((i : Int) < n), decide (0 <= (i : Int) /\ (i : Int) < n), !mvA ms i, mvKc s Y Z && true, decide (val (mvYi ms i) % ell = 0) == false, true, true, false], mvK,
   mvT3 s ms n false 6 6 1 2 vw0 .nils .nils Y Z y z (iw ((i : Int) + 1)) []) := by kernel_rfl
theorem mv2_x : pieceT kpM [4, 11, 12, 16, 19] (List.range 18) [true, true, false, true, true, false, true, true, false] (mvR mvK (mvT3 s ms n l e f 1 2 v .nils .nils Y Z y z i [])) =
  some ([decide ((i : Int) < n), decide (0 <= (i : Int) /\ (i : Int) < n), !mvA ms i, mvKc s Y Z && mvKd s, decide (val (mvXi ms i) % ell = 0), false, decide (val (mvXi ms i) % ell = 0), true, false], mvK,
   mvT3 s ms n false 4 4 1 2 vw0 .nils .nils Y Z y z (iw ((i : Int) + 1)) []) := by kernel_rfl
theorem mv2_f : pieceT (kpM ++ [26]) [4, 11, 12, 16, 19, 26] (List.range 18 ++ [19, 20]) [true, true, false, true, false, false, false, true, true, true, true, false] (mvR mvK (mvT3 s ms n l e f 1 2 v .nils .nils Y Z y z i [])) =
  some ([decide ((i : Int) < n), decide (0 <= (i : Int) /\ (i : Int) < n), !mvA ms i, mvKc s Y Z && mvKd s, decide (val (mvXi ms i) % ell = 0), false, decide (val (mvXi ms i) % ell = 0),
   decide (s.nv <= 1048576), decide (s.nl <= 1048576) && decide (s.nr <= 1048576), whB (mvH s y z (leL (mvXi ms i))),
   vB (mvW3 s Y Z (mvXi ms i)) (ev3 (mvH s y z (leL (mvXi ms i)))) && (snB (mvLL s Y Z (mvXi ms i)) (mpL (wlE (mvH s y z (leL (mvXi ms i)))) s.nl) (mvM s).k s.nl && snB (mvRR s Y Z (mvXi ms i)) (mpL (wrE (mvH s y z (leL (mvXi ms i)))) s.nl) (mvM s).k s.nl), false], mvK2,
   mvT4 s ms n (mvW3 s Y Z (mvXi ms i)) Y Z y z i (0 : Nat) (mvLL s Y Z (mvXi ms i)) (mvRR s Y Z (mvXi ms i))) := by kernel_rfl
theorem mv2_e : endT Tryz.prog Tryz.f3 [] [false, true] (mvR mvK (mvT3 s ms n l e f 1 2 v .nils .nils Y Z y z i [])) = some ([decide ((i : Int) < n), styOk (mvY s)], .one (.c (.bool false true)), []) := by kernel_rfl
end
section
variable (s : CsA) (ms : List MV.den) (n i j : Nat) (l : Bool) (e f : Int) (v : Vw) (Y Z y z : List Int) (L R : List (List Int))
theorem mv4_b : pieceT (kpM ++ [26]) [4, 11, 12, 16, 19, 26] (List.range 20) [true, true, true] (mvR mvK2 (mvT4 s ms n v Y Z y z i j L R)) =
  some ([decide ((j : Int) < (mvM s).k), decide (0 <= (j : Int) /\ (j : Int) < (mvM s).k), decide (0 <= (j : Int) /\ (j : Int) < (mvM s).k)], mvK2, mvT4 s ms n v Y Z y z i (iw ((j : Int) + 1)) (L.set (0 + j) [5, 0, 0, 0]) (R.set (0 + j) [6, 0, 0, 0])) := by kernel_rfl
noncomputable abbrev mvTL (s : CsA) (ms : List MV.den) (n : Nat) (l : Bool) (e f : Int) (v : Vw) (Y Z y z : List Int) (L R : List (List Int)) (i : Int) : St := mvT3 s ms n l e f 2 3 v (.sl 18 0 (mvM s).k) (.sl 19 0 (mvM s).k) Y Z y z i [.arr WS L 0 [], .arr WS R 0 []]
noncomputable abbrev mvTN (s : CsA) (ms : List MV.den) (n : Nat) (l : Bool) (e f : Int) (v : Vw) (Y Z y z : List Int) (i : Int) : St := mvT3 s ms n l e f 2 3 v .nils .nils Y Z y z i []
theorem mv4_c : pieceT kpM [4, 11, 12, 16, 19] (List.range 20) [false] (mvR mvK2 (mvT4 s ms n v Y Z y z i j L R)) = some ([decide ((j : Int) < (mvM s).k)], mvK, mvTL s ms n true 0 0 v Y Z y z L R (iw ((i : Int) + 1))) := by kernel_rfl
theorem mv3_y : pieceT kpM [4, 11, 12, 16, 19] (List.range 18) [true, true, true, true, false, true, true, false] (mvR mvK (mvTL s ms n l e f v Y Z y z L R i)) =
  some ([decide ((i : Int) < n), decide (0 <= (i : Int) /\ (i : Int) < n), !mvA ms i, mvKc s Y Z && true, decide (val (mvYi ms i) % ell = 0) == false, true, true, false], mvK, mvTN s ms n false 6 6 vw0 Y Z y z (iw ((i : Int) + 1))) := by kernel_rfl
theorem mv3_n : pieceT kpM [4, 11, 12, 16, 19] (List.range 18) [true, true, true, true, true, true, true, false] (mvR mvK (mvTL s ms n l e f v Y Z y z L R i)) =
  some ([decide ((i : Int) < n), decide (0 <= (i : Int) /\ (i : Int) < n), !mvA ms i, mvKc s Y Z && true, decide (val (mvYi ms i) % ell = 0) == false, true, true, false], mvK, mvTN s ms n false 6 6 vw0 Y Z y z (iw ((i : Int) + 1))) := by kernel_rfl
theorem mv3_l : pieceT kpM [4, 11, 12, 16, 19] (List.range 18) [true, true, false, true, true, true, false] (mvR mvK (mvTL s ms n l e f v Y Z y z L R i)) =
  some ([decide ((i : Int) < n), decide (0 <= (i : Int) /\ (i : Int) < n), !mvA ms i, mvKc s Y Z && true, true, true, false], mvK, mvTN s ms n false 6 6 vw0 Y Z y z (iw ((i : Int) + 1))) := by kernel_rfl
theorem mv3_e : endT Tryz.prog Tryz.f3 [] [false, true] (mvR mvK (mvTL s ms n l e f v Y Z y z L R i)) = some ([decide ((i : Int) < n), styOk (mvY s)], .one (.c (.bool false true)), []) := by kernel_rfl
theorem mv5_y : pieceT kpM [4, 11, 12, 16, 19] (List.range 18) [true, true, true, true, false, true, true, false] (mvR mvK (mvTN s ms n l e f v Y Z y z i)) =
  some ([decide ((i : Int) < n), decide (0 <= (i : Int) /\ (i : Int) < n), !mvA ms i, mvKc s Y Z && true, decide (val (mvYi ms i) % ell = 0) == false, true, true, false], mvK, mvTN s ms n false 6 6 vw0 Y Z y z (iw ((i : Int) + 1))) := by kernel_rfl
theorem mv5_n : pieceT kpM [4, 11, 12, 16, 19] (List.range 18) [true, true, true, true, true, true, true, false] (mvR mvK (mvTN s ms n l e f v Y Z y z i)) =
  some ([decide ((i : Int) < n), decide (0 <= (i : Int) /\ (i : Int) < n), !mvA ms i, mvKc s Y Z && true, decide (val (mvYi ms i) % ell = 0) == false, true, true, false], mvK, mvTN s ms n false 6 6 vw0 Y Z y z (iw ((i : Int) + 1))) := by kernel_rfl
theorem mv5_l : pieceT kpM [4, 11, 12, 16, 19] (List.range 18) [true, true, false, true, true, true, false] (mvR mvK (mvTN s ms n l e f v Y Z y z i)) =
  some ([decide ((i : Int) < n), decide (0 <= (i : Int) /\ (i : Int) < n), !mvA ms i, mvKc s Y Z && true, true, true, false], mvK, mvTN s ms n false 6 6 vw0 Y Z y z (iw ((i : Int) + 1))) := by kernel_rfl
theorem mv5_e : endT Tryz.prog Tryz.f3 [] [false, true] (mvR mvK (mvTN s ms n l e f v Y Z y z i)) = some ([decide ((i : Int) < n), styOk (mvY s)], .one (.c (.bool false true)), []) := by kernel_rfl
end
end Go.Sc
