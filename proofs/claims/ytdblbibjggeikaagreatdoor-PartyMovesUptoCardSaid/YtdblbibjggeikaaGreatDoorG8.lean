/- PartyMoves: the ways through the loop over moves. -/
import Derived.Test.YtdblbibjggeikaaGreatDoorG6
set_option linter.unusedSectionVars false
set_option linter.unusedVariables false
set_option linter.unusedSimpArgs false
namespace Go.Sc
open Go Go.SX Go.Proofs
variable [Level] [Lone]
theorem pnK6_eq : pnK6 = pmK6 := by kernel_rfl
def mvA (ms : List MV.den) (i : Nat) : Bool := (ms.getD i MV.dflt).1
def mvYi (ms : List MV.den) (i : Nat) : List Int := (ms.getD i MV.dflt).2.1
def mvZi (ms : List MV.den) (i : Nat) : List Int := (ms.getD i MV.dflt).2.2.1
def mvXi (ms : List MV.den) (i : Nat) : List Int := (ms.getD i MV.dflt).2.2.2.1
def pcH (l : Bool) (ph : Int) (x : PaA) (k : Nat) (l0 r0 r1 : List (List Int)) (y : DpA) (q : Int) : Heap :=
 [.vals (paC l ph x (.sl 6 0 k) (.sl 2 0 x.nl) (.sl 7 0 k) (.sl 8 0 k)), .vals (paS x.B x.D x.Q 4 x.m x.m'), .arr WS x.SL 0 [], .arr WS x.SR 0 [], .arr PL x.gs 0 [], .arr PL x.hs 0 [], .arr WS l0 0 [], .arr WS r0 0 [], .arr WS r1 0 [], .vals (dpC false q y)]
noncomputable abbrev pmTA (ms : List MV.den) (n : Nat) (x : PaA) (y : DpA) (i : Int) : St := pmA ms n (pt 0) (pt 6) i (pmH x y)
noncomputable abbrev pmTB (ms : List MV.den) (n : Nat) (l : Bool) (ph : Int) (x : PaA) (k : Nat) (l0 r0 r1 : List (List Int)) (y : DpA) (q : Int) (i : Int) : St := pmA ms n (pt 0) (pt 9) i (pcH l ph x k l0 r0 r1 y q)
noncomputable abbrev pmTN (ms : List MV.den) (n : Nat) (i : Int) : St := pmA ms n (one .nilp) (one .nilp) i []
def pmI (i n : Nat) : List Bool := [decide ((i : Int) < n), decide (0 <= (i : Int) /\ (i : Int) < n)]
def zeB (y z : List Int) : Bool := decide (val y % ell = 0 \/ val z % ell = 0)
section
variable (ms : List MV.den) (n i : Nat) (x : PaA) (y : DpA)
theorem mn_l : pieceT kpM [22] [] [true, true, true, true, true, true, true, false] (pmR pmK6 (pmTN ms n i)) = some (pmI i n ++ [mvA ms i, true, true, true, true, false], pmK6, pmTN ms n (iw ((i : Int) + 1))) := by kernel_rfl
theorem mn_p : pieceT kpM [22] [] [true, true, false, true, true, true, false] (pmR pmK6 (pmTN ms n i)) = some (pmI i n ++ [mvA ms i, true, true, true, false], pmK6, pmTN ms n (iw ((i : Int) + 1))) := by kernel_rfl
theorem mn_e : endT Tryz.prog Tryz.f4 [] [false] (pmR pmK6 (pmTN ms n i)) = some ([decide ((i : Int) < n)], .one (.c (.bool true true)), []) := by kernel_rfl
theorem ma_l : pieceT kpM [22] (List.range 7) [true, true, true, true, true, true, true, true, false] (pmR pmK6 (pmTA ms n x y i)) = some (pmI i n ++ [mvA ms i, true, true, true, true, true, false], pmK6, pmTA ms n x y (iw ((i : Int) + 1))) := by kernel_rfl
theorem ma_z : pieceT kpM [22] (List.range 7) [true, true, false, true, true, true, true, true, true, false] (pmR pmK6 (pmTA ms n x y i)) =
  some (pmI i n ++ [mvA ms i, poOk x, zeB (mvYi ms i) (mvZi ms i), zB (leL (mvYi ms i)) || zB (leL (mvZi ms i)), true, true, true, false], pmK6, pmTA ms n x y (iw ((i : Int) + 1))) := by kernel_rfl
theorem ma_e : endT Tryz.prog Tryz.f4 [] [false] (pmR pmK6 (pmTA ms n x y i)) = some ([decide ((i : Int) < n)], .one (.c (.bool true true)), []) := by kernel_rfl
end
def poS1 (x : PaA) : List Int := limbs (comS x.B x.D (poT1 x (poA x) (poC x) (poD x) x.b.toNat) x.t1 % ell)
def poS2 (x : PaA) : List Int := limbs (comS x.B x.D (poT2 x (poD x)) x.t2 % ell)
def dyS1 (y : DpA) (a b : List Int) : List Int := limbs (comS y.s.B y.s.D (dyT1 y a b y.b.toNat) y.t1 % ell)
def dyS2 (y : DpA) (a : List Int) : List Int := limbs (comS y.s.B y.s.D (dyT2 y a y.b.toNat) y.t2 % ell)
section
variable (ms : List MV.den) (n i : Nat) (x : PaA) (y : DpA)
theorem ma_p : pieceT kpM [22] [0, 1, 2, 3, 4, 5, 8, 9, 10, 6] [true, true, false, true, false, false, true, true, true, true, true, false] (pmR pmK6 (pmTA ms n x y i)) =
  some (pmI i n ++ [mvA ms i, poOk x, zeB (mvYi ms i) (mvZi ms i), zB (leL (mvYi ms i)) || zB (leL (mvZi ms i)), dlOk y (leL (mvZi ms i)) && decide (y.s.n1 = 2 /\ y.s.n2 = 2), decide (x.p = y.p) == true, true, lnB (poS1 (poX x (mvYi ms i) (mvZi ms i))) 2 (dyS1 y (leL (mvYi ms i)) (leL (mvZi ms i))) == true, true, !lnB (poS2 (poX x (mvYi ms i) (mvZi ms i))) 2 (dyS2 y (leL (mvYi ms i)))], pmK6,
   pmTB ms n true 2 (poX x (mvYi ms i) (mvZi ms i)) x.b.toNat (poA (poX x (mvYi ms i) (mvZi ms i))) (poC (poX x (mvYi ms i) (mvZi ms i))) (poD (poX x (mvYi ms i) (mvZi ms i))) (dyX y (leL (mvYi ms i)) (leL (mvZi ms i))) 1 (iw ((i : Int) + 1))) := by kernel_rfl
end
end Go.Sc
