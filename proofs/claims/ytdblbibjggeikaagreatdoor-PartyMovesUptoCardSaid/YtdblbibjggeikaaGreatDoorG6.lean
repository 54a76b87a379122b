/- PartyMoves: its beginning. -/
import Derived.Test.YtdblbibjggeikaaGreatDoorG5
set_option linter.unusedSectionVars false
set_option linter.unusedVariables false
set_option linter.unusedSimpArgs false
namespace Go.Sc
open Go Go.SX Go.Proofs
variable [Level] [Lone]
abbrev MV : DTy := .pair .bool (.pair WS (.pair WS (.pair WS .unit)))
noncomputable def N7 : Tab := N6.own [186]
theorem okN7 : SpecOk Tryz.prog N7 := okN6.own
noncomputable def pmQ (f : Nat) (k : List Item) (s : St) : Tree Out := runK N7 Tryz.prog noLoops f k s
noncomputable def pmR (k : List Item) (s : St) : Tree Out := runK N7 Tryz.prog noLoops 400 k s
noncomputable def pmS (s : PcA) (j : Int) (ms : List MV.den) (n : Nat) : St := ⟨enterT Tryz.f4 [.g (pcF s), .c (.int false .i64 j), .c (.ro MV ms n)], []⟩
def pmJ (s : PcA) (j : Int) (o : OP.den) (t : T6) (nl nr : Nat) : JoA := ⟨s.B, s.D, s.Q, mqlL s.G s.ng, mqlL s.H s.nh, s.ng, s.nh, s.b, s.c, j, o.1, o.2.1, t.a, t.r, t.t1, t.t2, t.l.take nl ++ [m77], nl, t.rr.take nr ++ [m78], nr⟩
def pmD (s : PcA) : DsA := ⟨2, 2, 2, 2, z10, z10, leL s.B, z10, z10, leL s.D, z10, z10, leL s.Q, mqoL s.G s.ng, s.ng, mqoL s.H s.nh, s.nh⟩
def pmX (s : PcA) (j : Int) (o : OP.den) (t : T6) (nl nr : Nat) : DpA := ⟨pmD s, s.b, s.c, j, o.1, leL o.2.1, leL t.a, leL t.r, leL t.t1, leL t.t2, mqnL t.l nl, nl, mqnL t.rr nr, nr, zL, zL⟩
def tpT (t : TP.den) : T6 := ⟨t.1, t.2.1, t.2.2.1, t.2.2.2.1, t.2.2.2.2.1.1, t.2.2.2.2.2.1.1⟩
def tpN (t : TP.den) : Nat := t.2.2.2.2.1.2
def tpM (t : TP.den) : Nat := t.2.2.2.2.2.1.2
def pmjE (j : JoA) : Int := pfE j.ng j.nh j.b j.c j.p j.v j.nl j.nr
def pmH (x : PaA) (y : DpA) : Heap := paH false 1 x ++ [.vals (dpC false 0 y)]
def pmG (s : PcA) (g h : List PL.den) : Heap := [.vals [.ws .u64 4 s.B, .ws .u64 4 s.D, .ws .u64 4 s.Q, .c (.sl 8 0 s.ng), .c (.sl 9 0 s.nh)], .arr PL g 0 [], .arr PL h 0 []]
def pmO (t : T6) (nl nr : Nat) (SL SR : List (List Int)) : Heap := [.vals (t6C t (.sl 11 0 nl) (.sl 12 0 nr)), .arr WS SL 0 [], .arr WS SR 0 []]
noncomputable def pmT1 (s : PcA) (j : Int) (ms : List MV.den) (n : Nat) (t : T6) (nl nr : Nat) (x : PaA) (y : DpA) : St :=
 ⟨slotsOf 237 [(2, one (.ro MV ms n)), (7, pt 7), (10, pt 13), (11, pt 10), (12, pt 0), (13, pt 14), (14, one (.int true .i64 0)), (15, pt 6), (16, pt 15), (17, one (.int true .i64 0))],
  pmH x y ++ pmG s (mqlL s.G s.ng) (mqlL s.H s.nh) ++ pmO t nl nr (t.l.take nl ++ [m77]) (t.rr.take nr ++ [m78]) ++ [.vals (t6C t (.ro WS t.l nl) (.ro WS t.rr nr)), .vals (bitF j (jV x) (jA x) (jSS x)),
   .vals (dbitF j (djV y) (djA y y.a (pbEs y.v y.b.toNat) (pbFs y.v y.b.toNat)) (djA y y.r y.sl y.sr))]⟩
noncomputable def pmK1 : List Item := leftT (List.replicate 8 true) (pmQ 12 [.code (cd Tryz.f4)] (pmS pc0 0 [] 0))
def pmTw (t : T6) (nl nr : Nat) : Bool := decide (nl <= 1048575 /\ nr <= 1048575 /\ nl <= t.l.length /\ nr <= t.rr.length)
def pmC1 (s : PcA) (j : Int) (o : OP.den) (t : T6) (nl nr : Nat) : List Bool := [decide (s.ng <= 1048576), decide (s.nh <= 1048576), pmTw t nl nr, decide (pmjE (pmJ s j o t nl nr) = 0), jSt (pmJ s j o t nl nr), decide (nl <= 1048576) && decide (nr <= 1048576), decide (dpE (pmX s j o t nl nr) = 0), djB (pmX s j o t nl nr)]
theorem pm_a (s : PcA) (j : Int) (ms : List MV.den) (n : Nat) : pieceT [2, 7, 10, 11, 12, 13, 14, 15, 16, 17] [] [12, 13, 14, 15, 16, 17, 21, 5, 1, 2, 11, 9, 10, 8, 18, 22] (List.replicate 8 true) (pmQ 12 [.code (cd Tryz.f4)] (pmS s j ms n)) =
  some (pmC1 s j (atO s j) (tpT (atP s j)) (tpN (atP s j)) (tpM (atP s j)), pmK1, pmT1 s j ms n (tpT (atP s j)) (tpN (atP s j)) (tpM (atP s j)) (jx (pmJ s j (atO s j) (tpT (atP s j)) (tpN (atP s j)) (tpM (atP s j))) (j * s.b)) (djX (pmX s j (atO s j) (tpT (atP s j)) (tpN (atP s j)) (tpM (atP s j))))) := by kernel_rfl
def kpA : List Nat := [2, 7, 11, 12, 15, 18]
noncomputable def pmT2 (s : PcA) (ms : List MV.den) (n : Nat) (t : T6) (nl nr : Nat) (x : PaA) (y : DpA) (d : Nat) (g h : List PL.den) (SL SR : List (List Int)) (i : Int) : St :=
 ⟨slotsOf 237 [(2, one (.ro MV ms n)), (7, pt 7), (11, pt 10), (12, pt 0), (15, pt 6), (d, one (.int false .i64 i))], pmH x y ++ pmG s g h ++ pmO t nl nr SL SR⟩
noncomputable def pmK2 : List Item := leftT (List.replicate 8 true ++ [false]) (pmR pmK1 (pmT1 pc0 0 [] 0 z6 0 0 pa0 dp0))
def pmC2 (j : Int) (t : T6) (nl nr : Nat) (x : PaA) (y : DpA) : List Bool :=
 [decide (j = j) == true, true, lnB (jV x) 2 (djV y) == true, true, lnB (jA x) 2 (djA y y.a (pbEs y.v y.b.toNat) (pbFs y.v y.b.toNat)) == true, true, (!lnB (jSS x) 2 (djA y y.r y.sl y.sr)) == false, staB (t.l.take nl ++ [m77]) nl t.l nl m77 && staB (t.rr.take nr ++ [m78]) nr t.rr nr m78, false]
section
variable (s : PcA) (j : Int) (ms : List MV.den) (n : Nat) (t : T6) (nl nr : Nat) (x : PaA) (y : DpA) (g h : List PL.den) (SL SR : List (List Int)) (i : Nat)
theorem pm_b : pieceT kpA [18] (List.range 13) (List.replicate 8 true ++ [false]) (pmR pmK1 (pmT1 s j ms n t nl nr x y)) =
  some (pmC2 j t nl nr x y, pmK2, pmT2 s ms n t nl nr x y 18 (mqlL s.G s.ng) (mqlL s.H s.nh) (t.l.take nl ++ [m77]) (t.rr.take nr ++ [m78]) (0 : Nat)) := by kernel_rfl
theorem pm_c1 : pieceT kpA [18] (List.range 13) [true, true] (pmR pmK2 (pmT2 s ms n t nl nr x y 18 g h SL SR i)) = some ([decide ((i : Int) < nl), inK' i nl], pmK2, pmT2 s ms n t nl nr x y 18 g h (SL.set (0 + i) [999, 0, 0, 0]) SR (iw ((i : Int) + 1))) := by kernel_rfl
noncomputable def pmK3 : List Item := leftT [false] (pmR pmK2 (pmT2 pc0 [] 0 z6 0 0 pa0 dp0 18 [] [] [] [] 0))
def kpB : List Nat := [2, 7, 11, 12, 15, 19]
theorem pm_c2 : pieceT kpB [19] (List.range 13) [false] (pmR pmK2 (pmT2 s ms n t nl nr x y 18 g h SL SR i)) = some ([decide ((i : Int) < nl)], pmK3, pmT2 s ms n t nl nr x y 19 g h SL SR (0 : Nat)) := by kernel_rfl
theorem pm_d1 : pieceT kpB [19] (List.range 13) [true, true] (pmR pmK3 (pmT2 s ms n t nl nr x y 19 g h SL SR i)) = some ([decide ((i : Int) < nr), inK' i nr], pmK3, pmT2 s ms n t nl nr x y 19 g h SL (SR.set (0 + i) [996, 0, 0, 0]) (iw ((i : Int) + 1))) := by kernel_rfl
noncomputable def pmK4 : List Item := leftT [false] (pmR pmK3 (pmT2 pc0 [] 0 z6 0 0 pa0 dp0 19 [] [] [] [] 0))
def kpC : List Nat := [2, 7, 11, 12, 15, 20]
theorem pm_d2 : pieceT kpC [20] (List.range 13) [false] (pmR pmK3 (pmT2 s ms n t nl nr x y 19 g h SL SR i)) = some ([decide ((i : Int) < nr)], pmK4, pmT2 s ms n t nl nr x y 20 g h SL SR (0 : Nat)) := by kernel_rfl
theorem pm_e1 : pieceT kpC [20] (List.range 13) [true, true] (pmR pmK4 (pmT2 s ms n t nl nr x y 20 g h SL SR i)) = some ([decide ((i : Int) < s.ng), inK' i s.ng], pmK4, pmT2 s ms n t nl nr x y 20 (g.set (0 + i) ([998, 0, 0, 0], ())) h SL SR (iw ((i : Int) + 1))) := by kernel_rfl
noncomputable def pmK5 : List Item := leftT [false] (pmR pmK4 (pmT2 pc0 [] 0 z6 0 0 pa0 dp0 20 [] [] [] [] 0))
def kpD : List Nat := [2, 7, 11, 12, 15, 21]
theorem pm_e2 : pieceT kpD [21] (List.range 13) [false] (pmR pmK4 (pmT2 s ms n t nl nr x y 20 g h SL SR i)) = some ([decide ((i : Int) < s.ng)], pmK5, pmT2 s ms n t nl nr x y 21 g h SL SR (0 : Nat)) := by kernel_rfl
theorem pm_f1 : pieceT kpD [21] (List.range 13) [true, true] (pmR pmK5 (pmT2 s ms n t nl nr x y 21 g h SL SR i)) = some ([decide ((i : Int) < s.nh), inK' i s.nh], pmK5, pmT2 s ms n t nl nr x y 21 g (h.set (0 + i) ([997, 0, 0, 0], ())) SL SR (iw ((i : Int) + 1))) := by kernel_rfl
noncomputable def pmK6 : List Item := leftT [false] (pmR pmK5 (pmT2 pc0 [] 0 z6 0 0 pa0 dp0 21 [] [] [] [] 0))
noncomputable def pmA (ms : List MV.den) (n : Nat) (p q : SV) (i : Int) (H : Heap) : St := ⟨slotsOf 237 [(2, one (.ro MV ms n)), (12, p), (15, q), (22, one (.int false .i64 i))], H⟩
def kpM : List Nat := [2, 12, 15, 22]
theorem pm_f2 : pieceT kpM [22] (List.range 7) [false] (pmR pmK5 (pmT2 s ms n t nl nr x y 21 g h SL SR i)) = some ([decide ((i : Int) < s.nh)], pmK6, pmA ms n (pt 0) (pt 6) (0 : Nat) (pmH x y)) := by kernel_rfl
end
def pnG (s : PcA) (g h : List PL.den) : Heap := [.vals [.ws .u64 4 s.B, .ws .u64 4 s.D, .ws .u64 4 s.Q, .c (.sl 1 0 s.ng), .c (.sl 2 0 s.nh)], .arr PL g 0 [], .arr PL h 0 []]
def pnO (t : T6) (nl nr : Nat) (SL SR : List (List Int)) : Heap := [.vals (t6C t (.sl 4 0 nl) (.sl 5 0 nr)), .arr WS SL 0 [], .arr WS SR 0 []]
noncomputable def pnT2 (s : PcA) (ms : List MV.den) (n : Nat) (t : T6) (nl nr : Nat) (d : Nat) (g h : List PL.den) (SL SR : List (List Int)) (i : Int) : St :=
 ⟨slotsOf 237 [(2, one (.ro MV ms n)), (7, pt 0), (11, pt 3), (12, one .nilp), (15, one .nilp), (d, one (.int false .i64 i))], pnG s g h ++ pnO t nl nr SL SR⟩
def pnW : List Bool := [true, true, true, false, true, false, true, true, true, true, true, true, true, true, false]
noncomputable def pnK2 : List Item := leftT pnW (pmR [.code (cd Tryz.f4)] (pmS pc0 0 [] 0))
def pnC (s : PcA) (j : Int) (o : OP.den) (t : T6) (nl nr : Nat) : List Bool := [decide (s.ng <= 1048576), decide (s.nh <= 1048576), pmTw t nl nr, decide (pmjE (pmJ s j o t nl nr) = 0), decide (nl <= 1048576) && decide (nr <= 1048576), decide (dpE (pmX s j o t nl nr) = 0),
 (pmjE (pmJ s j o t nl nr) != dpE (pmX s j o t nl nr)) == false, true, true, true, true, true, true, staB (t.l.take nl ++ [m77]) nl t.l nl m77 && staB (t.rr.take nr ++ [m78]) nr t.rr nr m78, false]
theorem pn_a (s : PcA) (j : Int) (ms : List MV.den) (n : Nat) : pieceT kpA [18] [5, 1, 2, 11, 9, 10] pnW (pmR [.code (cd Tryz.f4)] (pmS s j ms n)) =
  some (pnC s j (atO s j) (tpT (atP s j)) (tpN (atP s j)) (tpM (atP s j)), pnK2, pnT2 s ms n (tpT (atP s j)) (tpN (atP s j)) (tpM (atP s j)) 18 (mqlL s.G s.ng) (mqlL s.H s.nh) ((tpT (atP s j)).l.take (tpN (atP s j)) ++ [m77]) ((tpT (atP s j)).rr.take (tpM (atP s j)) ++ [m78]) (0 : Nat)) := by kernel_rfl
section
variable (s : PcA) (j : Int) (ms : List MV.den) (n : Nat) (t : T6) (nl nr : Nat) (g h : List PL.den) (SL SR : List (List Int)) (i : Nat)
theorem pn_c1 : pieceT kpA [18] (List.range 6) [true, true] (pmR pnK2 (pnT2 s ms n t nl nr 18 g h SL SR i)) = some ([decide ((i : Int) < nl), inK' i nl], pnK2, pnT2 s ms n t nl nr 18 g h (SL.set (0 + i) [999, 0, 0, 0]) SR (iw ((i : Int) + 1))) := by kernel_rfl
noncomputable def pnK3 : List Item := leftT [false] (pmR pnK2 (pnT2 pc0 [] 0 z6 0 0 18 [] [] [] [] 0))
theorem pn_c2 : pieceT kpB [19] (List.range 6) [false] (pmR pnK2 (pnT2 s ms n t nl nr 18 g h SL SR i)) = some ([decide ((i : Int) < nl)], pnK3, pnT2 s ms n t nl nr 19 g h SL SR (0 : Nat)) := by kernel_rfl
theorem pn_d1 : pieceT kpB [19] (List.range 6) [true, true] (pmR pnK3 (pnT2 s ms n t nl nr 19 g h SL SR i)) = some ([decide ((i : Int) < nr), inK' i nr], pnK3, pnT2 s ms n t nl nr 19 g h SL (SR.set (0 + i) [996, 0, 0, 0]) (iw ((i : Int) + 1))) := by kernel_rfl
noncomputable def pnK4 : List Item := leftT [false] (pmR pnK3 (pnT2 pc0 [] 0 z6 0 0 19 [] [] [] [] 0))
theorem pn_d2 : pieceT kpC [20] (List.range 6) [false] (pmR pnK3 (pnT2 s ms n t nl nr 19 g h SL SR i)) = some ([decide ((i : Int) < nr)], pnK4, pnT2 s ms n t nl nr 20 g h SL SR (0 : Nat)) := by kernel_rfl
theorem pn_e1 : pieceT kpC [20] (List.range 6) [true, true] (pmR pnK4 (pnT2 s ms n t nl nr 20 g h SL SR i)) = some ([decide ((i : Int) < s.ng), inK' i s.ng], pnK4, pnT2 s ms n t nl nr 20 (g.set (0 + i) ([998, 0, 0, 0], ())) h SL SR (iw ((i : Int) + 1))) := by kernel_rfl
noncomputable def pnK5 : List Item := leftT [false] (pmR pnK4 (pnT2 pc0 [] 0 z6 0 0 20 [] [] [] [] 0))
theorem pn_e2 : pieceT kpD [21] (List.range 6) [false] (pmR pnK4 (pnT2 s ms n t nl nr 20 g h SL SR i)) = some ([decide ((i : Int) < s.ng)], pnK5, pnT2 s ms n t nl nr 21 g h SL SR (0 : Nat)) := by kernel_rfl
theorem pn_f1 : pieceT kpD [21] (List.range 6) [true, true] (pmR pnK5 (pnT2 s ms n t nl nr 21 g h SL SR i)) = some ([decide ((i : Int) < s.nh), inK' i s.nh], pnK5, pnT2 s ms n t nl nr 21 g (h.set (0 + i) ([997, 0, 0, 0], ())) SL SR (iw ((i : Int) + 1))) := by kernel_rfl
noncomputable def pnK6 : List Item := leftT [false] (pmR pnK5 (pnT2 pc0 [] 0 z6 0 0 21 [] [] [] [] 0))
theorem pn_f2 : pieceT kpM [22] [] [false] (pmR pnK5 (pnT2 s ms n t nl nr 21 g h SL SR i)) = some ([decide ((i : Int) < s.nh)], pnK6, pmA ms n (one .nilp) (one .nilp) (0 : Nat) []) := by kernel_rfl
end
end Go.Sc
