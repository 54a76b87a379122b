/- The law's own functions: is, sameNums, line, sameLines. -/
import Derived.Test.YtdblbibjggeikaaGreatDoorG1
set_option linter.unusedSectionVars false
set_option linter.unusedVariables false
set_option linter.unusedSimpArgs false
namespace Go.Sc
open Go Go.SX Go.Proofs
variable [Level] [Lone]
def Tis (vs : List V1) (hl : Heap) : Tree (SV × Heap) :=
 match vs, hl with
 | [.g [.ws .u64 4 xs], .g [.ws .u64 4 ys]], [] => .ret (.one (.c (.bool false (xs == ys && true))), [])
 | _, _ => .fail
theorem is_b (xs ys : List Int) : (bodyT N1 Tryz.prog allLoops Tryz.f62 (cd Tryz.f62) [ws xs, ws ys] []).path [] = some ([], .one (.c (.bool false (xs == ys && true))), []) := by kernel_rfl
theorem ok_is : EntryOk Tryz.prog G0 62 Tis := by
 refine EntryOk.sub (bodyT_ok okN1 mx (un := allLoops) (fn := Tryz.f62) (c := cd Tryz.f62) (by kernel_rfl) (by kernel_rfl) (by kernel_rfl)) (fun vs hl r ok h => ?_)
 unfold Tis at h;split at h
 ·rename_i xs ys;obtain rfl := val_ret h;exact Tree.path_val (is_b xs ys)
 ·cases h
noncomputable def rSN (k : List Item) (s : St) : Tree Out := runK N1 Tryz.prog noLoops 400 k s
noncomputable def sSN (xs ys : List (List Int)) (n m : Nat) : St := ⟨enterT Tryz.f63 [.c (.ro WS xs n), .c (.ro WS ys m)], []⟩
noncomputable def KSN : List Item := leftT [false] (rSN [.code (cd Tryz.f63)] (sSN [] [] 0 0))
noncomputable def stSN (xs ys : List (List Int)) (n m : Nat) (i : Int) : St := ⟨slotsOf 26 [(0, one (.ro WS xs n)), (1, one (.ro WS ys m)), (5, one (.int false .i64 i)), (6, one (.ro WS xs n)), (7, one (.int false .i64 n)), (8, one (.ro WS ys m))], []⟩
theorem sn_a (xs ys : List (List Int)) (n m : Nat) : pieceT [0, 1, 5, 6, 7, 8] [5] [] [false] (rSN [.code (cd Tryz.f63)] (sSN xs ys n m)) =
  some ([(n : Int) != m], KSN, stSN xs ys n m (0 : Nat)) := by kernel_rfl
theorem sn_b (xs ys : List (List Int)) (n m i : Nat) : pieceT [0, 1, 5, 6, 7, 8] [5] [] [true, true, true, false] (rSN KSN (stSN xs ys n m i)) =
  some ([decide ((i : Int) < n), decide (0 <= (i : Int) /\ (i : Int) < n), decide (0 <= (i : Int) /\ (i : Int) < m), !(xs.getD i zL == ys.getD i zL && true)], KSN, stSN xs ys n m (iw ((i : Int) + 1))) := by kernel_rfl
theorem sn_c (xs ys : List (List Int)) (n m i : Nat) : endT Tryz.prog Tryz.f63 [] [false] (rSN KSN (stSN xs ys n m i)) =
  some ([decide ((i : Int) < n)], .one (.c (.bool true true)), []) := by kernel_rfl
theorem sn_nil : endT Tryz.prog Tryz.f63 [] [] (runK N1 Tryz.prog allLoops 400 [.code (cd Tryz.f63)] ⟨enterT Tryz.f63 [.c .nils, .c .nils], []⟩) = some ([], .one (.c (.bool true true)), []) := by kernel_rfl
def snB (xs ys : List (List Int)) (n m : Nat) : Bool := decide (n = m /\ n <= 1048576 /\ n <= xs.length /\ xs.take n = ys.take n)
def TsameN (vs : List V1) (hl : Heap) : Tree (SV × Heap) :=
 match vs, hl with
 | [.c .nils, .c .nils], [] => .ret (.one (.c (.bool false true)), [])
 | [.c (.ro (.ws .u64 4) xs n), .c (.ro (.ws .u64 4) ys m)], [] => Tree.chk (snB xs ys n m) (.ret (.one (.c (.bool false true)), []))
 | _, _ => .fail
theorem getD_take {α : Type} {xs ys : List α} {n i : Nat} {z : α} (h : xs.take n = ys.take n) (hi : i < n) : xs.getD i z = ys.getD i z := by
 have e : (xs.take n)[i]? = (ys.take n)[i]? := by rw [h]
 rw [List.getElem?_take_of_lt hi, List.getElem?_take_of_lt hi] at e
 rw [List.getD_eq_getElem?_getD, List.getD_eq_getElem?_getD, e]
theorem sn_runs {xs ys : List (List Int)} {n : Nat} (hb : n <= 1048576) (h : xs.take n = ys.take n) : Runs Tryz.prog N1 Tryz.f63 0 [.code (cd Tryz.f63)] (sSN xs ys n n) (.one (.c (.bool true true))) [] := by
 have ha := sn_a xs ys n n
 rw [bne_self_eq_false] at ha;refine Runs.piece okN1 mx ha rfl (by rfl) ?_
 refine loopG (st := fun k (_ : Unit) => stSN xs ys n n k) (I := fun _ _ => True) (n := n) (fun k a hk _ => ⟨(), trivial, fun hr => ?_⟩) (fun _ _ => ?_) n 0 () (by omega) trivial
 ·have hb := sn_b xs ys n n k
  rw [iwk (by omega), decide_eq_true (by omega), decide_eq_true (by omega), getD_take h hk, beq_self_eq_true] at hb
  exact Runs.piece okN1 mx hb rfl (by rfl) hr
 ·exact Runs.last okN1 mx (sn_c xs ys n n n) (by rw [decide_eq_false (by omega)]) (by rfl)
theorem ok_sameN : EntryOk Tryz.prog G0 63 TsameN := by
 refine EntryOk.runs (S := N1) (fn := Tryz.f63) (c := cd Tryz.f63) (by kernel_rfl) (by kernel_rfl) (by kernel_rfl) (fun vs hl r hl' ok h => ?_)
 unfold TsameN at h;split at h
 ·obtain ⟨rfl, rfl⟩ := Prod.mk.inj (val_ret h);exact (Runs.last okN1 mx sn_nil (by rfl) (by rfl)).resU
 ·rename_i xs n ys m;obtain ⟨h1, h2⟩ := val_chk h;obtain ⟨rfl, h3, h4, h5⟩ := of_decide_eq_true h1;obtain ⟨rfl, rfl⟩ := Prod.mk.inj (val_ret h2);exact (sn_runs h3 h5).resU
 ·cases h
def lnB (a : List Int) (n : Int) (k : List Int) : Bool := (leL a == (if n = 0 then zL else k)) && true
def Tlline (vs : List V1) (hl : Heap) : Tree (SV × Heap) :=
 match vs, hl with
 | [.g [.ws .u64 4 a], u], [] => match eArg u with
  | some (n, k) => Tree.chk (decide (n = 0 \/ n = 2)) (.ret (.one (.c (.bool false (lnB a n k))), []))
  | none => .fail
 | _, _ => .fail
theorem ln_1 {L : Cell} (h : EmL L) (n : Int) (p q a k : List Int) : (bodyT N1 Tryz.prog allLoops Tryz.f61 (cd Tryz.f61) [ws a, .g (eF false n p q k L)] []).path [true, true] = some ([n == 0, decide ((2 : Int) = 2 /\ (2 : Int) = 2)], .one (.c (.bool false (leL a == zL && true))), []) := by
 cases h <;> kernel_rfl
theorem ln_2 {L : Cell} (h : EmL L) (n : Int) (p q a k : List Int) : (bodyT N1 Tryz.prog allLoops Tryz.f61 (cd Tryz.f61) [ws a, .g (eF false n p q k L)] []).path [false, true] = some ([n == 0, decide ((2 : Int) = 2 /\ n = 2)], .one (.c (.bool false (leL a == k && true))), []) := by
 cases h <;> kernel_rfl
theorem ok_lline : EntryOk Tryz.prog G0 61 Tlline := by
 refine EntryOk.sub (bodyT_ok okN1 mx (un := allLoops) (fn := Tryz.f61) (c := cd Tryz.f61) (by kernel_rfl) (by kernel_rfl) (by kernel_rfl)).unlitG (fun vs hl r ok h => ?_)
 unfold Tlline at h;split at h
 ·rename_i a u;split at h
  ·rename_i n k e;obtain ⟨h1, h2⟩ := val_chk h;obtain rfl := val_ret h2;obtain ⟨p, q, L, g1, g2⟩ := eArg_eq e;rw [List.map_cons, List.map_cons, List.map_nil, g2];unfold lnB;rcases of_decide_eq_true h1 with rfl | rfl
   ·have := ln_1 g1 0 p q a k
    rw [if_pos rfl];exact Tree.path_val this
   ·have := ln_2 g1 2 p q a k
    rw [if_neg (by decide)]
    exact Tree.path_val this
  ·cases h
 ·cases h
noncomputable def rSL (k : List Item) (s : St) : Tree Out := runK N1 Tryz.prog noLoops 400 k s
noncomputable def sSL (xs : List PL.den) (ys : List ED.den) (n m : Nat) : St := ⟨enterT Tryz.f18 [.c (.ro PL xs n), .c (.ro ED ys m)], []⟩
noncomputable def KSL : List Item := leftT [false] (rSL [.code (cd Tryz.f18)] (sSL [] [] 0 0))
noncomputable def stSL (xs : List PL.den) (ys : List ED.den) (n m : Nat) (i : Int) : St := ⟨slotsOf 28 [(0, one (.ro PL xs n)), (1, one (.ro ED ys m)), (5, one (.int false .i64 i))], []⟩
theorem sll_a (xs : List PL.den) (ys : List ED.den) (n m : Nat) : pieceT [0, 1, 5] [5] [] [false] (rSL [.code (cd Tryz.f18)] (sSL xs ys n m)) = some ([(n : Int) != m], KSL, stSL xs ys n m (0 : Nat)) := by kernel_rfl
theorem sll_b (xs : List PL.den) (ys : List ED.den) (n m i : Nat) : pieceT [0, 1, 5] [5] [] [true, true, true, true, false] (rSL KSL (stSL xs ys n m i)) =
  some ([decide ((i : Int) < n), decide (0 <= (i : Int) /\ (i : Int) < n), decide (0 <= (i : Int) /\ (i : Int) < m), decide ((2 : Int) = 2 /\ eK ys i = 2), !(leL (gK xs i) == eL ys i && true)], KSL, stSL xs ys n m (iw ((i : Int) + 1))) := by kernel_rfl
theorem sll_c (xs : List PL.den) (ys : List ED.den) (n m i : Nat) : endT Tryz.prog Tryz.f18 [] [false] (rSL KSL (stSL xs ys n m i)) = some ([decide ((i : Int) < n)], .one (.c (.bool true true)), []) := by kernel_rfl
def slB (xs : List PL.den) (ys : List ED.den) : Nat -> Bool
 | 0 => true
 | k + 1 => slB xs ys k && (decide (eK ys k = 2) && (leL (gK xs k) == eL ys k))
theorem slB_of {xs : List PL.den} {ys : List ED.den} : ∀ {n : Nat}, slB xs ys n = true -> ∀ i, i < n -> eK ys i = 2 /\ (leL (gK xs i) == eL ys i) = true
 | 0, _ => fun i hi => absurd hi (Nat.not_lt_zero _)
 | n + 1, h => by
  rw [slB, Bool.and_eq_true, Bool.and_eq_true, decide_eq_true_eq] at h;intro i hi;rcases Nat.lt_or_ge i n with hlt | hge
  ·exact slB_of h.1 i hlt
  ·obtain rfl : i = n := by omega
   exact h.2
def TsameL (vs : List V1) (hl : Heap) : Tree (SV × Heap) :=
 match vs, hl with
 | [.c (.ro (.pair (.ws .u64 4) .unit) xs n), .c (.ro (.pair (.int .i64) (.pair (.pair (.pair (.ws .i64 10) (.pair (.ws .i64 10) .unit)) .unit) (.pair (.ws .u64 4) (.pair (.sl (.ws .u64 4)) .unit)))) ys m)], [] => Tree.chk (decide (n = m /\ n <= 1048576) && slB xs ys n) (.ret (.one (.c (.bool false true)), []))
 | _, _ => .fail
theorem sll_runs {xs : List PL.den} {ys : List ED.den} {n : Nat} (hb : n <= 1048576) (h : slB xs ys n = true) : Runs Tryz.prog N1 Tryz.f18 0 [.code (cd Tryz.f18)] (sSL xs ys n n) (.one (.c (.bool true true))) [] := by
 have ha := sll_a xs ys n n
 rw [bneq' rfl] at ha;refine Runs.piece okN1 mx ha rfl (by rfl) ?_
 refine loopG (st := fun k (_ : Unit) => stSL xs ys n n k) (I := fun _ _ => True) (n := n) (fun k a hk _ => ⟨(), trivial, fun hr => ?_⟩) (fun _ _ => ?_) n 0 () (by omega) trivial
 ·have hb := sll_b xs ys n n k
  obtain ⟨q1, q2⟩ := slB_of h k hk;rw [iwk (by omega), decide_eq_true (show (k : Int) < n by omega), decide_eq_true (show 0 <= (k : Int) /\ (k : Int) < n by omega), decide_eq_true (show (2 : Int) = 2 /\ eK ys k = 2 from ⟨rfl, q1⟩), q2] at hb
  exact Runs.piece okN1 mx hb rfl (by rfl) hr
 ·exact Runs.last okN1 mx (sll_c xs ys n n n) (by rw [decide_eq_false (by omega)]) (by rfl)
theorem ok_lsameLines : EntryOk Tryz.prog G0 18 TsameL := by
 refine EntryOk.runs (S := N1) (fn := Tryz.f18) (c := cd Tryz.f18) (by kernel_rfl) (by kernel_rfl) (by kernel_rfl) (fun vs hl r hl' ok h => ?_)
 unfold TsameL at h;split at h
 ·rename_i xs n ys m;obtain ⟨h1, h2⟩ := val_chk h;rw [Bool.and_eq_true] at h1;obtain ⟨rfl, h3⟩ := of_decide_eq_true h1.1;obtain ⟨rfl, rfl⟩ := Prod.mk.inj (val_ret h2);exact (sll_runs h3 h1.2).resU
 ·cases h
noncomputable def N2 : Tab := (((N1.put 62 0 Tis).put 63 0 TsameN).put 61 0 Tlline).put 18 0 TsameL
theorem okN2 : SpecOk Tryz.prog N2 := (((okN1.put ok_is).put ok_sameN).put ok_lline).put ok_lsameLines
noncomputable def svR (k : List Item) (s : St) : Tree Out := runK N2 Tryz.prog noLoops 400 k s
structure ElA where
 n : Int
 p : List Int
 q : List Int
 k : List Int
structure DvA where
 A : ElA
 S : ElA
 T1 : ElA
 T2 : ElA
 Y : List Int
 Z : List Int
 X : List Int
 Tx : List Int
 Mu : List Int
 Th : List Int
def elF (e : ElA) : List FCell := eF false e.n e.p e.q e.k .nils
def dvG (d : DvA) (l r : Cell) : List FCell := elF d.A ++ elF d.S ++ elF d.T1 ++ elF d.T2 ++ [.ws .u64 4 d.Y, .ws .u64 4 d.Z, .ws .u64 4 d.X, .ws .u64 4 d.Tx, .ws .u64 4 d.Mu, .ws .u64 4 d.Th, .c l, .c r]
def elB (a : List Int) (e : ElA) : Bool := decide (e.n = 0 \/ e.n = 2) && lnB a e.n e.k
theorem sv_a (u : Vw) (d : DvA) : endT Tryz.prog Tryz.f15 [] [true, true, true, true, true, true, true, false, true, true, true, true, true, true, true] (svR [.code (cd Tryz.f15)] ⟨enterT Tryz.f15 [.g (vwF u .nils .nils), .g (dvG d .nils .nils)], []⟩) =
  some ([decide (d.A.n = 0 \/ d.A.n = 2), (!lnB u.A d.A.n d.A.k) == false, decide (d.S.n = 0 \/ d.S.n = 2), (!lnB u.S d.S.n d.S.k) == false, decide (d.T1.n = 0 \/ d.T1.n = 2), (!lnB u.T1 d.T1.n d.T1.k) == false, decide (d.T2.n = 0 \/ d.T2.n = 2), !lnB u.T2 d.T2.n d.T2.k,
   (u.Y == d.Y && true) == true, (u.Z == d.Z && true) == true, (u.X == d.X && true) == true, (u.Tx == d.Tx && true) == true, (u.Mu == d.Mu && true) == true, (u.Th == d.Th && true) == true, true], .one (.c (.bool false true)), []) := by kernel_rfl
theorem sv_b (u : Vw) (d : DvA) (L R L' R' : List (List Int)) (n n' m m' : Nat) : endT Tryz.prog Tryz.f15 [] [true, true, true, true, true, true, true, false, true, true, true, true, true, true, true, true, true] (svR [.code (cd Tryz.f15)] ⟨enterT Tryz.f15 [.g (vwF u (.ro WS L n) (.ro WS R m)), .g (dvG d (.ro WS L' n') (.ro WS R' m'))], []⟩) =
  some ([decide (d.A.n = 0 \/ d.A.n = 2), (!lnB u.A d.A.n d.A.k) == false, decide (d.S.n = 0 \/ d.S.n = 2), (!lnB u.S d.S.n d.S.k) == false, decide (d.T1.n = 0 \/ d.T1.n = 2), (!lnB u.T1 d.T1.n d.T1.k) == false, decide (d.T2.n = 0 \/ d.T2.n = 2), !lnB u.T2 d.T2.n d.T2.k,
   (u.Y == d.Y && true) == true, (u.Z == d.Z && true) == true, (u.X == d.X && true) == true, (u.Tx == d.Tx && true) == true, (u.Mu == d.Mu && true) == true, (u.Th == d.Th && true) == true, snB L L' n n', true, snB R R' m m'], .one (.c (.bool false true)), []) := by kernel_rfl
def pU (v : V1) : Option (Vw × Cell × Cell) := match v with
 | .g [.ws .u64 4 A, .ws .u64 4 S, .ws .u64 4 T1, .ws .u64 4 T2, .ws .u64 4 Y, .ws .u64 4 Z, .ws .u64 4 X, .ws .u64 4 Tx, .ws .u64 4 Mu, .ws .u64 4 Th, .c L, .c R] => some (⟨A, S, T1, T2, Y, Z, X, Tx, Mu, Th⟩, L, R)
 | _ => none
theorem pU_eq {v : V1} {u : Vw} {L R : Cell} (h : pU v = some (u, L, R)) : v = .g (vwF u L R) := by
 unfold pU at h;split at h
 ·simp only [Option.some.injEq, Prod.mk.injEq] at h;obtain ⟨rfl, rfl, rfl⟩ := h;rfl
 ·cases h
def pEl (l : List FCell) : Option (ElA × List FCell) := match l with
 | .c (.int _ .i64 n) :: .ws .i64 10 p :: .ws .i64 10 q :: .ws .u64 4 k :: .c .nils :: r => some (⟨n, p, q, k⟩, r)
 | _ => none
theorem pEl_eq {l r : List FCell} {e : ElA} (h : pEl l = some (e, r)) : ∃ f, l = .c (.int f .i64 e.n) :: .ws .i64 10 e.p :: .ws .i64 10 e.q :: .ws .u64 4 e.k :: .c .nils :: r := by
 unfold pEl at h;split at h
 ·simp only [Option.some.injEq, Prod.mk.injEq] at h;obtain ⟨rfl, rfl⟩ := h;exact ⟨_, rfl⟩
 ·cases h
def pTl (l : List FCell) : Option ((List Int × List Int × List Int × List Int × List Int × List Int) × Cell × Cell) := match l with
 | [.ws .u64 4 Y, .ws .u64 4 Z, .ws .u64 4 X, .ws .u64 4 Tx, .ws .u64 4 Mu, .ws .u64 4 Th, .c L, .c R] => some ((Y, Z, X, Tx, Mu, Th), L, R)
 | _ => none
theorem pTl_eq {l : List FCell} {Y Z X Tx Mu Th : List Int} {L R : Cell} (h : pTl l = some ((Y, Z, X, Tx, Mu, Th), L, R)) : l = [.ws .u64 4 Y, .ws .u64 4 Z, .ws .u64 4 X, .ws .u64 4 Tx, .ws .u64 4 Mu, .ws .u64 4 Th, .c L, .c R] := by
 unfold pTl at h;split at h
 ·simp only [Option.some.injEq, Prod.mk.injEq] at h;obtain ⟨⟨rfl, rfl, rfl, rfl, rfl, rfl⟩, rfl, rfl⟩ := h;rfl
 ·cases h
def pDv (v : V1) : Option (DvA × Cell × Cell) := match v with
 | .g l => match pEl l with
  | some (A, l) => match pEl l with
   | some (S, l) => match pEl l with
    | some (T1, l) => match pEl l with
     | some (T2, l) => match pTl l with
      | some ((Y, Z, X, Tx, Mu, Th), L, R) => some (⟨A, S, T1, T2, Y, Z, X, Tx, Mu, Th⟩, L, R)
      | none => none
     | none => none
    | none => none
   | none => none
  | none => none
 | _ => none
theorem pDv_eq {v : V1} {d : DvA} {L R : Cell} (h : pDv v = some (d, L, R)) : unlG v = unlG (.g (dvG d L R)) := by
 unfold pDv at h;split at h <;> try cases h
 split at h <;> try cases h
 rename_i e1;split at h <;> try cases h
 rename_i e2;split at h <;> try cases h
 rename_i e3;split at h <;> try cases h
 rename_i e4;split at h <;> try cases h
 rename_i e5;obtain rfl := pTl_eq e5;obtain ⟨f4, rfl⟩ := pEl_eq e4;obtain ⟨f3, rfl⟩ := pEl_eq e3;obtain ⟨f2, rfl⟩ := pEl_eq e2;obtain ⟨f1, rfl⟩ := pEl_eq e1;rfl
def vB (u : Vw) (d : DvA) : Bool := (elB u.A d.A && elB u.S d.S && elB u.T1 d.T1 && elB u.T2 d.T2) && ((u.Y == d.Y) && (u.Z == d.Z) && (u.X == d.X) && (u.Tx == d.Tx) && (u.Mu == d.Mu) && (u.Th == d.Th))
def TsameView (vs : List V1) (hl : Heap) : Tree (SV × Heap) :=
 match vs, hl with
 | [x, y], [] => match pU x, pDv y with
  | some (u, .nils, .nils), some (d, .nils, .nils) => Tree.chk (vB u d) (.ret (.one (.c (.bool false true)), []))
  | some (u, .ro (.ws .u64 4) L n, .ro (.ws .u64 4) R m), some (d, .ro (.ws .u64 4) L' n', .ro (.ws .u64 4) R' m') => Tree.chk (vB u d && (snB L L' n n' && snB R R' m m')) (.ret (.one (.c (.bool false true)), []))
  | _, _ => .fail
 | _, _ => .fail
theorem ok_lsameView : EntryOk Tryz.prog G0 15 TsameView := by
 refine EntryOk.unlitRuns (S := N2) (fn := Tryz.f15) (c := cd Tryz.f15) (by kernel_rfl) (by kernel_rfl) (by kernel_rfl) (fun vs hl r hl' ok h => ?_)
 unfold TsameView at h;split at h
 ·rename_i x y;split at h
  ·rename_i u d e1 e2;obtain ⟨h1, h2⟩ := val_chk h;obtain ⟨rfl, rfl⟩ := Prod.mk.inj (val_ret h2);unfold vB elB at h1;simp only [Bool.and_eq_true] at h1;obtain ⟨⟨⟨⟨⟨a1, a2⟩, b1, b2⟩, c1, c2⟩, d1, d2⟩, ⟨⟨⟨⟨f1, f2⟩, f3⟩, f4⟩, f5⟩, f6⟩ := h1;have q := sv_a u d
   rw [a1, a2, b1, b2, c1, c2, d1, d2, f1, f2, f3, f4, f5, f6] at q;rw [List.map_cons, List.map_cons, List.map_nil, pDv_eq e2, pU_eq e1];exact Runs.last okN2 mx q rfl (by rfl)
  ·rename_i u L n R m d L' n' R' m' e1 e2;obtain ⟨h1, h2⟩ := val_chk h;obtain ⟨rfl, rfl⟩ := Prod.mk.inj (val_ret h2);rw [Bool.and_eq_true, Bool.and_eq_true] at h1;obtain ⟨h1, g1, g2⟩ := h1;unfold vB elB at h1;simp only [Bool.and_eq_true] at h1;obtain ⟨⟨⟨⟨⟨a1, a2⟩, b1, b2⟩, c1, c2⟩, d1, d2⟩, ⟨⟨⟨⟨f1, f2⟩, f3⟩, f4⟩, f5⟩, f6⟩ := h1;have q := sv_b u d L R L' R' n n' m m'
   rw [a1, a2, b1, b2, c1, c2, d1, d2, f1, f2, f3, f4, f5, f6, g1, g2] at q;rw [List.map_cons, List.map_cons, List.map_nil, pDv_eq e2, pU_eq e1];exact Runs.last okN2 mx q rfl (by rfl)
  ·cases h
 ·cases h
noncomputable def N3 : Tab := N2.put 15 0 TsameView
theorem okN3 : SpecOk Tryz.prog N3 := okN2.put ok_lsameView
noncomputable def twR (k : List Item) (s : St) : Tree Out := runK N3 Tryz.prog noLoops 400 k s
theorem tape_a (a r t1 t2 : List Int) (sl : List (List Int)) (nl : Nat) (sr : List (List Int)) (nr : Nat) : endT Tryz.prog Tryz.f11 [2, 3] [true, true] (twR [.code (cd Tryz.f11)] ⟨enterT Tryz.f11 [.g (tapeF a r t1 t2 sl nl sr nr)], []⟩) =
  some ([decide (nl <= 1048576), decide (nr <= 1048576)], .one (.g [.ws .u64 4 (leL a), .ws .u64 4 (leL r), .ws .u64 4 (leL t1), .ws .u64 4 (leL t2), .c (.sl 0 0 nl), .c (.sl 1 0 nr)]), [.arr WS (mqnL sl nl) 0 [], .arr WS (mqnL sr nr) 0 []]) := by kernel_rfl
def Tltape (vs : List V1) (hl : Heap) : Tree (SV × Heap) :=
 match vs, hl with
 | [.g [.ws .u64 4 a, .ws .u64 4 r, .ws .u64 4 t1, .ws .u64 4 t2, .c (.ro (.ws .u64 4) sl nl), .c (.ro (.ws .u64 4) sr nr)]], [] =>
  Tree.chk (decide (nl <= 1048576) && decide (nr <= 1048576)) (.ret (.one (.g [.ws .u64 4 (leL a), .ws .u64 4 (leL r), .ws .u64 4 (leL t1), .ws .u64 4 (leL t2), .c (.sl 0 0 nl), .c (.sl 1 0 nr)]), [.arr WS (mqnL sl nl) 0 [], .arr WS (mqnL sr nr) 0 []]))
 | _, _ => .fail
theorem ok_ltape : EntryOk Tryz.prog G0 11 Tltape := by
 refine EntryOk.runs (S := N3) (fn := Tryz.f11) (c := cd Tryz.f11) (by kernel_rfl) (by kernel_rfl) (by kernel_rfl) (fun vs hl res hl' ok h => ?_)
 unfold Tltape at h;split at h
 ·rename_i a r t1 t2 sl nl sr nr;obtain ⟨h1, h2⟩ := val_chk h;rw [Bool.and_eq_true] at h1;obtain ⟨rfl, rfl⟩ := Prod.mk.inj (val_ret h2);exact Runs.last okN3 mx (tape_a a r t1 t2 sl nl sr nr) (by rw [h1.1, h1.2]) (by rfl)
 ·cases h
def twM (sl : List (List Int)) (nl : Nat) (m : Int) : List (List Int) := sl.take nl ++ [[m, 0, 0, 0]]
def twN (sl : List (List Int)) (nl : Nat) : Int := iw ((((sl.take nl).length + 1 : Nat) : Int) - 1)
def twC (sl : List (List Int)) (nl : Nat) (m : Int) : Bool := true && bndPos (some (one (.int false .i64 (twN sl nl)))) && decide (0 <= (twN sl nl).toNat /\ 0 + (twN sl nl).toNat <= (twM sl nl m).length)
theorem twin_a (a r t1 t2 : List Int) (sl : List (List Int)) (nl : Nat) (sr : List (List Int)) (nr : Nat) : endT Tryz.prog Tryz.f7 [5, 7] [true, true, true, true, true, true] (twR [.code (cd Tryz.f7)] ⟨enterT Tryz.f7 [.g (tapeF a r t1 t2 sl nl sr nr)], []⟩) =
  some ([roomW (sl.take nl).length, roomW (sr.take nr).length, decide ((sl.take nl).length = (sl.take nl).length) && roomW ((sl.take nl).length + 1), decide ((sr.take nr).length = (sr.take nr).length) && roomW ((sr.take nr).length + 1), twC sl nl 77, twC sr nr 78],
   .one (.g [.ws .u64 4 a, .ws .u64 4 r, .ws .u64 4 t1, .ws .u64 4 t2, .c (.sl 0 0 (twN sl nl).toNat), .c (.sl 1 0 (twN sr nr).toNat)]), [.arr WS (twM sl nl 77) 0 [], .arr WS (twM sr nr 78) 0 []]) := by kernel_rfl
theorem twN_eq {sl : List (List Int)} {nl : Nat} (h : nl <= 1048575) : twN sl nl = ((sl.take nl).length : Int) := by
 have := take_le sl nl
 unfold twN iw;rw [IntKind.wrap_i64];omega
theorem twC_ok {sl : List (List Int)} {nl : Nat} (m : Int) (h : nl <= 1048575) : twC sl nl m = true := by
 unfold twC;rw [twN_eq h, Int.toNat_natCast, Nat.zero_add];have e : (twM sl nl m).length = (sl.take nl).length + 1 := List.length_append
 rw [e, decide_eq_true (show 0 <= (sl.take nl).length /\ (sl.take nl).length <= (sl.take nl).length + 1 by omega)]
 show (true && decide (0 <= ((sl.take nl).length : Int)) && true) = true
 rw [decide_eq_true (by omega)]; rfl
theorem twin_runs (a r t1 t2 : List Int) (sl : List (List Int)) (nl : Nat) (sr : List (List Int)) (nr : Nat) (hl : nl <= 1048575) (hr : nr <= 1048575) : Runs Tryz.prog N3 Tryz.f7 0 [.code (cd Tryz.f7)] ⟨enterT Tryz.f7 [.g (tapeF a r t1 t2 sl nl sr nr)], []⟩
  (.one (.g [.ws .u64 4 a, .ws .u64 4 r, .ws .u64 4 t1, .ws .u64 4 t2, .c (.sl 0 0 (sl.take nl).length), .c (.sl 1 0 (sr.take nr).length)])) [.arr WS (twM sl nl 77) 0 [], .arr WS (twM sr nr 78) 0 []] := by
 have q := twin_a a r t1 t2 sl nl sr nr
 have e1 := take_le sl nl
 have e2 := take_le sr nr
 rw [twC_ok 77 hl, twC_ok 78 hr, twN_eq hl, twN_eq hr, Int.toNat_natCast, Int.toNat_natCast, roomWk (show (sl.take nl).length <= 1048576 by omega), roomWk (show (sr.take nr).length <= 1048576 by omega), roomWk (show (sl.take nl).length + 1 <= 1048576 by omega), roomWk (show (sr.take nr).length + 1 <= 1048576 by omega), decide_eq_true rfl, decide_eq_true rfl] at q
 exact Runs.last okN3 mx q rfl (by rfl)
def Tltwin (vs : List V1) (hl : Heap) : Tree (SV × Heap) :=
 match vs, hl with
 | [.g [.ws .u64 4 a, .ws .u64 4 r, .ws .u64 4 t1, .ws .u64 4 t2, .c (.ro (.ws .u64 4) sl nl), .c (.ro (.ws .u64 4) sr nr)]], [] =>
  Tree.chk (decide (nl <= 1048575 /\ nr <= 1048575)) (.ret (.one (.g [.ws .u64 4 a, .ws .u64 4 r, .ws .u64 4 t1, .ws .u64 4 t2, .c (.sl 0 0 (sl.take nl).length), .c (.sl 1 0 (sr.take nr).length)]), [.arr WS (twM sl nl 77) 0 [], .arr WS (twM sr nr 78) 0 []]))
 | _, _ => .fail
theorem ok_ltwin : EntryOk Tryz.prog G0 7 Tltwin := by
 refine EntryOk.runs (S := N3) (fn := Tryz.f7) (c := cd Tryz.f7) (by kernel_rfl) (by kernel_rfl) (by kernel_rfl) (fun vs hl res hl' ok h => ?_)
 unfold Tltwin at h;split at h
 ·rename_i a r t1 t2 sl nl sr nr;obtain ⟨h1, h2⟩ := val_chk h;obtain ⟨q1, q2⟩ := of_decide_eq_true h1;obtain ⟨rfl, rfl⟩ := Prod.mk.inj (val_ret h2);exact twin_runs a r t1 t2 sl nl sr nr q1 q2
 ·cases h
noncomputable def N4 : Tab := (N3.put 11 2 Tltape).put 7 6 Tltwin
theorem okN4 : SpecOk Tryz.prog N4 := (okN3.put ok_ltape).put ok_ltwin
end Go.Sc
