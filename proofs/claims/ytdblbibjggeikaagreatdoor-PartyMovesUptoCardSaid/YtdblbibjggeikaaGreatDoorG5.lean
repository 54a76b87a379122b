/- PartyMoves: the law's own functions: tape, twin, stays. (Printed by tools/law14.py out of Eee, Pt4.) -/
import Derived.Test.YtdblbibjggeikaaGreatDoorG4
import Derived.Test.YtdblbibjggeikaaGreatDoorB6
set_option linter.unusedSectionVars false
set_option linter.unusedVariables false
set_option linter.unusedSimpArgs false
namespace Go.Sc
open Go Go.SX Go.Proofs
variable [Level] [Lone]
noncomputable def taR (k : List Item) (s : St) : Tree Out := runK N3 Tryz.prog noLoops 400 k s
theorem tape_a (a r t1 t2 : List Int) (sl : List (List Int)) (nl : Nat) (sr : List (List Int)) (nr : Nat) : endT Tryz.prog Tryz.f28 [2, 3] [true, true] (taR [.code (cd Tryz.f28)] ⟨enterT Tryz.f28 [.g (tapeF a r t1 t2 sl nl sr nr)], []⟩) =
  some ([decide (nl <= 1048576), decide (nr <= 1048576)], .one (.g [.ws .u64 4 (leL a), .ws .u64 4 (leL r), .ws .u64 4 (leL t1), .ws .u64 4 (leL t2), .c (.sl 0 0 nl), .c (.sl 1 0 nr)]), [.arr WS (mqnL sl nl) 0 [], .arr WS (mqnL sr nr) 0 []]) := by kernel_rfl
def Tltape (vs : List V1) (hl : Heap) : Tree (SV × Heap) :=
 match vs, hl with
 | [.g [.ws .u64 4 a, .ws .u64 4 r, .ws .u64 4 t1, .ws .u64 4 t2, .c (.ro (.ws .u64 4) sl nl), .c (.ro (.ws .u64 4) sr nr)]], [] =>
  Tree.chk (decide (nl <= 1048576) && decide (nr <= 1048576)) (.ret (.one (.g [.ws .u64 4 (leL a), .ws .u64 4 (leL r), .ws .u64 4 (leL t1), .ws .u64 4 (leL t2), .c (.sl 0 0 nl), .c (.sl 1 0 nr)]), [.arr WS (mqnL sl nl) 0 [], .arr WS (mqnL sr nr) 0 []]))
 | _, _ => .fail
theorem ok_l14tape : EntryOk Tryz.prog G0 28 Tltape := by
 refine EntryOk.runs (S := N3) (fn := Tryz.f28) (c := cd Tryz.f28) (by kernel_rfl) (by kernel_rfl) (by kernel_rfl) (fun vs hl res hl' ok h => ?_)
 unfold Tltape at h;split at h
 ·rename_i a r t1 t2 sl nl sr nr;obtain ⟨h1, h2⟩ := val_chk h;rw [Bool.and_eq_true] at h1;obtain ⟨rfl, rfl⟩ := Prod.mk.inj (val_ret h2);exact Runs.last okN3 mx (tape_a a r t1 t2 sl nl sr nr) (by rw [h1.1, h1.2]) (by rfl)
 ·cases h
structure T6 where
 a : List Int
 r : List Int
 t1 : List Int
 t2 : List Int
 l : List (List Int)
 rr : List (List Int)
def z6 : T6 := ⟨zL, zL, zL, zL, [], []⟩
def t6C (x : T6) (l r : Cell) : List FCell := [.ws .u64 4 x.a, .ws .u64 4 x.r, .ws .u64 4 x.t1, .ws .u64 4 x.t2, .c l, .c r]
def gT (x : T6) (n m : Nat) : V1 := .g (t6C x (.ro WS x.l n) (.ro WS x.rr m))
def m77 : List Int := [77, 0, 0, 0]
def m78 : List Int := [78, 0, 0, 0]
noncomputable def tw1 (l : List (List Int)) (n : Nat) : Bool := true && roomW (0 + (l.take n).length)
noncomputable def tw2 (l : List (List Int)) (n : Nat) : Bool := decide (0 + (l.take n).length = ([] ++ l.take n).length) && roomW (0 + (l.take n).length + 1)
def twi (l : List (List Int)) (n : Nat) : Int := iw (((0 + (l.take n).length + 1 : Nat) : Int) - 1)
def tw3 (l : List (List Int)) (n : Nat) (m : List Int) : Bool := true && decide (0 <= twi l n) && decide (0 <= (twi l n).toNat /\ 0 + (twi l n).toNat <= ([] ++ l.take n ++ [m]).length)
theorem twin_b (x : T6) (n m : Nat) : (bodyT N3 Tryz.prog allLoops Tryz.f24 (cd Tryz.f24) [gT x n m] []).path [true, true, true, true, true, true] =
  some ([tw1 x.l n, tw2 x.l n, tw1 x.rr m, tw2 x.rr m, tw3 x.l n m77, tw3 x.rr m m78],
   .one (.g (t6C x (.sl 0 0 ((twi x.l n).toNat - 0)) (.sl 1 0 ((twi x.rr m).toNat - 0)))), [.arr WS ([] ++ x.l.take n ++ [m77]) 0 [], .arr WS ([] ++ x.rr.take m ++ [m78]) 0 []]) := by kernel_rfl
theorem tw_ok {l : List (List Int)} {n : Nat} {m : List Int} (h : n <= l.length) (hn : n <= 1048575) : tw1 l n = true /\ tw2 l n = true /\ tw3 l n m = true /\ (twi l n).toNat - 0 = n := by
 have e : (l.take n).length = n := by rw [List.length_take]; omega
 have ei : twi l n = n := by
  unfold twi;rw [e, show (((0 + n + 1 : Nat) : Int) - 1) = (n : Int) from by omega]
  exact wrap64 (by omega)
 refine ⟨?_, ?_, ?_, by rw [ei]; omega⟩
 ·unfold tw1; rw [e, roomWk (by omega)]; rfl
 ·unfold tw2; rw [List.nil_append, e, roomWk (by omega), deT (by omega)]; rfl
 ·unfold tw3;rw [ei, deT (by omega), deT (by rw [List.nil_append, List.length_append, e, Int.toNat_natCast]; simp)]; rfl
def Ttwin (vs : List V1) (hl : Heap) : Tree (SV × Heap) :=
 match vs, hl with
 | [.g [.ws .u64 4 a, .ws .u64 4 r, .ws .u64 4 t1, .ws .u64 4 t2, .c (.ro (.ws .u64 4) l n), .c (.ro (.ws .u64 4) rr m)]], [] =>
  Tree.chk (decide (n <= 1048575 /\ m <= 1048575 /\ n <= l.length /\ m <= rr.length)) (.ret (.one (.g (t6C ⟨a, r, t1, t2, [], []⟩ (.sl 0 0 n) (.sl 1 0 m))), [.arr WS (show List (List Int) from List.take (α := List Int) n l ++ [m77]) 0 [], .arr WS (show List (List Int) from List.take (α := List Int) m rr ++ [m78]) 0 []]))
 | _, _ => .fail
theorem ok_twin : EntryOk Tryz.prog G0 24 Ttwin := by
 refine EntryOk.sub (bodyT_ok okN3 mx (un := allLoops) (fn := Tryz.f24) (c := cd Tryz.f24) (by kernel_rfl) (by kernel_rfl) (by kernel_rfl)) (fun vs hl rs ok h => ?_)
 unfold Ttwin at h;split at h
 ·rename_i a r t1 t2 l n rr m;obtain ⟨h1, h2⟩ := val_chk h;obtain ⟨h3, h4, h5, h6⟩ := ofD h1;obtain rfl := val_ret h2;have hp := twin_b ⟨a, r, t1, t2, l, rr⟩ n m
  obtain ⟨g1, g2, g3, g4⟩ := tw_ok (m := m77) h5 h3;obtain ⟨k1, k2, k3, k4⟩ := tw_ok (m := m78) h6 h4;rw [g1, g2, g3, g4, k1, k2, k3, k4, List.nil_append, List.nil_append] at hp;exact Tree.path_val hp
 ·cases h
namespace Sy
noncomputable def r (k : List Item) (s : St) : Tree Out := runK N3 Tryz.prog noLoops 400 k s
noncomputable def s0 (x : T6) (n m : Nat) (y : T6) (n' m' : Nat) : St := ⟨enterT Tryz.f30 [gT x n m, gT y n' m'], []⟩
noncomputable def K1 : List Item := leftT [true, true] (r [.code (cd Tryz.f30)] (s0 z6 0 0 z6 0 0))
def hS (x : T6) (n m : Nat) : Blk := .vals (t6C x (.ro WS x.l n) (.ro WS x.rr m))
def syI (n : Nat) : Int := iw ((n : Int) + 1)
def sy1 (l : List (List Int)) (n : Nat) : Bool := true && decide (0 <= syI n) && decide (0 <= (syI n).toNat /\ (syI n).toNat <= l.length)
noncomputable def st1 (x : T6) (n m : Nat) (y : T6) (n' m' p q : Nat) (i : Int) : St := ⟨slotsOf 75 [(2, pt 0), (3, pt 1), (5, one (.ro WS x.l p)), (6, one (.ro WS x.rr q)), (7, one (.int false .i64 i))], [hS x n m, hS y n' m']⟩
theorem a (x y : T6) (n m n' m' : Nat) : pieceT [2, 3, 5, 6, 7] [7] [0, 1] [true, true] (r [.code (cd Tryz.f30)] (s0 x n m y n' m')) =
  some ([sy1 x.l n, sy1 x.rr m], K1, st1 x n m y n' m' ((syI n).toNat - 0) ((syI m).toNat - 0) (0 : Nat)) := by kernel_rfl
theorem b (x y : T6) (n m n' m' p q i : Nat) : pieceT [2, 3, 5, 6, 7] [7] [0, 1] [true, true, true, false] (r K1 (st1 x n m y n' m' p q i)) =
  some ([decide ((i : Int) < n'), decide (0 <= (i : Int) /\ (i : Int) < p), decide (0 <= (i : Int) /\ (i : Int) < n'), !(x.l.getD i zL == y.l.getD i zL && true)], K1, st1 x n m y n' m' p q (iw ((i : Int) + 1))) := by kernel_rfl
noncomputable def K2 : List Item := leftT [false] (r K1 (st1 z6 0 0 z6 0 0 0 0 0))
noncomputable def st2 (x : T6) (n m : Nat) (y : T6) (n' m' p q : Nat) (i : Int) : St := ⟨slotsOf 75 [(2, pt 0), (3, pt 1), (5, one (.ro WS x.l p)), (6, one (.ro WS x.rr q)), (8, one (.int false .i64 i))], [hS x n m, hS y n' m']⟩
theorem c (x y : T6) (n m n' m' p q i : Nat) : pieceT [2, 3, 5, 6, 8] [8] [0, 1] [false] (r K1 (st1 x n m y n' m' p q i)) =
  some ([decide ((i : Int) < n')], K2, st2 x n m y n' m' p q (0 : Nat)) := by kernel_rfl
theorem d (x y : T6) (n m n' m' p q i : Nat) : pieceT [2, 3, 5, 6, 8] [8] [0, 1] [true, true, true, false] (r K2 (st2 x n m y n' m' p q i)) =
  some ([decide ((i : Int) < m'), decide (0 <= (i : Int) /\ (i : Int) < q), decide (0 <= (i : Int) /\ (i : Int) < m'), !(x.rr.getD i zL == y.rr.getD i zL && true)], K2, st2 x n m y n' m' p q (iw ((i : Int) + 1))) := by kernel_rfl
theorem e (x y : T6) (n m n' m' p q i : Nat) : endT Tryz.prog Tryz.f30 [] [false, true, true, true] (r K2 (st2 x n m y n' m' p q i)) =
  some ([decide ((i : Int) < m'), decide (0 <= (n' : Int) /\ (n' : Int) < p), (x.l.getD n' zL == m77 && true) == true, decide (0 <= (m' : Int) /\ (m' : Int) < q)], .one (.c (.bool false (x.rr.getD m' zL == m78 && true))), []) := by kernel_rfl
end Sy
def staB (l : List (List Int)) (n : Nat) (l' : List (List Int)) (n' : Nat) (mk : List Int) : Bool := decide (n = n' /\ n <= 1048575 /\ n + 1 <= l.length /\ l.take n = l'.take n /\ l.getD n zL = mk)
theorem stays_runs {x y : T6} {n m : Nat} (h1 : n <= 1048575 /\ n + 1 <= x.l.length /\ x.l.take n = y.l.take n /\ x.l.getD n zL = m77) (h2 : m <= 1048575 /\ m + 1 <= x.rr.length /\ x.rr.take m = y.rr.take m /\ x.rr.getD m zL = m78) :
  Runs Tryz.prog N3 Tryz.f30 0 [.code (cd Tryz.f30)] (Sy.s0 x n m y n m) (.one (.c (.bool false true))) [] := by
 obtain ⟨a1, a2, a3, a4⟩ := h1;obtain ⟨b1, b2, b3, b4⟩ := h2;have en : Sy.syI n = ((n + 1 : Nat) : Int) := iwk (by omega)
 have em : Sy.syI m = ((m + 1 : Nat) : Int) := iwk (by omega)
 have ha := Sy.a x y n m n m
 have c1 : Sy.sy1 x.l n = true := by unfold Sy.sy1; rw [en, deT (by omega), deT (by omega)]; rfl
 have c2 : Sy.sy1 x.rr m = true := by unfold Sy.sy1; rw [em, deT (by omega), deT (by omega)]; rfl
 rw [c1, c2, en, em, Int.toNat_natCast, Int.toNat_natCast, Nat.sub_zero, Nat.sub_zero] at ha;refine Runs.piece okN3 mx ha rfl (by rfl) ?_
 refine loopG (st := fun k (_ : Unit) => Sy.st1 x n m y n m (n + 1) (m + 1) k) (I := fun _ _ => True) (n := n) (fun k a hk _ => ⟨(), trivial, fun hr => ?_⟩) (fun _ _ => ?_) n 0 () (by omega) trivial
 ·have hb := Sy.b x y n m n m (n + 1) (m + 1) k
  rw [iwk (by omega), deT (by omega), deT (by omega), deT (by omega), getD_take a3 hk, beq_self_eq_true] at hb
  exact Runs.piece okN3 mx hb rfl (by rfl) hr
 refine Runs.piece okN3 mx (Sy.c x y n m n m (n + 1) (m + 1) n) (by rw [deF (by omega)]) (by rfl) ?_
 refine loopG (st := fun k (_ : Unit) => Sy.st2 x n m y n m (n + 1) (m + 1) k) (I := fun _ _ => True) (n := m) (fun k a hk _ => ⟨(), trivial, fun hr => ?_⟩) (fun _ _ => ?_) m 0 () (by omega) trivial
 ·have hb := Sy.d x y n m n m (n + 1) (m + 1) k
  rw [iwk (by omega), deT (by omega), deT (by omega), deT (by omega), getD_take b3 hk, beq_self_eq_true] at hb
  exact Runs.piece okN3 mx hb rfl (by rfl) hr
 have he := Sy.e x y n m n m (n + 1) (m + 1) m
 rw [deF (by omega), deT (by omega), deT (by omega), a4, b4, beq_self_eq_true, beq_self_eq_true] at he
 exact Runs.last okN3 mx he rfl (by rfl)
def Tstays (vs : List V1) (hl : Heap) : Tree (SV × Heap) :=
 match vs, hl with
 | [.g [.ws .u64 4 a, .ws .u64 4 r, .ws .u64 4 t1, .ws .u64 4 t2, .c (.ro (.ws .u64 4) l n), .c (.ro (.ws .u64 4) rr m)], .g [.ws .u64 4 a', .ws .u64 4 r', .ws .u64 4 t1', .ws .u64 4 t2', .c (.ro (.ws .u64 4) l' n'), .c (.ro (.ws .u64 4) rr' m')]], [] =>
  Tree.chk (staB l n l' n' m77 && staB rr m rr' m' m78) (.ret (.one (.c (.bool false true)), []))
 | _, _ => .fail
theorem ok_stays : EntryOk Tryz.prog G0 30 Tstays := by
 refine EntryOk.runs (S := N3) (fn := Tryz.f30) (c := cd Tryz.f30) (by kernel_rfl) (by kernel_rfl) (by kernel_rfl) (fun vs hl r hl' ok h => ?_)
 unfold Tstays at h;split at h
 ·rename_i a r' t1 t2 l n rr m a' r'' t1' t2' l' n' rr' m';obtain ⟨h1, h2⟩ := val_chk h;obtain ⟨rfl, rfl⟩ := Prod.mk.inj (val_ret h2);rw [Bool.and_eq_true] at h1;obtain ⟨rfl, h3⟩ := ofD h1.1;obtain ⟨rfl, h4⟩ := ofD h1.2;exact stays_runs (x := ⟨a, r', t1, t2, l, rr⟩) (y := ⟨a', r'', t1', t2', l', rr'⟩) h3 h4
 ·cases h
noncomputable def N4 : Tab := ((N3.put 24 2 Ttwin).put 28 2 Tltape).put 30 0 Tstays
theorem okN4 : SpecOk Tryz.prog N4 := ((okN3.put ok_twin).put ok_l14tape).put ok_stays
abbrev TP : DTy := .pair WS (.pair WS (.pair WS (.pair WS (.pair (.sl WS) (.pair (.sl WS) .unit)))))
structure PcA where
 b : Int
 c : Int
 B : List Int
 D : List Int
 Q : List Int
 G : List (List Int)
 ng : Nat
 H : List (List Int)
 nh : Nat
 vs : OpT
 nv : Nat
 ts : List TP.den
 nt : Nat
 ch : List (List Int)
 nc : Nat
def pc0 : PcA := ⟨0, 0, [], [], [], [], 0, [], 0, [], 0, [], 0, [], 0⟩
def pcF (s : PcA) : List FCell := [.c (.int false .i64 s.b), .c (.int false .i64 s.c), .ws .u64 4 s.B, .ws .u64 4 s.D, .ws .u64 4 s.Q, .c (.ro WS s.G s.ng), .c (.ro WS s.H s.nh), .c (.ro OP s.vs s.nv), .c (.ro TP s.ts s.nt), .c (.ro WS s.ch s.nc)]
noncomputable def paR (k : List Item) (s : St) : Tree Out := runK N4 Tryz.prog noLoops 400 k s
noncomputable def paSt (s : PcA) (j : Int) : St := ⟨enterT Tryz.f23 [.g (pcF s), .c (.int false .i64 j)], []⟩
def atO (s : PcA) (j : Int) : OP.den := if 0 <= j /\ j < s.nv then s.vs.getD j.toNat OP.dflt else OP.dflt
def atP (s : PcA) (j : Int) : TP.den := if 0 <= j /\ j < s.nt then s.ts.getD j.toNat TP.dflt else TP.dflt
def opF (l : Bool) (o : OP.den) : List FCell := [.c (.int l .u64 o.1), .ws .u64 4 o.2.1]
def tpF (t : TP.den) : List FCell := tapeF t.1 t.2.1 t.2.2.1 t.2.2.2.1 t.2.2.2.2.1.1 t.2.2.2.2.1.2 t.2.2.2.2.2.1.1 t.2.2.2.2.2.1.2
def t0F : List FCell := [.ws .u64 4 zL, .ws .u64 4 zL, .ws .u64 4 zL, .ws .u64 4 zL, .c .nils, .c .nils]
section
variable (s : PcA) (j : Int)
theorem at_0 : endT Tryz.prog Tryz.f23 [] [false, false] (paR [.code (cd Tryz.f23)] (paSt s j)) = some ([decide (j >= 0) == true, decide (j >= 0) == true], .tup [.g (opF true OP.dflt), .g t0F], []) := by kernel_rfl
theorem at_1 : endT Tryz.prog Tryz.f23 [] [true, true, true, true, true, true] (paR [.code (cd Tryz.f23)] (paSt s j)) =
  some ([decide (j >= 0) == true, decide (j < s.nv), decide (0 <= j /\ j < s.nv), decide (j >= 0) == true, decide (j < s.nt), decide (0 <= j /\ j < s.nt)], .tup [.g (opF false (s.vs.getD j.toNat OP.dflt)), .g (tpF (s.ts.getD j.toNat TP.dflt))], []) := by kernel_rfl
theorem at_2 : endT Tryz.prog Tryz.f23 [] [true, true, true, true, false] (paR [.code (cd Tryz.f23)] (paSt s j)) =
  some ([decide (j >= 0) == true, decide (j < s.nv), decide (0 <= j /\ j < s.nv), decide (j >= 0) == true, decide (j < s.nt)], .tup [.g (opF false (s.vs.getD j.toNat OP.dflt)), .g t0F], []) := by kernel_rfl
theorem at_3 : endT Tryz.prog Tryz.f23 [] [true, false, true, true, true] (paR [.code (cd Tryz.f23)] (paSt s j)) =
  some ([decide (j >= 0) == true, decide (j < s.nv), decide (j >= 0) == true, decide (j < s.nt), decide (0 <= j /\ j < s.nt)], .tup [.g (opF true OP.dflt), .g (tpF (s.ts.getD j.toNat TP.dflt))], []) := by kernel_rfl
theorem at_4 : endT Tryz.prog Tryz.f23 [] [true, false, true, false] (paR [.code (cd Tryz.f23)] (paSt s j)) =
  some ([decide (j >= 0) == true, decide (j < s.nv), decide (j >= 0) == true, decide (j < s.nt)], .tup [.g (opF true OP.dflt), .g t0F], []) := by kernel_rfl
end
abbrev RAt (s : PcA) (j : Int) (v : SV) : Prop := Runs Tryz.prog N4 Tryz.f23 0 [.code (cd Tryz.f23)] (paSt s j) v []
theorem RAt.nil {s : PcA} {j : Int} {l : Bool} {o : OP.den} (h : RAt s j (.tup [.g (opF l o), .g t0F])) : RAt s j (.tup [.g (opF false o), .g (tpF TP.dflt)]) :=
 Runs.weak (v := .tup [.g (opF l o), .g t0F]) (fun _ _ ⟨us, e, h⟩ => ⟨us, e, normLG_rel (ts := [[], [none, none, none, none, some WS, some WS]]) (vs := [.g (opF false o), .g t0F]) rfl h⟩) h
theorem RAt.lit {s : PcA} {j : Int} {l : Bool} {o : OP.den} {t : TP.den} (h : RAt s j (.tup [.g (opF l o), .g (tpF t)])) : RAt s j (.tup [.g (opF false o), .g (tpF t)]) := Runs.weak (v := .tup [.g (opF l o), .g (tpF t)]) (fun _ _ h => h) h
theorem at_runs (s : PcA) (j : Int) : RAt s j (.tup [.g (opF false (atO s j)), .g (tpF (atP s j))]) := by
 unfold atO atP;by_cases h0 : j >= 0
 case neg =>
  rw [if_neg (fun h => h0 h.1), if_neg (fun h => h0 h.1)]
  have h := at_0 s j
  rw [deF h0] at h;exact RAt.nil (Runs.last okN4 mx h rfl (by rfl))
 by_cases hv : j < s.nv <;> by_cases ht : j < s.nt
 ·rw [if_pos ⟨h0, hv⟩, if_pos ⟨h0, ht⟩];have h := at_1 s j
  rw [deT h0, deT hv, deT ht, deT (show 0 <= j /\ j < s.nv from ⟨h0, hv⟩), deT (show 0 <= j /\ j < s.nt from ⟨h0, ht⟩)] at h
  exact Runs.last okN4 mx h rfl (by rfl)
 ·rw [if_pos ⟨h0, hv⟩, if_neg (fun h => ht h.2)]
  have h := at_2 s j
  rw [deT h0, deT hv, deF ht, deT (show 0 <= j /\ j < s.nv from ⟨h0, hv⟩)] at h
  exact RAt.nil (Runs.last okN4 mx h rfl (by rfl))
 ·rw [if_neg (fun h => hv h.2), if_pos ⟨h0, ht⟩]
  have h := at_3 s j
  rw [deT h0, deF hv, deT ht, deT (show 0 <= j /\ j < s.nt from ⟨h0, ht⟩)] at h
  exact RAt.lit (Runs.last okN4 mx h rfl (by rfl))
 ·rw [if_neg (fun h => hv h.2), if_neg (fun h => ht h.2)]
  have h := at_4 s j
  rw [deT h0, deF hv, deF ht] at h;exact RAt.nil (Runs.last okN4 mx h rfl (by rfl))
def pPc (v : V1) : Option PcA := match v with
 | .g [.c (.int _ .i64 b), .c (.int _ .i64 c), .ws .u64 4 B, .ws .u64 4 D, .ws .u64 4 Q, .c (.ro (.ws .u64 4) G ng), .c (.ro (.ws .u64 4) H nh), .c (.ro (.pair (.int .u64) (.pair (.ws .u64 4) .unit)) vs nv),
   .c (.ro (.pair (.ws .u64 4) (.pair (.ws .u64 4) (.pair (.ws .u64 4) (.pair (.ws .u64 4) (.pair (.sl (.ws .u64 4)) (.pair (.sl (.ws .u64 4)) .unit)))))) ts nt), .c (.ro (.ws .u64 4) ch nc)] => some ⟨b, c, B, D, Q, G, ng, H, nh, vs, nv, ts, nt, ch, nc⟩
 | _ => none
theorem pPc_eq {v : V1} {s : PcA} (h : pPc v = some s) : unlG v = .g (pcF s) := by
 unfold pPc at h;split at h
 ·obtain rfl := smI h;rfl
 ·cases h
def Tl14at (vs : List V1) (hl : Heap) : Tree (SV × Heap) :=
 match vs, hl with
 | [u, .c (.int _ .i64 j)], [] => match pPc u with
  | some s => .ret (.tup [.g (opF false (atO s j)), .g (tpF (atP s j))], [])
  | none => .fail
 | _, _ => .fail
theorem ok_l14at : EntryOk Tryz.prog G0 23 Tl14at := by
 refine EntryOk.unlitRuns (S := N4) (fn := Tryz.f23) (c := cd Tryz.f23) (by kernel_rfl) (by kernel_rfl) (by kernel_rfl) (fun vs hl res hl' ok h => ?_)
 unfold Tl14at at h;split at h
 ·rename_i u l j;split at h
  ·rename_i s e;obtain ⟨rfl, rfl⟩ := Prod.mk.inj (val_ret h);rw [List.map_cons, List.map_cons, List.map_nil, pPc_eq e];exact at_runs s j
  ·cases h
 ·cases h
noncomputable def N5a : Tab := ((N4.put 23 0 Tl14at).put 27 0 (bodyT N4 Tryz.prog allLoops Tryz.f27 (cd Tryz.f27))).put 22 4 (bodyT N4 Tryz.prog allLoops Tryz.f22 (cd Tryz.f22))
theorem okN5a : SpecOk Tryz.prog N5a := ((okN4.put ok_l14at).put (bodyT_ok okN4 mx (by kernel_rfl) (by kernel_rfl) (by kernel_rfl))).put (bodyT_ok okN4 mx (by kernel_rfl) (by kernel_rfl) (by kernel_rfl))
noncomputable def N5 : Tab := ((N5a.put 29 0 (bodyT N4 Tryz.prog allLoops Tryz.f29 (cd Tryz.f29))).put 38 0 (bodyT N4 Tryz.prog allLoops Tryz.f38 (cd Tryz.f38))).put 34 0 (bodyT N4 Tryz.prog allLoops Tryz.f34 (cd Tryz.f34))
theorem okN5 : SpecOk Tryz.prog N5 := ((okN5a.put (bodyT_ok okN4 mx (by kernel_rfl) (by kernel_rfl) (by kernel_rfl))).put (bodyT_ok okN4 mx (by kernel_rfl) (by kernel_rfl) (by kernel_rfl))).put (bodyT_ok okN4 mx (by kernel_rfl) (by kernel_rfl) (by kernel_rfl))
end Go.Sc
namespace Go.Sc
open Go Go.SX Go.Proofs
variable [Level] [Lone]
namespace Ap
noncomputable def r (is : List Item) (s : St) : Tree Out := runK N5 Tryz.prog (only [2, 9, 18]) 400 is s
noncomputable def s0 (h : Heap) : St := ⟨enterT Tryz.f35 [.c (.sla 0 0 2 0 2)], h⟩
noncomputable def sa (i k : Int) (h : Heap) : St := ⟨slotsOf 92 [(0, one (.sla 0 0 2 0 2)), (3, one (.int true .i64 i)), (4, one (.int false .i64 k))], h⟩
noncomputable def sb (i k : Int) (m : Cell) (h : Heap) : St := ⟨slotsOf 92 [(0, one (.sla 0 0 2 0 2)), (5, one (.int true .i64 i)), (6, one m), (7, one (.int false .i64 k))], h⟩
noncomputable def sc (i k : Int) (h : Heap) : St := ⟨slotsOf 92 [(0, one (.sla 0 0 2 0 2)), (8, one (.int true .i64 i)), (9, one (.int false .i64 k))], h⟩
noncomputable def hE : Heap := [.vals [.c (.sl 1 0 0), .c (.sl 2 0 0)], .arr WS [] 0 [], .arr WS [] 0 []]
noncomputable def Ka : List Item := leftT [] (r [.code (cd Tryz.f35)] (s0 hE))
noncomputable def Kb : List Item := leftT [true, false, true] (r Ka (sa 1 0 hE))
noncomputable def Kc : List Item := leftT [false, true, true] (r Kb (sb 1 0 (.sl 3 0 0) (hE ++ [.arr WS [] 0 [2]])))
def fv (i : Int) (k : Nat) : List Int := [IntKind.u64.wrap (iw (iw (100000 * (i + 1)) + (k : Int))), 0, 0, 0]
def fl (i : Int) (n : Nat) : List (List Int) := (List.range n).map (fv i)
def l7 : List Int := [7, 0, 0, 0]
noncomputable def apc (L : Nat) (acc : List (List Int)) : Bool := decide (L = acc.length) && roomW (L + 1)
theorem apc_ok {L : Nat} {acc : List (List Int)} (h : L = acc.length) (hl : L + 1 <= 1048576) : apc L acc = true := by
 unfold apc; rw [roomWk hl, deT h]; rfl
theorem fl_len (i : Int) (n : Nat) : (fl i n).length = n := by unfold fl; simp
theorem fl_get {i : Int} {n k : Nat} (h : k < n) : (fl i n).getD k zL = fv i k := by
 unfold fl;rw [List.getD_eq_getElem?_getD, List.getElem?_map, List.getElem?_range h]; rfl
theorem fl_succ (i : Int) (k : Nat) : fl i (k + 1) = fl i k ++ [fv i k] := by unfold fl; rw [List.range_succ, List.map_append]; rfl
theorem take_set {α : Type} {v : α} : ∀ {a : List α} {k : Nat}, k < a.length -> (a.set k v).take (k + 1) = a.take k ++ [v]
 | x :: a, 0, _ => rfl
 | x :: a, k + 1, h => by
  show x :: (a.set k v).take (k + 1) = x :: (a.take k ++ [v])
  rw [take_set (Nat.lt_of_succ_lt_succ h)]
theorem iwp {k : Nat} (h : k < 1099511627776) : iw (((k + 1 : Nat) : Int) - 1) = (k : Int) := by rw [show (((k + 1 : Nat) : Int) - 1) = (k : Int) from by omega]; exact wrap64 (by omega)
def h0 (a b : List (List Int)) (n0 n1 : Nat) : Heap := [.vals [.c (.sl 1 0 n0), .c (.sl 2 0 n1)], .arr WS a 0 [], .arr WS b 0 []]
def h1 (a b : List (List Int)) (n0 n1 : Nat) : Heap := [.vals [.c (.sl 1 0 n0), .c (.sl 2 0 n1)], .frz WS a, .arr WS b 0 []]
def h2 (a b : List (List Int)) (n0 n1 : Nat) : Heap := [.vals [.c (.sl 1 0 n0), .c (.sl 2 0 n1)], .frz WS a, .frz WS b]
theorem S (a b : List (List Int)) (n0 n1 : Nat) : pieceT [0, 3, 4] [4] [0, 1, 2] [] (r [.code (cd Tryz.f35)] (s0 (h0 a b n0 n1))) = some ([], Ka, sa 0 (0 : Nat) (h0 a b n0 n1)) := by kernel_rfl
theorem f0s (a b : List (List Int)) (n0 n1 : Nat) (k : Nat) : pieceT [0, 3, 4] [4] [0, 1, 2] [true, true, true, true] (r Ka (sa 0 k (h0 a b n0 n1))) = some ([true, decide ((k : Int) < n0), true, decide (0 <= (k : Int) /\ (k : Int) < n0)], Ka, sa 0 (iw ((k : Int) + 1)) (h0 (a.set (0 + (k : Int).toNat) (fv 0 k)) b n0 n1)) := by kernel_rfl
theorem f0e (a b : List (List Int)) (n0 n1 : Nat) (k : Nat) : pieceT [0, 3, 4] [4] [0, 1, 2] [true, false] (r Ka (sa 0 k (h0 a b n0 n1))) = some ([true, decide ((k : Int) < n0)], Ka, sa 1 (0 : Nat) (h0 a b n0 n1)) := by kernel_rfl
theorem m0z (a b : List (List Int)) (n0 n1 : Nat) (k : Nat) : pieceT [0, 5, 6, 7] [7] [0, 1, 2, 4] [true, true] (r Kb (sb 0 k (.sl 1 0 n0) (h0 a b n0 n1))) = some ([decide ((k : Int) < 64), apc n0 a], Kb, sb 0 (iw ((k : Int) + 1)) (.sl 3 0 (n0 + 1)) ((h1 a b n0 n1) ++ [.arr WS (a ++ [l7]) n0 [1]])) := by kernel_rfl
theorem m0s (a b : List (List Int)) (n0 n1 : Nat) (e : List (List Int)) (q lo k : Nat) : pieceT [0, 5, 6, 7] [7] [0, 1, 2, 5] [true, true] (r Kb (sb 0 k (.sl 3 0 q) ((h1 a b n0 n1) ++ [.arr WS e lo [1]]))) = some ([decide ((k : Int) < 64), apc q e], Kb, sb 0 (iw ((k : Int) + 1)) (.sl 3 0 (q + 1)) ((h1 a b n0 n1) ++ [.arr WS (e ++ [l7]) q [1]])) := by kernel_rfl
theorem m0e (a b : List (List Int)) (n0 n1 : Nat) (e : List (List Int)) (q lo k : Nat) : pieceT [0, 5, 6, 7] [7] [0, 1, 2] [false, true, true, true] (r Kb (sb 0 k (.sl 3 0 q) ((h1 a b n0 n1) ++ [.arr WS e lo [1]]))) = some ([decide ((k : Int) < 64), decide (0 <= iw ((q : Int) - 1) /\ iw ((q : Int) - 1) < (q : Int)), decide (lo <= 0 + (iw ((q : Int) - 1)).toNat), true], Kb, sb 1 (0 : Nat) (.sl 2 0 n1) (h1 a b n0 n1)) := by kernel_rfl
theorem r0s (a b : List (List Int)) (n0 n1 : Nat) (k : Nat) : pieceT [0, 8, 9] [9] [0, 1, 2] [true, true, true, true, false] (r Kc (sc 0 k (h2 a b n0 n1))) = some ([true, decide ((k : Int) < n0), true, decide (0 <= (k : Int) /\ (k : Int) < n0), !(a.getD (0 + (k : Int).toNat) zL == fv 0 k && true)], Kc, sc 0 (iw ((k : Int) + 1)) (h2 a b n0 n1)) := by kernel_rfl
theorem r0e (a b : List (List Int)) (n0 n1 : Nat) (k : Nat) : pieceT [0, 8, 9] [9] [0, 1, 2] [true, false] (r Kc (sc 0 k (h2 a b n0 n1))) = some ([true, decide ((k : Int) < n0)], Kc, sc 1 (0 : Nat) (h2 a b n0 n1)) := by kernel_rfl
theorem f1s (a b : List (List Int)) (n0 n1 : Nat) (k : Nat) : pieceT [0, 3, 4] [4] [0, 1, 2] [true, true, true, true] (r Ka (sa 1 k (h0 a b n0 n1))) = some ([true, decide ((k : Int) < n1), true, decide (0 <= (k : Int) /\ (k : Int) < n1)], Ka, sa 1 (iw ((k : Int) + 1)) (h0 a (b.set (0 + (k : Int).toNat) (fv 1 k)) n0 n1)) := by kernel_rfl
theorem f1e (a b : List (List Int)) (n0 n1 : Nat) (k : Nat) : pieceT [0, 5, 6, 7] [7] [0, 1, 2] [true, false, true] (r Ka (sa 1 k (h0 a b n0 n1))) = some ([true, decide ((k : Int) < n1), true], Kb, sb 0 (0 : Nat) (.sl 1 0 n0) (h0 a b n0 n1)) := by kernel_rfl
theorem m1z (a b : List (List Int)) (n0 n1 : Nat) (k : Nat) : pieceT [0, 5, 6, 7] [7] [0, 1, 2, 4] [true, true] (r Kb (sb 1 k (.sl 2 0 n1) (h1 a b n0 n1))) = some ([decide ((k : Int) < 64), apc n1 b], Kb, sb 1 (iw ((k : Int) + 1)) (.sl 3 0 (n1 + 1)) ((h2 a b n0 n1) ++ [.arr WS (b ++ [l7]) n1 [2]])) := by kernel_rfl
theorem m1s (a b : List (List Int)) (n0 n1 : Nat) (e : List (List Int)) (q lo k : Nat) : pieceT [0, 5, 6, 7] [7] [0, 1, 2, 5] [true, true] (r Kb (sb 1 k (.sl 3 0 q) ((h2 a b n0 n1) ++ [.arr WS e lo [2]]))) = some ([decide ((k : Int) < 64), apc q e], Kb, sb 1 (iw ((k : Int) + 1)) (.sl 3 0 (q + 1)) ((h2 a b n0 n1) ++ [.arr WS (e ++ [l7]) q [2]])) := by kernel_rfl
theorem m1e (a b : List (List Int)) (n0 n1 : Nat) (e : List (List Int)) (q lo k : Nat) : pieceT [0, 8, 9] [9] [0, 1, 2] [false, true, true] (r Kb (sb 1 k (.sl 3 0 q) ((h2 a b n0 n1) ++ [.arr WS e lo [2]]))) = some ([decide ((k : Int) < 64), decide (0 <= iw ((q : Int) - 1) /\ iw ((q : Int) - 1) < (q : Int)), decide (lo <= 0 + (iw ((q : Int) - 1)).toNat)], Kc, sc 0 (0 : Nat) (h2 a b n0 n1)) := by kernel_rfl
theorem r1s (a b : List (List Int)) (n0 n1 : Nat) (k : Nat) : pieceT [0, 8, 9] [9] [0, 1, 2] [true, true, true, true, false] (r Kc (sc 1 k (h2 a b n0 n1))) = some ([true, decide ((k : Int) < n1), true, decide (0 <= (k : Int) /\ (k : Int) < n1), !(b.getD (0 + (k : Int).toNat) zL == fv 1 k && true)], Kc, sc 1 (iw ((k : Int) + 1)) (h2 a b n0 n1)) := by kernel_rfl
theorem r1e (a b : List (List Int)) (n0 n1 : Nat) (k : Nat) : endT Tryz.prog Tryz.f35 [0, 1, 2] [true, false] (r Kc (sc 1 k (h2 a b n0 n1))) = some ([true, decide ((k : Int) < n1)], .one (.c (.bool true true)), (h2 a b n0 n1)) := by kernel_rfl
theorem R1 {n0 n1 : Nat} (z0 : n0 <= 1048500) (z1 : n1 <= 1048500) : Runs Tryz.prog N5 Tryz.f35 3 Kc (sc 1 (0 : Nat) (h2 (fl 0 n0) (fl 1 n1) n0 n1)) (.one (.c (.bool true true))) (h2 (fl 0 n0) (fl 1 n1) n0 n1) := by
 refine loopG (st := fun k (_ : Unit) => sc 1 k (h2 (fl 0 n0) (fl 1 n1) n0 n1)) (I := fun _ _ => True) (n := n1) (fun k a hk _ => ⟨(), trivial, fun hr => ?_⟩) (fun _ _ => ?_) n1 0 () (by omega) trivial
 ·have hp := r1s (fl 0 n0) (fl 1 n1) n0 n1 k
  rw [iwk (by omega), deT (by omega), deT (by omega), Nat.zero_add, Int.toNat_natCast, fl_get hk, beq_self_eq_true] at hp
  exact Runs.piece okN5 mx hp rfl (by rfl) hr
 ·exact Runs.last okN5 mx (r1e (fl 0 n0) (fl 1 n1) n0 n1 n1) (by rw [deF (by omega)]) (by rfl)
theorem R0 {n0 n1 : Nat} (z0 : n0 <= 1048500) (z1 : n1 <= 1048500) : Runs Tryz.prog N5 Tryz.f35 3 Kc (sc 0 (0 : Nat) (h2 (fl 0 n0) (fl 1 n1) n0 n1)) (.one (.c (.bool true true))) (h2 (fl 0 n0) (fl 1 n1) n0 n1) := by
 refine loopG (st := fun k (_ : Unit) => sc 0 k (h2 (fl 0 n0) (fl 1 n1) n0 n1)) (I := fun _ _ => True) (n := n0) (fun k a hk _ => ⟨(), trivial, fun hr => ?_⟩) (fun _ _ => ?_) n0 0 () (by omega) trivial
 ·have hp := r0s (fl 0 n0) (fl 1 n1) n0 n1 k
  rw [iwk (by omega), deT (by omega), deT (by omega), Nat.zero_add, Int.toNat_natCast, fl_get hk, beq_self_eq_true] at hp
  exact Runs.piece okN5 mx hp rfl (by rfl) hr
 ·exact Runs.piece okN5 mx (r0e (fl 0 n0) (fl 1 n1) n0 n1 n0) (by rw [deF (by omega)]) (by rfl) (R1 z0 z1)
theorem M1 {n0 n1 : Nat} (z0 : n0 <= 1048500) (z1 : n1 <= 1048500) : Runs Tryz.prog N5 Tryz.f35 3 Kb (sb 1 (0 : Nat) (.sl 2 0 n1) (h1 (fl 0 n0) (fl 1 n1) n0 n1)) (.one (.c (.bool true true))) (h2 (fl 0 n0) (fl 1 n1) n0 n1) := by
 have hz := m1z (fl 0 n0) (fl 1 n1) n0 n1 0
 rw [iwk (by omega), deT (by omega), apc_ok (fl_len _ _).symm (by omega)] at hz
 refine Runs.piece okN5 mx hz rfl (by rfl) ?_
 refine loopG (st := fun k (p : List (List Int) × Nat) => sb 1 k (.sl 3 0 (n1 + k)) ((h2 (fl 0 n0) (fl 1 n1) n0 n1) ++ [.arr WS p.1 p.2 [2]])) (I := fun k p => p.1.length = n1 + k /\ p.2 + 1 = n1 + k) (n := 64) (fun k p hk hI => ⟨(p.1 ++ [l7], n1 + k), ⟨by rw [List.length_append, hI.1]; rfl, rfl⟩, fun hr => ?_⟩) (fun p hI => ?_) 63 1 ((fl 1 n1) ++ [l7], n1) (by omega) ⟨by rw [List.length_append, fl_len]; rfl, rfl⟩
 ·have hp := m1s (fl 0 n0) (fl 1 n1) n0 n1 p.1 (n1 + k) p.2 k
  rw [iwk (by omega), deT (by omega), apc_ok hI.1.symm (by omega)] at hp
  exact Runs.piece okN5 mx hp rfl (by rfl) hr
 ·have hp := m1e (fl 0 n0) (fl 1 n1) n0 n1 p.1 (n1 + 64) p.2 64
  rw [show n1 + 64 = (n1 + 63) + 1 from rfl, iwp (by omega), deF (by omega), deT (by omega), deT (by have := hI.2; omega)] at hp
  exact Runs.piece okN5 mx hp rfl (by rfl) (R0 z0 z1)
theorem M0 {n0 n1 : Nat} (z0 : n0 <= 1048500) (z1 : n1 <= 1048500) : Runs Tryz.prog N5 Tryz.f35 3 Kb (sb 0 (0 : Nat) (.sl 1 0 n0) (h0 (fl 0 n0) (fl 1 n1) n0 n1)) (.one (.c (.bool true true))) (h2 (fl 0 n0) (fl 1 n1) n0 n1) := by
 have hz := m0z (fl 0 n0) (fl 1 n1) n0 n1 0
 rw [iwk (by omega), deT (by omega), apc_ok (fl_len _ _).symm (by omega)] at hz
 refine Runs.piece okN5 mx hz rfl (by rfl) ?_
 refine loopG (st := fun k (p : List (List Int) × Nat) => sb 0 k (.sl 3 0 (n0 + k)) ((h1 (fl 0 n0) (fl 1 n1) n0 n1) ++ [.arr WS p.1 p.2 [1]])) (I := fun k p => p.1.length = n0 + k /\ p.2 + 1 = n0 + k) (n := 64) (fun k p hk hI => ⟨(p.1 ++ [l7], n0 + k), ⟨by rw [List.length_append, hI.1]; rfl, rfl⟩, fun hr => ?_⟩) (fun p hI => ?_) 63 1 ((fl 0 n0) ++ [l7], n0) (by omega) ⟨by rw [List.length_append, fl_len]; rfl, rfl⟩
 ·have hp := m0s (fl 0 n0) (fl 1 n1) n0 n1 p.1 (n0 + k) p.2 k
  rw [iwk (by omega), deT (by omega), apc_ok hI.1.symm (by omega)] at hp
  exact Runs.piece okN5 mx hp rfl (by rfl) hr
 ·have hp := m0e (fl 0 n0) (fl 1 n1) n0 n1 p.1 (n0 + 64) p.2 64
  rw [show n0 + 64 = (n0 + 63) + 1 from rfl, iwp (by omega), deF (by omega), deT (by omega), deT (by have := hI.2; omega)] at hp
  exact Runs.piece okN5 mx hp rfl (by rfl) (M1 z0 z1)
theorem Fl1 {n0 n1 : Nat} (z0 : n0 <= 1048500) (z1 : n1 <= 1048500) {b : List (List Int)} (e1 : b.length = n1) : Runs Tryz.prog N5 Tryz.f35 3 Ka (sa 1 (0 : Nat) (h0 (fl 0 n0) b n0 n1)) (.one (.c (.bool true true))) (h2 (fl 0 n0) (fl 1 n1) n0 n1) := by
 refine loopG (st := fun k (x : List (List Int)) => sa 1 k (h0 (fl 0 n0) x n0 n1)) (I := fun k x => x.length = n1 /\ x.take k = fl 1 k) (n := n1) (fun k x hk hI => ⟨x.set k (fv 1 k), ⟨by rw [List.length_set, hI.1], by rw [take_set (by rw [hI.1]; exact hk), hI.2, fl_succ]⟩, fun hr => ?_⟩) (fun x hI => ?_) n1 0 b (by omega) ⟨e1, rfl⟩
 ·have hp := f1s (fl 0 n0) x n0 n1 k
  rw [iwk (by omega), deT (by omega), deT (by omega), Nat.zero_add, Int.toNat_natCast] at hp
  exact Runs.piece okN5 mx hp rfl (by rfl) hr
 ·obtain rfl : x = (fl 1 n1) := by rw [<- hI.2, <- hI.1, List.take_length]
  exact Runs.piece okN5 mx (f1e (fl 0 n0) (fl 1 n1) n0 n1 n1) (by rw [deF (by omega)]) (by rfl) (M0 z0 z1)
theorem Fl0 {n0 n1 : Nat} (z0 : n0 <= 1048500) (z1 : n1 <= 1048500) {a b : List (List Int)} (e0 : a.length = n0) (e1 : b.length = n1) : Runs Tryz.prog N5 Tryz.f35 3 Ka (sa 0 (0 : Nat) (h0 a b n0 n1)) (.one (.c (.bool true true))) (h2 (fl 0 n0) (fl 1 n1) n0 n1) := by
 refine loopG (st := fun k (x : List (List Int)) => sa 0 k (h0 x b n0 n1)) (I := fun k x => x.length = n0 /\ x.take k = fl 0 k) (n := n0) (fun k x hk hI => ⟨x.set k (fv 0 k), ⟨by rw [List.length_set, hI.1], by rw [take_set (by rw [hI.1]; exact hk), hI.2, fl_succ]⟩, fun hr => ?_⟩) (fun x hI => ?_) n0 0 a (by omega) ⟨e0, rfl⟩
 ·have hp := f0s x b n0 n1 k
  rw [iwk (by omega), deT (by omega), deT (by omega), Nat.zero_add, Int.toNat_natCast] at hp
  exact Runs.piece okN5 mx hp rfl (by rfl) hr
 ·obtain rfl : x = (fl 0 n0) := by rw [<- hI.2, <- hI.1, List.take_length]
  exact Runs.piece okN5 mx (f0e (fl 0 n0) b n0 n1 n0) (by rw [deF (by omega)]) (by rfl) (Fl1 z0 z1 e1)
end Ap
def Tapart14 (vs : List V1) (hl : Heap) : Tree (SV × Heap) :=
 match vs, hl with
 | [.c (.sla 0 0 2 0 2)], [.vals [.c (.sl 1 0 n0), .c (.sl 2 0 n1)], .arr (.ws .u64 4) a 0 [], .arr (.ws .u64 4) b 0 []] =>
  Tree.chk (decide ((List.length a = n0 /\ List.length b = n1) /\ n0 <= 1048500 /\ n1 <= 1048500)) (.ret (.one (.c (.bool true true)), Ap.h2 (Ap.fl 0 n0) (Ap.fl 1 n1) n0 n1))
 | [.c (.sla 0 0 2 0 2)], [.vals [.c .nils, .c .nils]] => .ret (.one (.c (.bool true true)), Ap.h2 (Ap.fl 0 0) (Ap.fl 1 0) 0 0)
 | _, _ => .fail
theorem ok_apart14 : EntryOk Tryz.prog G0 35 Tapart14 := by
 refine EntryOk.of_runs (S := N5) (fn := Tryz.f35) (c := cd Tryz.f35) (by kernel_rfl) (by kernel_rfl) (by kernel_rfl) (fun vs hl r hl' h => ?_)
 unfold Tapart14 at h;split at h
 ·obtain ⟨h1, h2⟩ := val_chk h;obtain ⟨⟨e0, e1⟩, z0, z1⟩ := ofD h1;obtain ⟨rfl, rfl⟩ := Prod.mk.inj (smI h2);exact Runs.piece okN5 mx (Ap.S _ _ _ _) rfl (by rfl) (Ap.Fl0 z0 z1 e0 e1)
 ·obtain ⟨rfl, rfl⟩ := Prod.mk.inj (smI h);refine Runs.nilVals 0 WS (by decide) (fs := [.c .nils, .c .nils]) rfl ?_
  have h := Runs.piece okN5 mx (Ap.S [] [] 0 0) rfl (by rfl) (Ap.Fl0 (by omega) (by omega) rfl rfl)
  exact fun E0 E a x hm hs => h E0 E a x (Nat.le_trans hm (by decide)) hs
 ·cases h
noncomputable def N6 : Tab := N5.put 35 2 Tapart14
theorem okN6 : SpecOk Tryz.prog N6 := okN5.put ok_apart14
end Go.Sc
