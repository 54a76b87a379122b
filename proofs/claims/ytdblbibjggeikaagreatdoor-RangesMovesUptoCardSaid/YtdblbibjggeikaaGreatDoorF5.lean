/- Layer 13: Middle as a contract. -/
import Derived.Test.YtdblbibjggeikaaGreatDoorF4
import Derived.Test.YtdblbibjggeikaaGreatDoorB6
set_option linter.unusedSectionVars false
set_option linter.unusedVariables false
set_option linter.unusedSimpArgs false
namespace Go.Sc
open Go Go.SX Go.Proofs
variable [Level] [Lone]
theorem mi_ph (ph : Int) (m : MiA) (k : Nat) (v : Vw) (lc rc rd : List (List Int)) (y z : List Int) : endT Tryz.prog Tryz.f13 (List.range 9) [false, true] (miR [.code (cd Tryz.f13)] ⟨enterT Tryz.f13 [.c (.ptr 0 0 0 0 0 0), ws y, ws z], mkH false ph m k v lc rc rd⟩) =
  some ([ph == 0, ph != 1], .tup [.g (vwF vw0 .nils .nils), .c (.int true .i64 6)], mkH false ph m k v lc rc rd) := by kernel_rfl
def miOk (m : MiA) : Bool := alw m.b m.c && decide ((m.k : Int) = m.b * m.c /\ m.n1 = m.k /\ m.n2 = m.k)
def erV (e : Int) : SV := .tup [.g (vwF vw0 .nils .nils), .c (.int true .i64 e)]
structure PrA where
 b : Int
 c : Int
 a : List Int
 r : List Int
 t1 : List Int
 t2 : List Int
 n1 : Nat
 n2 : Nat
 n3 : Nat
 k : Nat
def pHead (l : List FCell) : Option (Int × PrA × List FCell) := match l with
 | .c (.int _ .i64 ph) :: .c (.int _ .i64 b) :: .c (.int _ .i64 c) :: .ws .u64 4 a :: .ws .u64 4 r :: .ws .u64 4 t1 :: .ws .u64 4 t2 :: .c (.sl 2 0 n1) :: .c (.sl 3 0 n2) :: .c (.sl 4 0 n3) :: .c (.sl 5 0 k) :: rest => some (ph, ⟨b, c, a, r, t1, t2, n1, n2, n3, k⟩, rest)
 | _ => none
theorem pHead_eq {l rest : List FCell} {ph : Int} {p : PrA} (h : pHead l = some (ph, p, rest)) : ∃ f1 f2 f3, l = .c (.int f1 .i64 ph) :: .c (.int f2 .i64 p.b) :: .c (.int f3 .i64 p.c) :: .ws .u64 4 p.a :: .ws .u64 4 p.r :: .ws .u64 4 p.t1 :: .ws .u64 4 p.t2 :: .c (.sl 2 0 p.n1) :: .c (.sl 3 0 p.n2) :: .c (.sl 4 0 p.n3) :: .c (.sl 5 0 p.k) :: rest := by
 unfold pHead at h;split at h
 ·simp only [Option.some.injEq, Prod.mk.injEq] at h;obtain ⟨rfl, rfl, rfl⟩ := h;exact ⟨_, _, _, rfl⟩
 ·cases h
def pView (l : List FCell) : Option Vw := match l with
 | [.ws .u64 4 A, .ws .u64 4 S, .ws .u64 4 T1, .ws .u64 4 T2, .ws .u64 4 Y, .ws .u64 4 Z, .ws .u64 4 X, .ws .u64 4 Tx, .ws .u64 4 Mu, .ws .u64 4 Th, .c .nils, .c .nils, .c (.fn 48 [.ptr 1 0 0 0 0 0])] => some ⟨A, S, T1, T2, Y, Z, X, Tx, Mu, Th⟩
 | _ => none
theorem pView_eq {l : List FCell} {v : Vw} (h : pView l = some v) : l = vwF v .nils .nils ++ [.c (.fn 48 [.ptr 1 0 0 0 0 0])] := by
 unfold pView at h;split at h
 ·simp only [Option.some.injEq] at h;subst h;rfl
 ·cases h
def pNew (l : List FCell) : Option (List FCell) := match l with
 | .c .nils :: .c .nils :: .c .nils :: .c .nils :: r => some r
 | _ => none
theorem pNew_eq {l r : List FCell} (h : pNew l = some r) : l = .c .nils :: .c .nils :: .c .nils :: .c .nils :: r := by
 unfold pNew at h;split at h
 ·simp only [Option.some.injEq] at h;subst h;rfl
 ·cases h
def pOld (l : List FCell) : Option (Nat × Nat × Nat × Nat × List FCell) := match l with
 | .c (.sl 6 0 k1) :: .c (.sl 2 0 n1) :: .c (.sl 7 0 k2) :: .c (.sl 8 0 k3) :: r => some (k1, n1, k2, k3, r)
 | _ => none
theorem pOld_eq {l r : List FCell} {k1 n1 k2 k3 : Nat} (h : pOld l = some (k1, n1, k2, k3, r)) : l = .c (.sl 6 0 k1) :: .c (.sl 2 0 n1) :: .c (.sl 7 0 k2) :: .c (.sl 8 0 k3) :: r := by
 unfold pOld at h;split at h
 ·simp only [Option.some.injEq, Prod.mk.injEq] at h;obtain ⟨rfl, rfl, rfl, rfl, rfl⟩ := h;rfl
 ·cases h
structure RsA where
 B : List Int
 D : List Int
 Q : List Int
 gs : List PL.den
 hs : List PL.den
 ng : Nat
 nh : Nat
 SL : List (List Int)
 SR : List (List Int)
 VS : OpT
 bits : List (List Int)
def pRest (hl : Heap) : Option (RsA × Heap) := match hl with
 | .vals [.ws .u64 4 B, .ws .u64 4 D, .ws .u64 4 Q, .c (.ro (.pair (.ws .u64 4) .unit) gs ng), .c (.ro (.pair (.ws .u64 4) .unit) hs nh)] :: .arr (.ws .u64 4) SL 0 [] :: .arr (.ws .u64 4) SR 0 [] :: .arr (.pair (.int .u64) (.pair (.ws .u64 4) .unit)) VS 0 [] :: .arr (.ws .u64 4) bits 0 [] :: r => some (⟨B, D, Q, gs, hs, ng, nh, SL, SR, VS, bits⟩, r)
 | _ => none
def mkM (p : PrA) (s : RsA) (v : Vw) : MiA := ⟨s.B, s.D, s.Q, s.gs, s.hs, s.ng, s.nh, p.b, p.c, p.a, p.r, p.t1, p.t2, p.n1, p.n2, p.n3, s.SL, s.SR, s.VS, p.k, s.bits, v⟩
def rLs (s : RsA) : Heap := [.vals (gSet s.B s.D s.Q s.gs s.hs s.ng s.nh), .arr WS s.SL 0 [], .arr WS s.SR 0 [], .arr OP s.VS 0 [], .arr WS s.bits 0 []]
theorem pRest_eq {hl r : Heap} {s : RsA} (h : pRest hl = some (s, r)) : hl = rLs s ++ r := by
 unfold pRest at h;split at h
 ·simp only [Option.some.injEq, Prod.mk.injEq] at h;obtain ⟨rfl, rfl⟩ := h;rfl
 ·cases h
def pMi (hl : Heap) : Option (Int × MiA) := match hl with
 | .vals l :: r => match pHead l with
  | some (ph, p, l1) => match pNew l1 with
   | some l2 => match pView l2, pRest r with
    | some v, some (s, []) => some (ph, mkM p s v)
    | _, _ => none
   | none => none
  | none => none
 | _ => none
theorem pMi_eq {hl : Heap} {ph : Int} {m : MiA} (h : pMi hl = some (ph, m)) : hl.map unlB = .vals (prG false ph m .nils .nils .nils .nils m.v .nils .nils) :: mLs m := by
 unfold pMi at h;split at h <;> try cases h
 split at h <;> try cases h
 rename_i e1;split at h <;> try cases h
 rename_i e2;split at h <;> try cases h
 rename_i e3 e4;obtain ⟨f1, f2, f3, rfl⟩ := pHead_eq e1;obtain rfl := pNew_eq e2;obtain rfl := pView_eq e3;obtain rfl := pRest_eq e4;rfl
def pMk (hl : Heap) : Option (Int × MiA × (Nat × Nat × Nat × Nat) × List (List Int) × List (List Int) × List (List Int)) := match hl with
 | .vals l :: r => match pHead l with
  | some (ph, p, l1) => match pOld l1 with
   | some (k1, n1, k2, k3, l2) => match pView l2, pRest r with
    | some v, some (s, [.arr (.ws .u64 4) lc 0 [], .arr (.ws .u64 4) rc 0 [], .arr (.ws .u64 4) rd 0 []]) => some (ph, mkM p s v, (k1, n1, k2, k3), lc, rc, rd)
    | _, _ => none
   | none => none
  | none => none
 | _ => none
def okK (m : MiA) (k n1 k2 k3 : Nat) : Bool := decide (m.n1 = n1 /\ k = k2 /\ k = k3)
theorem pMk_eq {hl : Heap} {ph : Int} {m : MiA} {k n1 k2 k3 : Nat} {lc rc rd : List (List Int)} (h : pMk hl = some (ph, m, (k, n1, k2, k3), lc, rc, rd)) (g : okK m k n1 k2 k3 = true) : hl.map unlB = mkH false ph m k m.v lc rc rd := by
 unfold pMk at h;split at h <;> try cases h
 split at h <;> try cases h
 rename_i e1;split at h <;> try cases h
 rename_i e2;split at h <;> try cases h
 rename_i e3 e4;obtain ⟨q1, q2, q3⟩ := of_decide_eq_true g;obtain ⟨f1, f2, f3, rfl⟩ := pHead_eq e1;obtain rfl := pOld_eq e2;obtain rfl := pView_eq e3;obtain rfl := pRest_eq e4;subst q1 q2 q3;rfl
def TrMiddle (vs : List V1) (hl : Heap) : Tree (SV × Heap) :=
 match vs with
 | [.c .nilp, .g [.ws .u64 4 _], .g [.ws .u64 4 _]] => (match hl with | [] => .ret (erV 1, []) | _ => .fail)
 | [.c (.ptr 0 0 0 0 0 0), .g [.ws .u64 4 y], .g [.ws .u64 4 z]] => match pMi hl with
  | some (1, m) => Tree.chk (miOk m)
   (.br (decide (val y % ell = 0 \/ val z % ell = 0)) (.ret (erV 4, miH false m)) (.ret (.tup [.g (vwF (miVw m y z) .nils .nils), .c (.int true .i64 0)], miHeap m y z)))
  | _ => match pMk hl with
   | some (ph, m, (k, n1, k2, k3), lc, rc, rd) => Tree.chk (okK m k n1 k2 k3 && decide (ph ≠ 0 /\ ph ≠ 1)) (.ret (erV 6, mkH false ph m k m.v lc rc rd))
   | none => .fail
 | _ => .fail
theorem miOk_of {m : MiA} (h : miOk m = true) : MiOk m := by
 unfold miOk at h;rw [Bool.and_eq_true, decide_eq_true_eq] at h;exact ⟨h.1, h.2.1, h.2.2.1, h.2.2.2⟩
theorem mi_h1 {m : MiA} {y z : List Int} {res : SV} {hl' : Heap} (h : (Tree.chk (miOk m) (.br (decide (val y % ell = 0 \/ val z % ell = 0)) (.ret (erV 4, miH false m)) (.ret (.tup [.g (vwF (miVw m y z) .nils .nils), .c (.int true .i64 0)], miHeap m y z)))).val = some (res, hl')) : RM [.code (cd Tryz.f13)] (miS false m y z) res hl' := by
 obtain ⟨h1, h2⟩ := val_chk h;have ho := miOk_of h1
 by_cases hy : val y % ell = 0
 ·rw [decide_eq_true (.inl hy)] at h2;obtain ⟨rfl, rfl⟩ := Prod.mk.inj (val_ret (show (Tree.ret (erV 4, miH false m)).val = _ from h2))
  have q := mi_x m y z
  rw [decide_eq_true hy] at q;exact Runs.last okL15 mx q rfl (by rfl)
 by_cases hz : val z % ell = 0
 ·rw [decide_eq_true (.inr hz)] at h2;obtain ⟨rfl, rfl⟩ := Prod.mk.inj (val_ret (show (Tree.ret (erV 4, miH false m)).val = _ from h2))
  have q := mi_y m y z
  rw [decide_eq_false hy, decide_eq_true hz] at q;exact Runs.last okL15 mx q rfl (by rfl)
 rw [decide_eq_false (fun q => q.elim hy hz)] at h2
 obtain ⟨rfl, rfl⟩ := Prod.mk.inj (val_ret (show (Tree.ret (SV.tup [.g (vwF (miVw m y z) .nils .nils), .c (.int true .i64 0)], miHeap m y z)).val = _ from h2))
 exact mi_runs ho hy hz
theorem mi_h2 {ph : Int} {m : MiA} {k : Nat} {v : Vw} {lc rc rd : List (List Int)} {y z : List Int} (h0 : ph ≠ 0) (h1 : ph ≠ 1) : Runs Tryz.prog L15 Tryz.f13 9 [.code (cd Tryz.f13)] ⟨enterT Tryz.f13 [.c (.ptr 0 0 0 0 0 0), ws y, ws z], mkH false ph m k v lc rc rd⟩ (erV 6) (mkH false ph m k v lc rc rd) := by
 have q := mi_ph ph m k v lc rc rd y z
 rw [bneq h1, beq_false_of_ne h0] at q;exact Runs.last okL15 mx q rfl (by rfl)
theorem ok_rMiddle : EntryOk Tryz.prog G0 13 TrMiddle := by
 refine EntryOk.unlitHRuns (S := L15) (fn := Tryz.f13) (c := cd Tryz.f13) (by kernel_rfl) (by kernel_rfl) (by kernel_rfl) (fun vs hl res hl' ok okh h => ?_)
 unfold TrMiddle at h;split at h
 ·rename_i y z;split at h
  ·obtain ⟨rfl, rfl⟩ := Prod.mk.inj (val_ret h);exact Runs.last okL15 mx (mi_n y z) rfl (by rfl)
  ·cases h
 ·rename_i y z;split at h
  ·rename_i m e;rw [show hl.map unlB = miH false m from pMi_eq e]
   exact mi_h1 h
  ·split at h
   ·rename_i ph m k n1 k2 k3 lc rc rd e;obtain ⟨h1, h2⟩ := val_chk h;rw [Bool.and_eq_true] at h1;obtain ⟨q1, q2⟩ := of_decide_eq_true h1.2;obtain ⟨rfl, rfl⟩ := Prod.mk.inj (val_ret h2);rw [pMk_eq e h1.1];exact mi_h2 q1 q2
   ·cases h
 ·cases h
noncomputable def L20 : Tab := L19.put 13 9 TrMiddle
theorem okL20 : SpecOk Tryz.prog L20 := okL19.put ok_rMiddle
def miH' (ph : Int) (m : MiA) : Heap := .vals (prG false ph m .nils .nils .nils .nils m.v .nils .nils) :: mLs m
theorem fn_p1 (ph : Int) (m : MiA) (x : List Int) : endT Tryz.prog Tryz.f21 (List.range 6) [false, true] (fnR [.code (cd Tryz.f21)] ⟨enterT Tryz.f21 [.c (.ptr 0 0 0 0 0 0), ws x], miH' ph m⟩) = some ([ph == 0, ph != 2], erV 6, miH' ph m) := by kernel_rfl
theorem fn_p2 (ph : Int) (m : MiA) (k : Nat) (v : Vw) (lc rc rd : List (List Int)) (x : List Int) : endT Tryz.prog Tryz.f21 (List.range 9) [false, true] (fnR [.code (cd Tryz.f21)] ⟨enterT Tryz.f21 [.c (.ptr 0 0 0 0 0 0), ws x], mkH false ph m k v lc rc rd⟩) = some ([ph == 0, ph != 2], erV 6, mkH false ph m k v lc rc rd) := by kernel_rfl
def fnL (m : MiA) (k : Nat) (lc : List (List Int)) (x : List Int) : List (List Int) := mixL [1, 0, 0, 0] x lc m.SL k
def fnQ (k : Nat) (rc rd : List (List Int)) (x : List Int) : List (List Int) := mixL [1, 0, 0, 0] x rc rd k
def txS (m : MiA) (Z x : List Int) (n : Nat) : Int := val m.t1 * val x + val m.t2 * val x * val x + sumN (fun j => val Z ^ (2 + j) * val (opB m.VS j)) n
def fnW (m : MiA) (k : Nat) (lc rc rd : List (List Int)) (x : List Int) (n : Nat) : Vw := { fnV m m.v x (fnL m k lc x) (fnQ k rc rd x) k with Tx := limbs (txS m m.v.Z x n % ell) }
abbrev RN (k : List Item) (s : St) (v : SV) (h : Heap) : Prop := Runs Tryz.prog L19 Tryz.f21 9 k s v h
theorem mod_mul2 (a b : Int) : a % ell * b % ell = a * b % ell := by rw [Int.mul_emod, Int.emod_emod_of_dvd _ (Int.dvd_refl _), <- Int.mul_emod]
theorem fn_runs {m : MiA} {k : Nat} {lc rc rd : List (List Int)} {x : List Int} (hk : k = m.n1 /\ k <= 1048576) (h3 : m.n3 <= 1048576) (hx : val x % ell ≠ 0) : RN [.code (cd Tryz.f21)] (fnS m k m.v lc rc rd x) (.tup [.g (vwF (fnW m k lc rc rd x m.n3) (.sl 9 0 k) (.sl 10 0 k)), .c (.int true .i64 0)])
  (mkH true 3 m k m.v lc rc rd ++ [.arr WS (fnL m k lc x) 0 [], .arr WS (fnQ k rc rd x) 0 []]) := by
 have h := fn_a m k m.v lc rc rd x
 rw [decide_eq_false hx, decide_eq_true hk, decide_eq_true (show k = k /\ k <= 1048576 from ⟨rfl, hk.2⟩), List.drop_zero, List.drop_zero, List.drop_zero, List.drop_zero, List.drop_zero, List.drop_zero] at h
 refine Runs.piece okL19 mx h rfl (by rfl) ?_
 refine loopG (st := fun i (a : Vw × List Int) => fnT m k m.v lc rc rd x a.1 (fnL m k lc x) (fnQ k rc rd x) a.2 i) (I := fun i a => a = (fnW m k lc rc rd x i, limbs (val m.v.Z ^ (2 + i) % ell))) (n := m.n3) (fun i a hi hI => ?_) (fun a hI => ?_) m.n3 0 (fnV m m.v x (fnL m k lc x) (fnQ k rc rd x) k, limbs (val m.v.Z * val m.v.Z % ell)) (by omega) ?_
 ·subst hI;have h := fn_b m k i m.v (fnW m k lc rc rd x i) lc rc rd x (limbs (val m.v.Z ^ (2 + i) % ell)) (fnL m k lc x) (fnQ k rc rd x)
  rw [decide_eq_true (show (i : Int) < m.n3 by omega), decide_eq_true (show 0 <= (i : Int) /\ (i : Int) < m.n3 by omega), Nat.zero_add, iwk (by omega)] at h
  refine ⟨({ fnW m k lc rc rd x i with Tx := limbs ((val (fnW m k lc rc rd x i).Tx + val (limbs (val (limbs (val m.v.Z ^ (2 + i) % ell)) * val (opB m.VS i) % ell))) % ell) }, limbs (val (limbs (val m.v.Z ^ (2 + i) % ell)) * val (fnW m k lc rc rd x i).Z % ell)), ?_, fun hr => Runs.piece okL19 mx h rfl (by rfl) hr⟩
  refine Prod.ext ?_ ?_
  ·show ({ fnW m k lc rc rd x i with Tx := limbs ((val (limbs (txS m m.v.Z x i % ell)) + val (limbs (val (limbs (val m.v.Z ^ (2 + i) % ell)) * val (opB m.VS i) % ell))) % ell) } : Vw) = fnW m k lc rc rd x (i + 1)
   rw [val_mod, val_mod, val_mod, mod_mul2, <- Int.add_emod, show txS m m.v.Z x i + val m.v.Z ^ (2 + i) * val (opB m.VS i) = txS m m.v.Z x (i + 1) from by unfold txS; rw [Int.add_assoc]; rfl]
   rfl
  ·show limbs (val (limbs (val m.v.Z ^ (2 + i) % ell)) * val m.v.Z % ell) = limbs (val m.v.Z ^ (2 + (i + 1)) % ell)
   rw [val_mod, mod_mul2, <- Nat.add_assoc, Int.pow_succ]
 ·subst hI;have h := fn_e m k m.n3 m.v (fnW m k lc rc rd x m.n3) lc rc rd x (limbs (val m.v.Z ^ (2 + m.n3) % ell)) (fnL m k lc x) (fnQ k rc rd x)
  rw [decide_eq_false (by omega)] at h
  exact Runs.last okL19 mx h rfl (by rfl)
 ·refine Prod.ext ?_ ?_
  ·show fnV m m.v x (fnL m k lc x) (fnQ k rc rd x) k = fnW m k lc rc rd x 0
   unfold fnW;rw [show limbs (txS m m.v.Z x 0 % ell) = (fnV m m.v x (fnL m k lc x) (fnQ k rc rd x) k).Tx from ?_]
   show limbs (txS m m.v.Z x 0 % ell) = limbs ((val (limbs (val m.t1 * val x % ell)) + val (limbs (val (limbs (val m.t2 * val x % ell)) * val x % ell))) % ell)
   rw [val_mod, val_mod, val_mod, mod_mul2, <- Int.add_emod];unfold txS;rw [show sumN (fun j => val m.v.Z ^ (2 + j) * val (opB m.VS j)) 0 = 0 from rfl, Int.add_zero]
  ·show limbs (val m.v.Z * val m.v.Z % ell) = limbs (val m.v.Z ^ (2 + 0) % ell)
   rw [show (2 + 0) = 1 + 1 from rfl, Int.pow_succ, Int.pow_succ, Int.pow_zero, Int.one_mul]
def TrFinish (vs : List V1) (hl : Heap) : Tree (SV × Heap) :=
 match vs with
 | [.c .nilp, .g [.ws .u64 4 _]] => (match hl with | [] => .ret (erV 1, []) | _ => .fail)
 | [.c (.ptr 0 0 0 0 0 0), .g [.ws .u64 4 x]] => match pMi hl with
  | some (ph, m) => Tree.chk (decide (ph ≠ 0 /\ ph ≠ 2)) (.ret (erV 6, miH' ph m))
  | none => match pMk hl with
   | some (2, m, (k, n1, k2, k3), lc, rc, rd) => Tree.chk (okK m k n1 k2 k3 && decide ((k = m.n1 /\ k <= 1048576) /\ m.n3 <= 1048576))
    (.br (decide (val x % ell = 0)) (.ret (erV 4, mkH false 2 m k m.v lc rc rd))
     (.ret (.tup [.g (vwF (fnW m k lc rc rd x m.n3) (.sl 9 0 k) (.sl 10 0 k)), .c (.int true .i64 0)], mkH true 3 m k m.v lc rc rd ++ [.arr WS (fnL m k lc x) 0 [], .arr WS (fnQ k rc rd x) 0 []])))
   | some (ph, m, (k, n1, k2, k3), lc, rc, rd) => Tree.chk (okK m k n1 k2 k3 && decide (ph ≠ 0 /\ ph ≠ 2)) (.ret (erV 6, mkH false ph m k m.v lc rc rd))
   | none => .fail
 | _ => .fail
theorem ok_rFinish : EntryOk Tryz.prog G0 21 TrFinish := by
 refine EntryOk.unlitHRuns (S := L19) (fn := Tryz.f21) (c := cd Tryz.f21) (by kernel_rfl) (by kernel_rfl) (by kernel_rfl) (fun vs hl res hl' ok okh h => ?_)
 unfold TrFinish at h;split at h
 ·rename_i x;split at h
  ·obtain ⟨rfl, rfl⟩ := Prod.mk.inj (val_ret h);exact Runs.last okL19 mx (fn_n x) rfl (by rfl)
  ·cases h
 ·rename_i x;split at h
  ·rename_i ph m e;obtain ⟨h1, h2⟩ := val_chk h;obtain ⟨q1, q2⟩ := of_decide_eq_true h1;obtain ⟨rfl, rfl⟩ := Prod.mk.inj (val_ret h2);rw [show hl.map unlB = miH' ph m from pMi_eq e]
   have q := fn_p1 ph m x
   rw [bneq q2, beq_false_of_ne q1] at q;exact Runs.last okL19 mx q rfl (by rfl)
  ·split at h
   ·rename_i m k n1 k2 k3 lc rc rd e;obtain ⟨h1, h2⟩ := val_chk h;rw [Bool.and_eq_true] at h1;obtain ⟨q1, q2⟩ := of_decide_eq_true h1.2;rw [pMk_eq e h1.1];by_cases hx : val x % ell = 0
    ·rw [decide_eq_true hx] at h2;obtain ⟨rfl, rfl⟩ := Prod.mk.inj (val_ret (show (Tree.ret (erV 4, mkH false 2 m k m.v lc rc rd)).val = _ from h2))
     have q := fn_x m k m.v lc rc rd x
     rw [decide_eq_true hx] at q;exact Runs.last okL19 mx q rfl (by rfl)
    ·rw [decide_eq_false hx] at h2;obtain ⟨rfl, rfl⟩ := Prod.mk.inj (val_ret (show (Tree.ret (SV.tup [.g (vwF (fnW m k lc rc rd x m.n3) (.sl 9 0 k) (.sl 10 0 k)), .c (.int true .i64 0)], mkH true 3 m k m.v lc rc rd ++ [.arr WS (fnL m k lc x) 0 [], .arr WS (fnQ k rc rd x) 0 []])).val = _ from h2))
     exact fn_runs q1 q2 hx
   ·rename_i ph m k n1 k2 k3 lc rc rd _ e;obtain ⟨h1, h2⟩ := val_chk h;rw [Bool.and_eq_true] at h1;obtain ⟨q1, q2⟩ := of_decide_eq_true h1.2;obtain ⟨rfl, rfl⟩ := Prod.mk.inj (val_ret h2);rw [pMk_eq e h1.1];have q := fn_p2 ph m k m.v lc rc rd x
    rw [bneq q2, beq_false_of_ne q1] at q;exact Runs.last okL19 mx q rfl (by rfl)
   ·cases h
 ·cases h
noncomputable def L21 : Tab := L20.put 21 2 TrFinish
theorem okL21 : SpecOk Tryz.prog L21 := okL20.put ok_rFinish
end Go.Sc
