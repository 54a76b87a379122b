/- Layer 14, the document: a party's memory; bits. -/
import Derived.Test.YtdblbibjggeikaaGreatDoorF8
set_option linter.unusedSectionVars false
set_option linter.unusedVariables false
set_option linter.unusedSimpArgs false
namespace Go.Sc
open Go Go.SX Go.Proofs
variable [Level] [Lone]
structure DpA where
 s : DsA
 b : Int
 c : Int
 p : Int
 v : Int
 d : List Int
 a : List Int
 r : List Int
 t1 : List Int
 t2 : List Int
 sl : List (List Int)
 nl : Nat
 sr : List (List Int)
 nr : Nat
 y : List Int
 z : List Int
def dp0 : DpA := ⟨⟨0, 0, 0, 0, [], [], [], [], [], [], [], [], [], [], 0, [], 0⟩, 0, 0, 0, 0, [], [], [], [], [], [], 0, [], 0, [], []⟩
def dpC (l : Bool) (ph : Int) (x : DpA) : List FCell :=
 dSet x.s ++ [.c (.int false .i64 x.b), .c (.int false .i64 x.c), .c (.int false .i64 x.p), .c (.int false .u64 x.v), .ws .u64 4 x.d, .ws .u64 4 x.a, .ws .u64 4 x.r, .ws .u64 4 x.t1, .ws .u64 4 x.t2, .c (.ro WS x.sl x.nl), .c (.ro WS x.sr x.nr), .c (.int l .i64 ph), .ws .u64 4 x.y, .ws .u64 4 x.z]
noncomputable def dbR (k : List Item) (s : St) : Tree Out := runK Q2 Tryz.prog noLoops 400 k s
noncomputable def dbS (ph : Int) (x : DpA) : St := ⟨enterT Tryz.f85 [.c (.ptr 0 0 0 0 0 0)], [.vals (dpC false ph x)]⟩
noncomputable def dbK : List Item := leftT [] (dbR [.code (cd Tryz.f85)] (dbS 0 dp0))
noncomputable def dbT (ph : Int) (x : DpA) (c : Cell) (i : Int) (h : Heap) : St := ⟨slotsOf 27 [(0, pt 0), (3, one c), (4, one (.int false .i64 i))], [.vals (dpC false ph x)] ++ h⟩
theorem db_a (ph : Int) (x : DpA) : pieceT [0, 3, 4] [4] [0] [] (dbR [.code (cd Tryz.f85)] (dbS ph x)) = some ([], dbK, dbT ph x .nils (0 : Nat) []) := by kernel_rfl
section
variable (ph : Int) (x : DpA) (i k : Nat) (bs : List (List Int))
theorem db_b0 : pieceT [0, 3, 4] [4] [0, 2] [true, true, true] (dbR dbK (dbT ph x .nils i [])) = some ([decide ((i : Int) < x.b), decide (0 <= (i : Int)), roomW 1], dbK, dbT ph x (.sl 1 0 1) (iw ((i : Int) + 1)) [.arr WS [pbE x.v i] 0 []]) := by kernel_rfl
theorem db_b : pieceT [0, 3, 4] [4] [0, 3] [true, true, true] (dbR dbK (dbT ph x (.sl 1 0 k) i [.arr WS bs 0 []])) =
  some ([decide ((i : Int) < x.b), decide (0 <= (i : Int)), decide (k = bs.length) && roomW (k + 1)], dbK, dbT ph x (.sl 1 0 (k + 1)) (iw ((i : Int) + 1)) [.arr WS (bs ++ [pbE x.v i]) 0 []]) := by kernel_rfl
theorem db_c : endT Tryz.prog Tryz.f85 [0, 1] [false] (dbR dbK (dbT ph x (.sl 1 0 k) i [.arr WS bs 0 []])) = some ([decide ((i : Int) < x.b)], .one (.c (.sl 1 0 k)), [.vals (dpC false ph x), .arr WS bs 0 []]) := by kernel_rfl
end
theorem db_runs {ph : Int} {x : DpA} (hb : 1 <= x.b /\ x.b <= 64) : Runs Tryz.prog Q2 Tryz.f85 1 [.code (cd Tryz.f85)] (dbS ph x) (.one (.c (.sl 1 0 x.b.toNat))) [.vals (dpC false ph x), .arr WS (pbEs x.v x.b.toNat) 0 []] := by
 refine Runs.piece okQ2 mx (db_a ph x) rfl (by rfl) ?_
 have h := db_b0 ph x 0
 rw [deT (show ((0 : Nat) : Int) < x.b by omega), deT (show (0 : Int) <= ((0 : Nat) : Int) by omega), roomWk (by decide)] at h
 refine Runs.piece okQ2 mx h rfl (by rfl) ?_
 refine loopG (st := fun k (a : List (List Int)) => dbT ph x (.sl 1 0 k) k [.arr WS a 0 []]) (I := fun k a => a = pbEs x.v k) (n := x.b.toNat) (fun k a hk hI => ?_) (fun a hI => ?_) (x.b.toNat - 1) 1 [pbE x.v 0] (by omega) rfl
 ·subst hI;have h := db_b ph x k k (pbEs x.v k)
  rw [deT (show (k : Int) < x.b by omega), deT (show 0 <= (k : Int) by omega), deT (show k = (pbEs x.v k).length from (map_range_len (pbE x.v) k).symm), roomWk (by omega), iwk (by omega)] at h
  exact ⟨_, map_range_snoc (pbE x.v) k, fun hr => Runs.piece okQ2 mx h rfl (by rfl) hr⟩
 ·subst hI;have h := db_c ph x x.b.toNat x.b.toNat (pbEs x.v x.b.toNat)
  rw [deF (by omega)] at h
  exact Runs.last okQ2 mx h rfl (by rfl)
theorem unlF_app : ∀ a b : List FCell, unlF (a ++ b) = unlF a ++ unlF b
 | [], _ => rfl
 | f :: fs, b => by
  have h := unlF_app fs b
  cases f with
  | c x => exact congrArg (FCell.c (unlC x) :: ·) h
  | ws k n xs => exact congrArg (FCell.ws k n xs :: ·) h
def pDpT (s : DsA) (l : List FCell) : Option (Int × DpA) := match l with
 | [.c (.int _ .i64 b), .c (.int _ .i64 c), .c (.int _ .i64 p), .c (.int _ .u64 v), .ws .u64 4 d, .ws .u64 4 a, .ws .u64 4 r, .ws .u64 4 t1, .ws .u64 4 t2, .c (.ro (.ws .u64 4) sl nl), .c (.ro (.ws .u64 4) sr nr), .c (.int _ .i64 ph), .ws .u64 4 y, .ws .u64 4 z] =>
  some (ph, ⟨s, b, c, p, v, d, a, r, t1, t2, sl, nl, sr, nr, y, z⟩)
 | _ => none
theorem pDpT_eq {s : DsA} {l : List FCell} {ph : Int} {x : DpA} (h : pDpT s l = some (ph, x)) : dSet s ++ unlF l = dpC false ph x := by
 unfold pDpT at h;split at h
 ·simp only [Option.some.injEq, Prod.mk.injEq] at h;obtain ⟨rfl, rfl⟩ := h;rfl
 ·cases h
def pDp (l : List FCell) : Option (Int × DpA) := match dSetArg (.g (l.take 18)) with
 | some s => pDpT s (l.drop 18)
 | none => none
theorem pDp_eq {l : List FCell} {ph : Int} {x : DpA} (h : pDp l = some (ph, x)) : unlB (.vals l) = .vals (dpC false ph x) := by
 unfold pDp at h;split at h
 ·rename_i s e;have e := dSetArg_eq e
  rw [<- pDpT_eq h];have e : unlF (l.take 18) = dSet s := V1.g.inj e
  rw [<- e, <- unlF_app, List.take_append_drop];rfl
 ·cases h
def Tp14bits (vs : List V1) (hl : Heap) : Tree (SV × Heap) :=
 match vs, hl with
 | [.c (.ptr 0 0 0 0 0 0)], [.vals l] => match pDp l with
  | some (ph, x) => Tree.chk (decide (1 <= x.b /\ x.b <= 64)) (.ret (.one (.c (.sl 1 0 x.b.toNat)), [.vals (dpC false ph x), .arr WS (pbEs x.v x.b.toNat) 0 []]))
  | none => .fail
 | _, _ => .fail
theorem ok_p14bits : EntryOk Tryz.prog G0 85 Tp14bits := by
 refine EntryOk.unlitHRuns (S := Q2) (fn := Tryz.f85) (c := cd Tryz.f85) (by kernel_rfl) (by kernel_rfl) (by kernel_rfl) (fun vs hl res hl' ok okh h => ?_)
 unfold Tp14bits at h;split at h
 ·rename_i l;split at h
  ·rename_i ph x e;obtain ⟨h1, h2⟩ := val_chk h;obtain ⟨rfl, rfl⟩ := Prod.mk.inj (val_ret h2);rw [show List.map unlB [Blk.vals l] = [unlB (.vals l)] from rfl, pDp_eq e]
   exact db_runs (ofD h1)
  ·cases h
 ·cases h
noncomputable def Q3 : Tab := Q2.put 85 1 Tp14bits
theorem okQ3 : SpecOk Tryz.prog Q3 := okQ2.put ok_p14bits
noncomputable def dsuR (k : List Item) (s : St) : Tree Out := runK Q3 Tryz.prog noLoops 400 k s
noncomputable def dsuS (ph : Int) (x : DpA) (a : List Int) (l : List (List Int)) (n : Nat) (r : List (List Int)) (m : Nat) : St := ⟨enterT Tryz.f86 [.c (.ptr 0 0 0 0 0 0), ws a, .c (.ro WS l n), .c (.ro WS r m)], [.vals (dpC false ph x)]⟩
noncomputable def dsuK : List Item := leftT [true] (dsuR [.code (cd Tryz.f86)] (dsuS 0 { dp0 with s := { dp0.s with n2 := 2 } } [] [] 0 [] 0))
noncomputable def dsuT (ph : Int) (x : DpA) (l : List (List Int)) (n : Nat) (r : List (List Int)) (m : Nat) (o : List Int) (i : Int) : St :=
 ⟨slotsOf 70 [(0, pt 0), (2, one (.ro WS l n)), (3, one (.ro WS r m)), (8, pt 1), (9, pt 2), (10, one (.int false .i64 i))], [.vals (dpC false ph x), .vals [.c (.int true .i64 0), .ws .i64 10 z10, .ws .i64 10 z10, .ws .u64 4 zL, .c .nils], .vals (eF true 2 z10 z10 o .nils)]⟩
theorem dsu_a (ph : Int) (x : DpA) (a : List Int) (l r : List (List Int)) (n m : Nat) : pieceT [0, 2, 3, 8, 9, 10] [10] [0, 2, 3] [true] (dsuR [.code (cd Tryz.f86)] (dsuS ph x a l n r m)) =
  some ([decide (x.s.n2 = 2)], dsuK, dsuT ph x l n r m (limbs (val x.s.D * val a % ell)) (0 : Nat)) := by kernel_rfl
theorem dsu_c (ph : Int) (x : DpA) (o : List Int) (l r : List (List Int)) (n m : Nat) (i : Nat) : endT Tryz.prog Tryz.f86 [0] [false] (dsuR dsuK (dsuT ph x l n r m o i)) = some ([decide ((i : Int) < x.b)], .one (eV o), [.vals (dpC false ph x)]) := by kernel_rfl
def eK (gs : List ED.den) (i : Nat) : Int := (gs.getD i ED.dflt).1
def eL (gs : List ED.den) (i : Nat) : List Int := (gs.getD i ED.dflt).2.2.1
def dvM (o p q : List Int) : List Int := limbs ((val o + val (limbs (val p * val q % ell))) % ell)
def kindsOk (s : DsA) (n : Nat) : Prop := ∀ i, i < n -> eK s.gs i = 2 /\ eK s.hs i = 2
theorem dvM_eq (A : Int) (p q : List Int) : dvM (limbs (A % ell)) p q = limbs ((A + val p * val q) % ell) := by
 unfold dvM;rw [val_mod, val_mod, <- Int.add_emod]
def kindsB (s : DsA) : Nat -> Bool
 | 0 => true
 | k + 1 => kindsB s k && (decide (eK s.gs k = 2) && decide (eK s.hs k = 2))
theorem kindsB_of {s : DsA} : ∀ {n : Nat}, kindsB s n = true -> kindsOk s n
 | 0, _ => fun i hi => absurd hi (Nat.not_lt_zero _)
 | n + 1, h => by
  rw [kindsB, Bool.and_eq_true, Bool.and_eq_true, decide_eq_true_eq, decide_eq_true_eq] at h;intro i hi;rcases Nat.lt_or_ge i n with hlt | hge
  ·exact kindsB_of h.1 i hlt
  ·obtain rfl : i = n := by omega
   exact h.2
def dsuJ (x : DpA) (i : Nat) : Int := iw (iw (x.p * x.b) + i)
theorem dsu_b (ph : Int) (x : DpA) (o : List Int) (l r : List (List Int)) (n m i : Nat) : pieceT [0, 2, 3, 8, 9, 10] [10] [0, 1, 2] [true, true, true, true, true, true, true, true, true] (dsuR dsuK (dsuT ph x l n r m o i)) =
  some ([decide ((i : Int) < x.b), decide (0 <= dsuJ x i /\ dsuJ x i < x.s.ng), decide (0 <= (i : Int) /\ (i : Int) < n), decide (eK x.s.gs (dsuJ x i).toNat = 2), true && decide (val o < ell /\ val (limbs (val (eL x.s.gs (dsuJ x i).toNat) * val (l.getD i zL) % ell)) < ell),
   decide (0 <= dsuJ x i /\ dsuJ x i < x.s.nh), decide (0 <= (i : Int) /\ (i : Int) < m), decide (eK x.s.hs (dsuJ x i).toNat = 2), true && decide (val (dvM o (eL x.s.gs (dsuJ x i).toNat) (l.getD i zL)) < ell /\ val (limbs (val (eL x.s.hs (dsuJ x i).toNat) * val (r.getD i zL) % ell)) < ell)], dsuK,
   dsuT ph x l n r m (dvM (dvM o (eL x.s.gs (dsuJ x i).toNat) (l.getD i zL)) (eL x.s.hs (dsuJ x i).toNat) (r.getD i zL)) (iw ((i : Int) + 1))) := by kernel_rfl
def vecF (s : DsA) (a : List Int) (l r : List (List Int)) (f n : Nat) : Int := val s.D * val a + sumN (fun i => val (eL s.gs (f + i)) * val (l.getD i zL) + val (eL s.hs (f + i)) * val (r.getD i zL)) n
structure DsuOk (x : DpA) (n m : Nat) : Prop where
 n2 : x.s.n2 = 2
 b : 1 <= x.b /\ x.b <= 64
 p : 0 <= x.p /\ x.p <= 16
 ng : x.p * x.b + x.b <= x.s.ng
 nh : x.p * x.b + x.b <= x.s.nh
 n : n = x.b.toNat
 m : m = x.b.toNat
 k : kindsOk x.s ((x.p * x.b).toNat + x.b.toNat)
theorem dsu_runs {ph : Int} {x : DpA} {a : List Int} {l r : List (List Int)} {n m : Nat} (h : DsuOk x n m) :
  Runs Tryz.prog Q3 Tryz.f86 1 [.code (cd Tryz.f86)] (dsuS ph x a l n r m) (.one (eV (limbs (vecF x.s a l r (x.p * x.b).toNat x.b.toNat % ell)))) [.vals (dpC false ph x)] := by
 obtain ⟨n2, ⟨b1, b2⟩, ⟨p1, p2⟩, ng, nh, rfl, rfl, hk⟩ := h;have hp0 : 0 <= x.p * x.b := Int.mul_nonneg p1 (by omega)
 have hp1 : x.p * x.b <= 16 * 64 := Int.mul_le_mul p2 b2 (by omega) (by decide)
 have hJ : ∀ i : Nat, (i : Int) < 64 -> dsuJ x i = ((x.p * x.b).toNat + i : Nat) := fun i hi => by
  have e : iw (x.p * x.b) = x.p * x.b := by
   unfold iw;rw [IntKind.wrap_i64];omega
  unfold dsuJ;rw [e];unfold iw;rw [IntKind.wrap_i64];omega
 have h := dsu_a ph x a l r x.b.toNat x.b.toNat
 rw [deT n2] at h;refine Runs.piece okQ3 mx h rfl (by rfl) ?_
 generalize hf : (x.p * x.b).toNat = f at *
 generalize hn : x.b.toNat = n at *
 refine loopG (st := fun k (o : List Int) => dsuT ph x l n r n o k) (I := fun k o => o = limbs (vecF x.s a l r f k % ell)) (n := n) (fun k o hkn hI => ?_) (fun o hI => ?_) n 0 _ (by omega) (by unfold vecF; rw [show sumN _ 0 = 0 from rfl, Int.add_zero])
 ·subst hI;have h := dsu_b ph x (limbs (vecF x.s a l r f k % ell)) l r n n k
  rw [hJ k (by omega), Int.toNat_natCast] at h
  rw [dvM_eq, dvM_eq, deT (hk (f + k) (by omega)).1, deT (hk (f + k) (by omega)).2, deT (show (k : Int) < x.b by omega), deT (show 0 <= ((f + k : Nat) : Int) /\ ((f + k : Nat) : Int) < x.s.ng by omega), deT (show 0 <= (k : Int) /\ (k : Int) < n by omega), deT (show 0 <= ((f + k : Nat) : Int) /\ ((f + k : Nat) : Int) < x.s.nh by omega), val_mod, val_mod, val_mod, val_mod,
   deT (show vecF x.s a l r f k % ell < ell /\ val (eL x.s.gs (f + k)) * val (l.getD k zL) % ell < ell from ⟨(mod_bound _).2, (mod_bound _).2⟩), deT (show (vecF x.s a l r f k + val (eL x.s.gs (f + k)) * val (l.getD k zL)) % ell < ell /\ val (eL x.s.hs (f + k)) * val (r.getD k zL) % ell < ell from ⟨(mod_bound _).2, (mod_bound _).2⟩), iwk (by omega)] at h
  refine ⟨_, ?_, fun hr => Runs.piece okQ3 mx h rfl (by rfl) hr⟩
  rw [Int.add_assoc];unfold vecF;rw [Int.add_assoc];rfl
 ·subst hI;have h := dsu_c ph x (limbs (vecF x.s a l r f n % ell)) l r n n n
  rw [deF (by omega)] at h
  exact Runs.last okQ3 mx h rfl (by rfl)
def dsuB (x : DpA) (n m : Nat) : Bool := decide (x.s.n2 = 2 /\ (1 <= x.b /\ x.b <= 64) /\ (0 <= x.p /\ x.p <= 16) /\ x.p * x.b + x.b <= x.s.ng /\ x.p * x.b + x.b <= x.s.nh /\ n = x.b.toNat /\ m = x.b.toNat) && kindsB x.s ((x.p * x.b).toNat + x.b.toNat)
theorem dsuB_of {x : DpA} {n m : Nat} (h : dsuB x n m = true) : DsuOk x n m := by
 unfold dsuB at h;rw [Bool.and_eq_true, decide_eq_true_eq] at h;obtain ⟨⟨q1, q2, q3, q4, q5, q6, q7⟩, q8⟩ := h;exact ⟨q1, q2, q3, q4, q5, q6, q7, kindsB_of q8⟩
def Tp14sum (vs : List V1) (hl : Heap) : Tree (SV × Heap) :=
 match vs, hl with
 | [.c (.ptr 0 0 0 0 0 0), .g [.ws .u64 4 a], .c (.ro (.ws .u64 4) l n), .c (.ro (.ws .u64 4) r m)], [.vals q] => match pDp q with
  | some (ph, x) => Tree.chk (dsuB x n m) (.ret (.one (eV (limbs (vecF x.s a l r (x.p * x.b).toNat x.b.toNat % ell))), [.vals (dpC false ph x)]))
  | none => .fail
 | _, _ => .fail
theorem ok_p14sum : EntryOk Tryz.prog G0 86 Tp14sum := by
 refine EntryOk.unlitHRuns (S := Q3) (fn := Tryz.f86) (c := cd Tryz.f86) (by kernel_rfl) (by kernel_rfl) (by kernel_rfl) (fun vs hl res hl' ok okh h => ?_)
 unfold Tp14sum at h;split at h
 ·rename_i a l n r m q;split at h
  ·rename_i ph x e;obtain ⟨h1, h2⟩ := val_chk h;obtain ⟨rfl, rfl⟩ := Prod.mk.inj (val_ret h2);rw [show List.map unlB [Blk.vals q] = [unlB (.vals q)] from rfl, pDp_eq e]
   exact dsu_runs (dsuB_of h1)
  ·cases h
 ·cases h
noncomputable def Q4 : Tab := Q3.put 86 0 Tp14sum
theorem okQ4 : SpecOk Tryz.prog Q4 := okQ3.put ok_p14sum
end Go.Sc
