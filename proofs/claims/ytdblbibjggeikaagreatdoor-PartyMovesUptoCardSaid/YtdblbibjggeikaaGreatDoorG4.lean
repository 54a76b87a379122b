/- Layer 14, the document: Share, its pieces. -/
import Derived.Test.YtdblbibjggeikaaGreatDoorG3
set_option linter.unusedSectionVars false
set_option linter.unusedVariables false
set_option linter.unusedSimpArgs false
namespace Go.Sc
open Go Go.SX Go.Proofs
variable [Level] [Lone]
noncomputable def dhR (k : List Item) (s : St) : Tree Out := runK Q7 Tryz.prog noLoops 400 k s
noncomputable def dhS (ph : Int) (x : DpA) (e : List Int) : St := ⟨enterT Tryz.f32 [.c (.ptr 0 0 0 0 0 0), ws e], [.vals (dpC false ph x)]⟩
def dshF (l : Bool) (p : Int) (a b c : List Int) (L R : Cell) : List FCell := [.c (.int l .i64 p), .ws .u64 4 a, .ws .u64 4 b, .ws .u64 4 c, .c L, .c R]
def dhE (e : Int) : SV := .tup [.g (dshF true 0 zL zL zL .nils .nils), .c (.int true .i64 e)]
noncomputable def dhK : List Item := leftT [false, false, true] (dhR [.code (cd Tryz.f32)] (dhS 0 dp0 []))
structure Fo4 where
 a : List (List Int)
 b : List (List Int)
 c : List (List Int)
 d : List (List Int)
noncomputable def dhT (x : DpA) (e : List Int) (k : Nat) (s : Fo4) (L R : Cell) (i : Int) (h : Heap) : St :=
 ⟨slotsOf 145 [(0, pt 0), (3, pt 1), (4, pt 2), (6, one (.sl 3 0 k)), (7, one (.sl 4 0 k)), (8, one (.sl 5 0 k)), (9, one (.sl 6 0 k)), (10, pt 7), (11, one (.int false .i64 i))],
  [.vals (dpC false 2 x), .vals [.ws .u64 4 e], .vals (dshF true 0 zL zL zL .nils .nils)] ++ dlH s.a s.b s.c s.d ++ [.vals (dshF false x.p zL zL zL L R)] ++ h⟩
def dhP : List Nat := [0, 3, 4, 6, 7, 8, 9, 10, 11]
noncomputable def dhLs (x : DpA) (k : Nat) : Fo4 := ⟨mpL (dg0 x x.z) k, mpL (dg1 x) k, mpL (dg2 x x.y x.z) k, mpL (dg3 x x.y) k⟩
section
variable (ph : Int) (x : DpA) (e : List Int) (k m i : Nat) (s : Fo4) (U V : List (List Int))
theorem dh_0 : endT Tryz.prog Tryz.f32 [] [] (dhR [.code (cd Tryz.f32)] ⟨enterT Tryz.f32 [.c .nilp, ws e], []⟩) = some ([], dhE 1, []) := by kernel_rfl
theorem dh_1 : endT Tryz.prog Tryz.f32 [0] [true] (dhR [.code (cd Tryz.f32)] (dhS ph x e)) = some ([ph != 1], dhE 6, [.vals (dpC false ph x)]) := by kernel_rfl
theorem dh_2 : endT Tryz.prog Tryz.f32 [0] [false, true] (dhR [.code (cd Tryz.f32)] (dhS ph x e)) = some ([ph != 1, decide (val e = 0)], dhE 4, [.vals (dpC false ph x)]) := by kernel_rfl
theorem dh_a : pieceT dhP [11] (List.range 8) [false, false, true] (dhR [.code (cd Tryz.f32)] (dhS ph x e)) =
  some ([ph != 1, decide (val e = 0), dlOk x x.z], dhK, dhT x e x.b.toNat (dhLs x x.b.toNat) .nils .nils (0 : Nat) []) := by kernel_rfl
def dhM (e a b : List Int) : List Int := limbs ((val a + val (limbs (val b * val e % ell))) % ell)
def dhC (e : List Int) (a b : List (List Int)) (i : Nat) : Bool := decide (val (dlBs a i) < ell /\ val (limbs (val (dlBs b i) * val e % ell)) < ell)
theorem dh_b0 : pieceT dhP [11] [0, 1, 2, 3, 4, 5, 6, 7, 9, 11] (List.replicate 9 true) (dhR dhK (dhT x e k s .nils .nils i [])) =
  some ([decide ((i : Int) < x.b), inK' i k, inK' i k, dhC e s.a s.b i, roomW 1, inK' i k, inK' i k, dhC e s.c s.d i, roomW 1], dhK,
   dhT x e k s (.sl 8 0 1) (.sl 9 0 1) (iw ((i : Int) + 1)) [.arr WS [dhM e (dlBs s.a i) (dlBs s.b i)] 0 [], .arr WS [dhM e (dlBs s.c i) (dlBs s.d i)] 0 []]) := by kernel_rfl
theorem dh_b : pieceT dhP [11] [0, 1, 2, 3, 4, 5, 6, 7, 11, 13] (List.replicate 9 true) (dhR dhK (dhT x e k s (.sl 8 0 m) (.sl 9 0 m) i [.arr WS U 0 [], .arr WS V 0 []])) =
  some ([decide ((i : Int) < x.b), inK' i k, inK' i k, dhC e s.a s.b i, dlF m U, inK' i k, inK' i k, dhC e s.c s.d i, dlF m V], dhK,
   dhT x e k s (.sl 8 0 (m + 1)) (.sl 9 0 (m + 1)) (iw ((i : Int) + 1)) [.arr WS (U ++ [dhM e (dlBs s.a i) (dlBs s.b i)]) 0 [], .arr WS (V ++ [dhM e (dlBs s.c i) (dlBs s.d i)]) 0 []]) := by kernel_rfl
end
def dhW (x : DpA) : List Int := limbs (val x.z ^ (IntKind.u64.wrap (iw (2 + x.p))).toNat % ell)
def dhTx (x : DpA) (e w : List Int) : List Int := adL (adL (mulL x.t1 e) (mulL (mulL x.t2 e) e)) (mulL w x.d)
def dhMu (x : DpA) (e : List Int) : List Int := adL x.a (mulL x.r e)
def dhV (x : DpA) (e w : List Int) (U V : List (List Int)) (m : Nat) : SV := .tup [.g (dshF false x.p (dhTx x e w) (dhMu x e) (limbs (inn U V m % ell)) (.sl 1 0 m) (.sl 2 0 m)), .c (.int true .i64 0)]
theorem dh_c (x : DpA) (e : List Int) (k m i : Nat) (s : Fo4) (U V : List (List Int)) : endT Tryz.prog Tryz.f32 [0, 8, 9] [false, true, true, true, true] (dhR dhK (dhT x e k s (.sl 8 0 m) (.sl 9 0 m) i [.arr WS U 0 [], .arr WS V 0 []])) =
  some ([decide ((i : Int) < x.b), decide (m <= m /\ m <= 1048576), decide (val (mulL x.t1 e) < ell /\ val (mulL (mulL x.t2 e) e) < ell), decide (val (adL (mulL x.t1 e) (mulL (mulL x.t2 e) e)) < ell /\ val (mulL (dhW x) x.d) < ell), decide (val x.a < ell /\ val (mulL x.r e) < ell)],
   dhV x e (dhW x) (U.drop 0) (V.drop 0) m, [.vals (dpC false 2 x), .arr WS U 0 [], .arr WS V 0 []]) := by kernel_rfl
def dhL (x : DpA) (e : List Int) (i : Nat) : List Int := dhM e (dg0 x x.z i) (dg1 x i)
def dhQ (x : DpA) (e : List Int) (i : Nat) : List Int := dhM e (dg2 x x.y x.z i) (dg3 x x.y i)
theorem dlBs_get (f : Nat -> List Int) {n i : Nat} (h : i < n) : dlBs (mpL f n) i = f i := by
 unfold dlBs;rw [Nat.zero_add];exact mpL_get f h
section
variable {x : DpA} {e : List Int}
theorem dh_ix (o : DlOk x x.z) {i : Nat} (h : i < x.b.toNat) : dlBs (dhLs x x.b.toNat).a i = dg0 x x.z i /\ dlBs (dhLs x x.b.toNat).b i = dg1 x i /\ dlBs (dhLs x x.b.toNat).c i = dg2 x x.y x.z i /\ dlBs (dhLs x x.b.toNat).d i = dg3 x x.y i /\
  dhC e (dhLs x x.b.toNat).a (dhLs x x.b.toNat).b i = true /\ dhC e (dhLs x x.b.toNat).c (dhLs x x.b.toNat).d i = true := by
 have e1 : dlBs (dhLs x x.b.toNat).a i = dg0 x x.z i := dlBs_get _ h
 have e2 : dlBs (dhLs x x.b.toNat).c i = dg2 x x.y x.z i := dlBs_get _ h
 refine ⟨e1, dlBs_get _ h, e2, dlBs_get _ h, ?_, ?_⟩
 ·unfold dhC;rw [e1];exact deT ⟨vlt _, vlt _⟩
 ·unfold dhC;rw [e2];exact deT ⟨vlt _, vlt _⟩
theorem dhW_eq (o : DlOk x x.z) : dhW x = limbs (val x.z ^ (2 + x.p).toNat % ell) := by
 obtain ⟨p1, p2⟩ := o.p;have e : iw (2 + x.p) = 2 + x.p := by unfold iw; rw [IntKind.wrap_i64]; omega
 unfold dhW;rw [e, wrapU, show ((2 + x.p) % 18446744073709551616).toNat = (2 + x.p).toNat by omega]
def dhRes (x : DpA) (e : List Int) : SV := dhV x e (limbs (val x.z ^ (2 + x.p).toNat % ell)) (mpL (dhL x e) x.b.toNat) (mpL (dhQ x e) x.b.toNat) x.b.toNat
def dhHp (x : DpA) (e : List Int) : Heap := [.vals (dpC false 2 x), .arr WS (mpL (dhL x e) x.b.toNat) 0 [], .arr WS (mpL (dhQ x e) x.b.toNat) 0 []]
abbrev RDh (s : St) (v : SV) (h : Heap) : Prop := Runs Tryz.prog Q7 Tryz.f32 1 [.code (cd Tryz.f32)] s v h
theorem dh_runs (o : DlOk x x.z) (he : val e ≠ 0) (ha : val x.a < ell) : RDh (dhS 1 x e) (dhRes x e) (dhHp x e) := by
 obtain ⟨b1, b2⟩ := o.b;have h := dh_a 1 x e
 rw [show ((1 : Int) != 1) = false from rfl, deF he, show dlOk x x.z = true from deT ⟨o.b, o.p, o.nl, o.nr, o.z⟩] at h
 refine Runs.piece okQ7 mx h rfl (by rfl) ?_
 have hb : 1 <= x.b.toNat /\ x.b.toNat <= 64 := by omega
 unfold dhRes dhHp;obtain ⟨q1, q2, q3, q4, q5, q6⟩ := dh_ix (e := e) o (show 0 < x.b.toNat by omega)
 have h := dh_b0 x e x.b.toNat 0 (dhLs x x.b.toNat)
 rw [deT (show ((0 : Nat) : Int) < x.b by omega), inK_t (show 0 < x.b.toNat by omega), q1, q2, q3, q4, q5, q6, roomWk (by decide)] at h
 refine Runs.piece okQ7 mx h rfl (by rfl) ?_
 refine loopG (st := fun k (a : List (List Int) × List (List Int)) => dhT x e x.b.toNat (dhLs x x.b.toNat) (.sl 8 0 k) (.sl 9 0 k) k [.arr WS a.1 0 [], .arr WS a.2 0 []]) (I := fun k a => a = (mpL (dhL x e) k, mpL (dhQ x e) k)) (n := x.b.toNat) (fun k a hk hI => ?_) (fun a hI => ?_) (x.b.toNat - 1) 1 ([dhL x e 0], [dhQ x e 0]) (by omega) rfl
 ·subst hI;obtain ⟨q1, q2, q3, q4, q5, q6⟩ := dh_ix (e := e) o hk;have ef : ∀ f : Nat -> List Int, dlF k (mpL f k) = true := fun f => by
   unfold dlF;rw [mpL_len, deT rfl, roomWk (by omega)]; rfl
  have h := dh_b x e x.b.toNat k k (dhLs x x.b.toNat) (mpL (dhL x e) k) (mpL (dhQ x e) k)
  rw [deT (show (k : Int) < x.b by omega), inK_t hk, q1, q2, q3, q4, q5, q6, ef, ef, iwk (by omega)] at h
  exact ⟨(_, _), Prod.ext (mpL_next (dhL x e) k) (mpL_next (dhQ x e) k), fun hr => Runs.piece okQ7 mx h rfl (by rfl) hr⟩
 ·subst hI;have h := dh_c x e x.b.toNat x.b.toNat x.b.toNat (dhLs x x.b.toNat) (mpL (dhL x e) x.b.toNat) (mpL (dhQ x e) x.b.toNat)
  rw [deF (show ¬ (x.b.toNat : Int) < x.b by omega), deT (show x.b.toNat <= x.b.toNat /\ x.b.toNat <= 1048576 by omega), deT (show val (mulL x.t1 e) < ell /\ val (mulL (mulL x.t2 e) e) < ell from ⟨vlt _, vlt _⟩),
   deT (show val (adL (mulL x.t1 e) (mulL (mulL x.t2 e) e)) < ell /\ val (mulL (dhW x) x.d) < ell from ⟨vlt _, vlt _⟩), deT (show val x.a < ell /\ val (mulL x.r e) < ell from ⟨ha, vlt _⟩), dhW_eq o] at h
  exact Runs.last okQ7 mx h rfl (by rfl)
end
noncomputable def dhTr (x : DpA) (e : List Int) : Tree (SV × Heap) := .br (decide (val e = 0)) (.ret (dhE 4, [.vals (dpC false 1 x)])) (Tree.chk (dlOk x x.z && decide (val x.a < ell)) (.ret (dhRes x e, dhHp x e)))
theorem dh_all {x : DpA} {e : List Int} {res : SV} {hl' : Heap} (h : (dhTr x e).val = some (res, hl')) : RDh (dhS 1 x e) res hl' := by
 unfold dhTr at h;by_cases he : val e = 0
 ·rw [deT he] at h;obtain ⟨rfl, rfl⟩ := Prod.mk.inj (val_ret (show (Tree.ret (dhE 4, [Blk.vals (dpC false 1 x)])).val = _ from h))
  have q := dh_2 1 x e
  rw [deT he, show ((1 : Int) != 1) = false from rfl] at q
  exact Runs.last okQ7 mx q rfl (by rfl)
 ·rw [deF he] at h;obtain ⟨h1, h2⟩ := val_chk (show (Tree.chk (dlOk x x.z && decide (val x.a < ell)) (.ret (dhRes x e, dhHp x e))).val = _ from h)
  rw [Bool.and_eq_true, decide_eq_true_eq] at h1;obtain ⟨rfl, rfl⟩ := Prod.mk.inj (val_ret h2);exact dh_runs (dlOk_of h1.1) he h1.2
noncomputable def Tp14Share (vs : List V1) (hl : Heap) : Tree (SV × Heap) :=
 match vs, hl with
 | [.c .nilp, .g [.ws .u64 4 _]], [] => .ret (dhE 1, [])
 | [.c (.ptr 0 0 0 0 0 0), .g [.ws .u64 4 e]], [.vals q] => match pDp q with
  | some (1, x) => dhTr x e
  | some (ph, x) => Tree.chk (decide (ph ≠ 1)) (.ret (dhE 6, [.vals (dpC false ph x)]))
  | none => .fail
 | _, _ => .fail
theorem ok_p14Share : EntryOk Tryz.prog G0 32 Tp14Share := by
 refine EntryOk.unlitHRuns (S := Q7) (fn := Tryz.f32) (c := cd Tryz.f32) (by kernel_rfl) (by kernel_rfl) (by kernel_rfl) (fun vs hl res hl' ok okh h => ?_)
 unfold Tp14Share at h;split at h
 ·rename_i e;obtain ⟨rfl, rfl⟩ := Prod.mk.inj (val_ret h);exact Runs.last okQ7 mx (dh_0 e) rfl (by rfl)
 ·rename_i e q;split at h
  ·rename_i x e';rw [show List.map unlB [Blk.vals q] = [unlB (.vals q)] from rfl, pDp_eq e']
   exact dh_all h
  ·rename_i ph x _ e';obtain ⟨h1, h2⟩ := val_chk h;obtain ⟨rfl, rfl⟩ := Prod.mk.inj (val_ret h2);rw [show List.map unlB [Blk.vals q] = [unlB (.vals q)] from rfl, pDp_eq e']
   have q := dh_1 ph x e
   rw [bneq (ofD h1)] at q;exact Runs.last okQ7 mx q rfl (by rfl)
  ·cases h
 ·cases h
noncomputable def Q8 : Tab := Q7.put 32 2 Tp14Share
theorem okQ8 : SpecOk Tryz.prog Q8 := okQ7.put ok_p14Share
theorem num_a (xs : List Int) : (bodyT Q8 Tryz.prog allLoops Tryz.f33 (cd Tryz.f33) [ws xs] []).path [] = some ([], .one (ws (limbs (val xs % ell))), []) := by kernel_rfl
theorem ok_l14num : EntryOk Tryz.prog G0 33 TLeast := by
 refine EntryOk.sub (bodyT_ok okQ8 mx (un := allLoops) (fn := Tryz.f33) (c := cd Tryz.f33) (by kernel_rfl) (by kernel_rfl) (by kernel_rfl)) (fun vs hl r ok h => ?_)
 unfold TLeast at h;split at h
 ·rename_i xs;obtain rfl := val_ret h;exact Tree.path_val (num_a xs)
 ·cases h
theorem num7_a (xs : List Int) : (bodyT Q8 Tryz.prog allLoops Tryz.f108 (cd Tryz.f108) [ws xs] []).path [] = some ([], .one (ws (limbs (val xs % ell))), []) := by kernel_rfl
theorem ok_lnum7 : EntryOk Tryz.prog G0 108 TLeast := by
 refine EntryOk.sub (bodyT_ok okQ8 mx (un := allLoops) (fn := Tryz.f108) (c := cd Tryz.f108) (by kernel_rfl) (by kernel_rfl) (by kernel_rfl)) (fun vs hl r ok h => ?_)
 unfold TLeast at h;split at h
 ·rename_i xs;obtain rfl := val_ret h;exact Tree.path_val (num7_a xs)
 ·cases h
noncomputable def M8 : Tab := (Q8.put 33 0 TLeast).put 108 0 TLeast
theorem okM8 : SpecOk Tryz.prog M8 := (okQ8.put ok_l14num).put ok_lnum7
def leL (x : List Int) : List Int := limbs (val x % ell)
theorem ofLine_a (k : List Int) : (bodyT M8 Tryz.prog allLoops Tryz.f44 (cd Tryz.f44) [ws k] []).path [] = some ([], .one (eV (leL k)), []) := by kernel_rfl
def TOfLine (vs : List V1) (hl : Heap) : Tree (SV × Heap) :=
 match vs, hl with
 | [.g [.ws .u64 4 k]], [] => .ret (.one (eV (leL k)), [])
 | _, _ => .fail
theorem ok_l14OfLine : EntryOk Tryz.prog G0 44 TOfLine := by
 refine EntryOk.sub (bodyT_ok okM8 mx (un := allLoops) (fn := Tryz.f44) (c := cd Tryz.f44) (by kernel_rfl) (by kernel_rfl) (by kernel_rfl)) (fun vs hl r ok h => ?_)
 unfold TOfLine at h;split at h
 ·rename_i k;obtain rfl := val_ret h;exact Tree.path_val (ofLine_a k)
 ·cases h
noncomputable def M9 : Tab := M8.put 44 0 TOfLine
theorem okM9 : SpecOk Tryz.prog M9 := okM8.put ok_l14OfLine
noncomputable def mqR (k : List Item) (s : St) : Tree Out := runK M9 Tryz.prog noLoops 400 k s
def mqnE (xs : List WS.den) (i : Nat) : WS.den := leL (xs.getD i zL)
noncomputable def mqnS (xs : List WS.den) (n : Nat) : St := ⟨enterT Tryz.f87 [.c (.ro WS xs n)], []⟩
noncomputable def mqnK : List Item := leftT [] (mqR [.code (cd Tryz.f87)] (mqnS [] 0))
noncomputable def mqnT0 (xs : List WS.den) (n : Nat) (i : Int) : St := ⟨slotsOf 20 [(0, one (.ro WS xs n)), (3, one .nils), (4, one (.int false .i64 i))], []⟩
noncomputable def mqnT (xs : List WS.den) (n m : Nat) (V : List WS.den) (i : Int) : St := ⟨slotsOf 20 [(0, one (.ro WS xs n)), (3, one (.sl 0 0 m)), (4, one (.int false .i64 i))], [.arr WS V 0 []]⟩
theorem mqn_a (xs : List WS.den) (n : Nat) : pieceT [0, 3, 4] [4] [] [] (mqR [.code (cd Tryz.f87)] (mqnS xs n)) = some ([], mqnK, mqnT0 xs n (0 : Nat)) := by kernel_rfl
theorem mqn_n (xs : List WS.den) (n : Nat) (i : Int) : (⟨setT (mqnT0 xs n i).t 3 (ownS (mqnT0 xs n i).h.length (getT (mqnT0 xs n i).t 3)).1, (mqnT0 xs n i).h ++ List.replicate ((ownS (mqnT0 xs n i).h.length (getT (mqnT0 xs n i).t 3)).2 - (mqnT0 xs n i).h.length) (.arr WS [] 0 [])⟩ : St) = mqnT xs n 0 [] i := by kernel_rfl
theorem mqn_b (xs : List WS.den) (n m : Nat) (V : List WS.den) (i : Nat) : pieceT [0, 3, 4] [4] [2] [true, true, true] (mqR mqnK (mqnT xs n m V i)) =
  some ([decide ((i : Int) < n), decide (0 <= (i : Int) /\ (i : Int) < n), decide (m = V.length) && (SX.room (m + 1) (Tryz.prog.bytesOf 45) && SX.room (m + 1) 1)], mqnK, mqnT xs n (m + 1) (V ++ ([mqnE xs i] : List WS.den)) (iw ((i : Int) + 1))) := by kernel_rfl
theorem mqn_c (xs : List WS.den) (n m : Nat) (V : List WS.den) (i : Nat) : endT Tryz.prog Tryz.f87 [0] [false] (mqR mqnK (mqnT xs n m V i)) = some ([decide ((i : Int) < n)], .one (.c (.sl 0 0 m)), [.arr WS V 0 []]) := by kernel_rfl
def mqnL (xs : List WS.den) (n : Nat) : List WS.den := (List.range n).map (mqnE xs)
theorem mqn_runs {xs : List WS.den} {n : Nat} (hn : n <= 1048576) : Runs Tryz.prog M9 Tryz.f87 0 [.code (cd Tryz.f87)] (mqnS xs n) (.one (.c (.sl 0 0 n))) [.arr WS (mqnL xs n) 0 []] := by
 refine Runs.piece okM9 mx (mqn_a xs n) rfl (by rfl) ?_
 refine Runs.nilSlot 3 WS (by decide) ?_
 rw [mqn_n];refine loopG (st := fun k (a : List WS.den) => mqnT xs n k a k) (I := fun k a => a = mqnL xs k) (n := n) (fun k a hk hI => ?_) (fun a hI => ?_) n 0 [] (by omega) rfl
 ·subst hI;have h := mqn_b xs n k (mqnL xs k) k
  rw [deT (show (k : Int) < n by omega), deT (show 0 <= (k : Int) /\ (k : Int) < n by omega), deT (show k = (mqnL xs k).length from (map_range_len (α := WS.den) (mqnE xs) k).symm), show Tryz.prog.bytesOf 45 = 32 from by kernel_rfl, room_ok (show (k + 1) * 32 <= 140737488355328 by omega), room_ok (show (k + 1) * 1 <= 140737488355328 by omega), iwk (by omega)] at h
  exact ⟨_, map_range_snoc (α := WS.den) (mqnE xs) k, fun hr => Runs.piece okM9 mx h rfl (by rfl) hr⟩
 ·subst hI;exact Runs.last okM9 mx (mqn_c xs n n _ n) (by rw [deF (by omega)]) (by rfl)
def Tmqn (vs : List V1) (hl : Heap) : Tree (SV × Heap) :=
 match vs, hl with
 | [.c (.ro (.ws .u64 4) xs n)], [] => Tree.chk (decide (n <= 1048576)) (.ret (.one (.c (.sl 0 0 n)), [.arr WS (mqnL xs n) 0 []]))
 | _, _ => .fail
theorem ok_l14nums : EntryOk Tryz.prog G0 87 Tmqn := by
 refine EntryOk.runs (S := M9) (fn := Tryz.f87) (c := cd Tryz.f87) (by kernel_rfl) (by kernel_rfl) (by kernel_rfl) (fun vs hl res hl' ok h => ?_)
 unfold Tmqn at h;split at h
 ·rename_i xs n;obtain ⟨h1, h2⟩ := val_chk h;obtain ⟨rfl, rfl⟩ := Prod.mk.inj (val_ret h2);exact mqn_runs (ofD h1)
 ·cases h
noncomputable def N1 : Tab := M9.put 87 1 Tmqn
theorem okN1 : SpecOk Tryz.prog N1 := okM9.put ok_l14nums
noncomputable def mlR (k : List Item) (s : St) : Tree Out := runK N1 Tryz.prog noLoops 400 k s
def edE (k : List Int) : ED.den := ((2 : Int), ((z10, (z10, ())), ()), k, ([], 0), ())
def mqlE (xs : List (List Int)) (i : Nat) : PL.den := (xs.getD i zL, ())
def mqoE (xs : List (List Int)) (i : Nat) : ED.den := edE (leL (xs.getD i zL))
noncomputable def mlS (xs : List (List Int)) (n : Nat) : St := ⟨enterT Tryz.f76 [.c (.ro WS xs n)], []⟩
noncomputable def mlK : List Item := leftT [] (mlR [.code (cd Tryz.f76)] (mlS [] 0))
noncomputable def mlT (xs : List (List Int)) (n : Nat) (a b : Cell) (i : Int) (h : Heap) : St := ⟨slotsOf 32 [(0, one (.ro WS xs n)), (4, one a), (5, one b), (6, one (.int false .i64 i))], h⟩
theorem ml_a (xs : List (List Int)) (n : Nat) : pieceT [0, 4, 5, 6] [6] [] [] (mlR [.code (cd Tryz.f76)] (mlS xs n)) = some ([], mlK, mlT xs n .nils .nils (0 : Nat) []) := by kernel_rfl
def nilS (s : St) (d : Nat) (t : DTy) : St := ⟨setT s.t d (ownS s.h.length (getT s.t d)).1, s.h ++ List.replicate ((ownS s.h.length (getT s.t d)).2 - s.h.length) (.arr t [] 0 [])⟩
theorem ml_n (xs : List (List Int)) (n : Nat) (i : Int) : nilS (nilS (mlT xs n .nils .nils i []) 4 PL) 5 ED = mlT xs n (.sl 0 0 0) (.sl 1 0 0) i [.arr PL [] 0 [], .arr ED [] 0 []] := by kernel_rfl
noncomputable def mlC (m : Nat) (V : List PL.den) : Bool := decide (m = V.length) && (SX.room (m + 1) (Tryz.prog.bytesOf 35) && SX.room (m + 1) 1)
noncomputable def mlD (m : Nat) (V : List ED.den) : Bool := decide (m = V.length) && (SX.room (m + 1) (Tryz.prog.bytesOf 48) && SX.room (m + 1) 1)
theorem ml_b (xs : List (List Int)) (n m i : Nat) (V : List PL.den) (W : List ED.den) : pieceT [0, 4, 5, 6] [6] [3, 5] [true, true, true, true, true] (mlR mlK (mlT xs n (.sl 0 0 m) (.sl 1 0 m) i [.arr PL V 0 [], .arr ED W 0 []])) =
  some ([decide ((i : Int) < n), decide (0 <= (i : Int) /\ (i : Int) < n), mlC m V, decide (0 <= (i : Int) /\ (i : Int) < n), mlD m W], mlK, mlT xs n (.sl 0 0 (m + 1)) (.sl 1 0 (m + 1)) (iw ((i : Int) + 1)) [.arr PL (V ++ ([mqlE xs i] : List PL.den)) 0 [], .arr ED (W ++ ([mqoE xs i] : List ED.den)) 0 []]) := by kernel_rfl
theorem ml_c (xs : List (List Int)) (n m i : Nat) (V : List PL.den) (W : List ED.den) : endT Tryz.prog Tryz.f76 [0, 1] [false] (mlR mlK (mlT xs n (.sl 0 0 m) (.sl 1 0 m) i [.arr PL V 0 [], .arr ED W 0 []])) =
  some ([decide ((i : Int) < n)], .tup [.c (.sl 0 0 m), .c (.sl 1 0 m)], [.arr PL V 0 [], .arr ED W 0 []]) := by kernel_rfl
def mqlL (xs : List (List Int)) (n : Nat) : List PL.den := (List.range n).map (mqlE xs)
def mqoL (xs : List (List Int)) (n : Nat) : List ED.den := (List.range n).map (mqoE xs)
theorem mlC_ok {m : Nat} {V : List PL.den} (h : m = V.length) (hm : m < 1048576) : mlC m V = true := by
 unfold mlC;rw [deT h, show Tryz.prog.bytesOf 35 = 32 from by kernel_rfl, room_ok (by omega), room_ok (by omega)]; rfl
theorem mlD_ok {m : Nat} {V : List ED.den} (h : m = V.length) (hm : m < 1048576) : mlD m V = true := by
 unfold mlD;rw [deT h, show Tryz.prog.bytesOf 48 = 224 from by kernel_rfl, room_ok (by omega), room_ok (by omega)]; rfl
theorem ml_runs {xs : List (List Int)} {n : Nat} (hn : n <= 1048576) : Runs Tryz.prog N1 Tryz.f76 0 [.code (cd Tryz.f76)] (mlS xs n) (.tup [.c (.sl 0 0 n), .c (.sl 1 0 n)]) [.arr PL (mqlL xs n) 0 [], .arr ED (mqoL xs n) 0 []] := by
 refine Runs.piece okN1 mx (ml_a xs n) rfl (by rfl) ?_
 refine Runs.nilSlot 4 PL (by decide) (Runs.nilSlot 5 ED (by decide) ?_)
 show Runs _ _ _ _ _ (nilS (nilS (mlT xs n .nils .nils (0 : Nat) []) 4 PL) 5 ED) _ _
 rw [ml_n];refine loopG (st := fun k (a : List PL.den × List ED.den) => mlT xs n (.sl 0 0 k) (.sl 1 0 k) k [.arr PL a.1 0 [], .arr ED a.2 0 []]) (I := fun k a => a = (mqlL xs k, mqoL xs k)) (n := n) (fun k a hk hI => ?_) (fun a hI => ?_) n 0 ([], []) (by omega) rfl
 ·subst hI;have h := ml_b xs n k k (mqlL xs k) (mqoL xs k)
  rw [deT (show (k : Int) < n by omega), deT (show 0 <= (k : Int) /\ (k : Int) < n by omega), mlC_ok (V := mqlL xs k) (map_range_len (α := PL.den) (mqlE xs) k).symm (by omega), mlD_ok (V := mqoL xs k) (map_range_len (α := ED.den) (mqoE xs) k).symm (by omega), iwk (by omega)] at h
  exact ⟨(_, _), Prod.ext (map_range_snoc (α := PL.den) (mqlE xs) k) (map_range_snoc (α := ED.den) (mqoE xs) k), fun hr => Runs.piece okN1 mx h rfl (by rfl) hr⟩
 ·subst hI;exact Runs.last okN1 mx (ml_c xs n n n _ _) (by rw [deF (by omega)]) (by rfl)
def Tl14lines (vs : List V1) (hl : Heap) : Tree (SV × Heap) :=
 match vs, hl with
 | [.c (.ro (.ws .u64 4) xs n)], [] => Tree.chk (decide (n <= 1048576)) (.ret (.tup [.c (.sl 0 0 n), .c (.sl 1 0 n)], [.arr PL (mqlL xs n) 0 [], .arr ED (mqoL xs n) 0 []]))
 | _, _ => .fail
theorem ok_l14lines : EntryOk Tryz.prog G0 76 Tl14lines := by
 refine EntryOk.runs (S := N1) (fn := Tryz.f76) (c := cd Tryz.f76) (by kernel_rfl) (by kernel_rfl) (by kernel_rfl) (fun vs hl res hl' ok h => ?_)
 unfold Tl14lines at h;split at h
 ·rename_i xs n;obtain ⟨h1, h2⟩ := val_chk h;obtain ⟨rfl, rfl⟩ := Prod.mk.inj (val_ret h2);exact ml_runs (ofD h1)
 ·cases h
noncomputable def N2 : Tab := N1.put 76 2 Tl14lines
theorem okN2 : SpecOk Tryz.prog N2 := okN1.put ok_l14lines
def Tis (vs : List V1) (hl : Heap) : Tree (SV × Heap) :=
 match vs, hl with
 | [.g [.ws .u64 4 xs], .g [.ws .u64 4 ys]], [] => .ret (.one (.c (.bool false (xs == ys && true))), [])
 | _, _ => .fail
theorem is_b (xs ys : List Int) : (bodyT N2 Tryz.prog allLoops Tryz.f95 (cd Tryz.f95) [ws xs, ws ys] []).path [] = some ([], .one (.c (.bool false (xs == ys && true))), []) := by kernel_rfl
theorem ok_is : EntryOk Tryz.prog G0 95 Tis := by
 refine EntryOk.sub (bodyT_ok okN2 mx (un := allLoops) (fn := Tryz.f95) (c := cd Tryz.f95) (by kernel_rfl) (by kernel_rfl) (by kernel_rfl)) (fun vs hl r ok h => ?_)
 unfold Tis at h;split at h
 ·rename_i xs ys;obtain rfl := val_ret h;exact Tree.path_val (is_b xs ys)
 ·cases h
noncomputable def N2i : Tab := N2.put 95 0 Tis
theorem okN2i : SpecOk Tryz.prog N2i := okN2.put ok_is
noncomputable def rSN (k : List Item) (s : St) : Tree Out := runK N2i Tryz.prog noLoops 400 k s
noncomputable def sSN (xs ys : List (List Int)) (n m : Nat) : St := ⟨enterT Tryz.f96 [.c (.ro WS xs n), .c (.ro WS ys m)], []⟩
noncomputable def KSN : List Item := leftT [false] (rSN [.code (cd Tryz.f96)] (sSN [] [] 0 0))
noncomputable def stSN (xs ys : List (List Int)) (n m : Nat) (i : Int) : St := ⟨slotsOf 27 [(0, one (.ro WS xs n)), (1, one (.ro WS ys m)), (5, one (.int false .i64 i))], []⟩
theorem sn_a (xs ys : List (List Int)) (n m : Nat) : pieceT [0, 1, 5] [5] [] [false] (rSN [.code (cd Tryz.f96)] (sSN xs ys n m)) =
  some ([(n : Int) != m], KSN, stSN xs ys n m (0 : Nat)) := by kernel_rfl
theorem sn_b (xs ys : List (List Int)) (n m i : Nat) : pieceT [0, 1, 5] [5] [] [true, true, true, false] (rSN KSN (stSN xs ys n m i)) =
  some ([decide ((i : Int) < n), decide (0 <= (i : Int) /\ (i : Int) < n), decide (0 <= (i : Int) /\ (i : Int) < m), !(xs.getD i zL == ys.getD i zL && true)], KSN, stSN xs ys n m (iw ((i : Int) + 1))) := by kernel_rfl
theorem sn_c (xs ys : List (List Int)) (n m i : Nat) : endT Tryz.prog Tryz.f96 [] [false] (rSN KSN (stSN xs ys n m i)) =
  some ([decide ((i : Int) < n)], .one (.c (.bool true true)), []) := by kernel_rfl
theorem sn_nil : endT Tryz.prog Tryz.f96 [] [] (runK N2i Tryz.prog allLoops 400 [.code (cd Tryz.f96)] ⟨enterT Tryz.f96 [.c .nils, .c .nils], []⟩) = some ([], .one (.c (.bool true true)), []) := by kernel_rfl
def snB (xs ys : List (List Int)) (n m : Nat) : Bool := decide (n = m /\ n <= 1048576 /\ n <= xs.length /\ xs.take n = ys.take n)
def TsameN (vs : List V1) (hl : Heap) : Tree (SV × Heap) :=
 match vs, hl with
 | [.c .nils, .c .nils], [] => .ret (.one (.c (.bool false true)), [])
 | [.c (.ro (.ws .u64 4) xs n), .c (.ro (.ws .u64 4) ys m)], [] => Tree.chk (snB xs ys n m) (.ret (.one (.c (.bool false true)), []))
 | _, _ => .fail
theorem getD_take {α : Type} {xs ys : List α} {n i : Nat} {z : α} (h : xs.take n = ys.take n) (hi : i < n) : xs.getD i z = ys.getD i z := by
 have e : (xs.take n)[i]? = (ys.take n)[i]? := by rw [h]
 rw [List.getElem?_take_of_lt hi, List.getElem?_take_of_lt hi] at e
 rw [List.getD_eq_getElem?_getD, List.getD_eq_getElem?_getD, e]
theorem sn_runs {xs ys : List (List Int)} {n : Nat} (hb : n <= 1048576) (h : xs.take n = ys.take n) : Runs Tryz.prog N2i Tryz.f96 0 [.code (cd Tryz.f96)] (sSN xs ys n n) (.one (.c (.bool true true))) [] := by
 have ha := sn_a xs ys n n
 rw [bne_self_eq_false] at ha;refine Runs.piece okN2i mx ha rfl (by rfl) ?_
 refine loopG (st := fun k (_ : Unit) => stSN xs ys n n k) (I := fun _ _ => True) (n := n) (fun k a hk _ => ⟨(), trivial, fun hr => ?_⟩) (fun _ _ => ?_) n 0 () (by omega) trivial
 ·have hb := sn_b xs ys n n k
  rw [iwk (by omega), deT (by omega), deT (by omega), getD_take h hk, beq_self_eq_true] at hb
  exact Runs.piece okN2i mx hb rfl (by rfl) hr
 ·exact Runs.last okN2i mx (sn_c xs ys n n n) (by rw [deF (by omega)]) (by rfl)
theorem ok_sameN : EntryOk Tryz.prog G0 96 TsameN := by
 refine EntryOk.runs (S := N2i) (fn := Tryz.f96) (c := cd Tryz.f96) (by kernel_rfl) (by kernel_rfl) (by kernel_rfl) (fun vs hl r hl' ok h => ?_)
 unfold TsameN at h;split at h
 ·obtain ⟨rfl, rfl⟩ := Prod.mk.inj (val_ret h);exact (Runs.last okN2i mx sn_nil (by rfl) (by rfl)).resU
 ·rename_i xs n ys m;obtain ⟨h1, h2⟩ := val_chk h;obtain ⟨rfl, h3, h4, h5⟩ := ofD h1;obtain ⟨rfl, rfl⟩ := Prod.mk.inj (val_ret h2);exact (sn_runs h3 h5).resU
 ·cases h
def lnB (a : List Int) (n : Int) (k : List Int) : Bool := (leL a == (if n = 0 then zL else k)) && true
def Tlline (vs : List V1) (hl : Heap) : Tree (SV × Heap) :=
 match vs, hl with
 | [.g [.ws .u64 4 a], u], [] => match eArg u with
  | some (n, k) => Tree.chk (decide (n = 0 \/ n = 2)) (.ret (.one (.c (.bool false (lnB a n k))), []))
  | none => .fail
 | _, _ => .fail
theorem ln_1 {L : Cell} (h : EmL L) (n : Int) (p q a k : List Int) : (bodyT N2i Tryz.prog allLoops Tryz.f88 (cd Tryz.f88) [ws a, .g (eF false n p q k L)] []).path [true, true] = some ([n == 0, decide ((2 : Int) = 2 /\ (2 : Int) = 2)], .one (.c (.bool false (leL a == zL && true))), []) := by
 cases h <;> kernel_rfl
theorem ln_2 {L : Cell} (h : EmL L) (n : Int) (p q a k : List Int) : (bodyT N2i Tryz.prog allLoops Tryz.f88 (cd Tryz.f88) [ws a, .g (eF false n p q k L)] []).path [false, true] = some ([n == 0, decide ((2 : Int) = 2 /\ n = 2)], .one (.c (.bool false (leL a == k && true))), []) := by
 cases h <;> kernel_rfl
theorem ok_l14line : EntryOk Tryz.prog G0 88 Tlline := by
 refine EntryOk.sub (bodyT_ok okN2i mx (un := allLoops) (fn := Tryz.f88) (c := cd Tryz.f88) (by kernel_rfl) (by kernel_rfl) (by kernel_rfl)).unlitG (fun vs hl r ok h => ?_)
 unfold Tlline at h;split at h
 ·rename_i a u;split at h
  ·rename_i n k e;obtain ⟨h1, h2⟩ := val_chk h;obtain rfl := val_ret h2;obtain ⟨p, q, L, g1, g2⟩ := eArg_eq e;rw [List.map_cons, List.map_cons, List.map_nil, g2];unfold lnB;rcases ofD h1 with rfl | rfl
   ·have := ln_1 g1 0 p q a k
    rw [if_pos rfl];exact Tree.path_val this
   ·have := ln_2 g1 2 p q a k
    rw [if_neg (by decide)]
    exact Tree.path_val this
  ·cases h
 ·cases h
noncomputable def N3 : Tab := (N2i.put 96 0 TsameN).put 88 0 Tlline
theorem okN3 : SpecOk Tryz.prog N3 := (okN2i.put ok_sameN).put ok_l14line
end Go.Sc
