/- Layer 14, the document: Join, its beginning. -/
import Derived.Test.YtdblbibjggeikaaGreatDoorF9
set_option linter.unusedSectionVars false
set_option linter.unusedVariables false
set_option linter.unusedSimpArgs false
namespace Go.Sc
open Go Go.SX Go.Proofs
variable [Level] [Lone]
noncomputable def djR (k : List Item) (s : St) : Tree Out := runK Q4 Tryz.prog noLoops 400 k s
noncomputable def djS (x : DpA) : St := ⟨enterT Tryz.f26 [.g (dSet x.s), pr x.b x.c, .c (.int false .i64 x.p), .g [.c (.int false .u64 x.v), .ws .u64 4 x.d], .g (tapeF x.a x.r x.t1 x.t2 x.sl x.nl x.sr x.nr)], []⟩
def djW : List Bool := [false, true, false, true, true, false, true, false, true]
noncomputable def djK : List Item := leftT djW (djR [.code (cd Tryz.f26)] (djS dp0))
def djX (x : DpA) : DpA := ⟨x.s, x.b, x.c, x.p, x.v, x.d, x.a, x.r, x.t1, x.t2, x.sl, x.nl, x.sr, x.nr, zL, zL⟩
def eZ : List FCell := [.c (.int true .i64 0), .ws .i64 10 z10, .ws .i64 10 z10, .ws .u64 4 zL, .c .nils]
noncomputable def djT (x : DpA) (k : Nat) (bs : List (List Int)) (c : Cell) (i : Int) (h : Heap) : St :=
 ⟨slotsOf 109 [(2, one (.int false .i64 x.p)), (5, pt 0), (8, pt 1), (9, pt 2), (11, pt 3), (13, pt 4), (14, one (.sl 5 0 k)), (15, one c), (16, one (.int false .i64 i))],
  [.vals (dSet x.s), .vals [.c (.int false .u64 x.v), .ws .u64 4 x.d], .vals (tapeF x.a x.r x.t1 x.t2 x.sl x.nl x.sr x.nr), .vals ([.c (.int true .i64 0)] ++ eZ ++ eZ ++ eZ), .vals (dpC false 0 (djX x)), .arr WS bs 0 []] ++ h⟩
theorem dj_a (x : DpA) : pieceT [2, 5, 8, 9, 11, 13, 14, 15, 16] [16] [0, 2, 3, 4, 5, 6] djW (djR [.code (cd Tryz.f26)] (djS x)) =
  some ([!alw x.b x.c, decide (x.p < 0) == false, decide (x.p >= x.c), (!enoB x.s x.b x.c) == false, ((x.nl : Int) != x.b) == false, (x.nr : Int) != x.b, decide (0 <= x.b), !opOk x.b x.v, decide (1 <= x.b /\ x.b <= 64)], djK,
   djT x x.b.toNat (pbEs x.v x.b.toNat) .nils (0 : Nat) []) := by kernel_rfl
def djL (bs : List (List Int)) (i : Nat) : Bool := decide (val (bs.getD (0 + i) zL) < ell /\ val [1, 0, 0, 0] < ell)
def djE (bs : List (List Int)) (i : Nat) : List Int := limbs ((val (bs.getD (0 + i) zL) - val [1, 0, 0, 0]) % ell)
def djP : List Nat := [2, 5, 8, 9, 11, 13, 14, 15, 16]
theorem dj_b0 (x : DpA) (k i : Nat) (bs : List (List Int)) : pieceT djP [16] [0, 1, 2, 3, 4, 5, 7] [true, true, true, true] (djR djK (djT x k bs .nils i [])) =
  some ([decide ((i : Int) < k), inK' i k, djL bs i, roomW 1], djK, djT x k bs (.sl 6 0 1) (iw ((i : Int) + 1)) [.arr WS [djE bs i] 0 []]) := by kernel_rfl
theorem dj_b (x : DpA) (k i m : Nat) (bs rs : List (List Int)) : pieceT djP [16] [0, 1, 2, 3, 4, 5, 8] [true, true, true, true] (djR djK (djT x k bs (.sl 6 0 m) i [.arr WS rs 0 []])) =
  some ([decide ((i : Int) < k), inK' i k, djL bs i, decide (m = rs.length) && roomW (m + 1)], djK, djT x k bs (.sl 6 0 (m + 1)) (iw ((i : Int) + 1)) [.arr WS (rs ++ [djE bs i]) 0 []]) := by kernel_rfl
def dbitF (p : Int) (V A S : List Int) : List FCell := [.c (.int false .i64 p)] ++ eF true 2 z10 z10 V .nils ++ eF true 2 z10 z10 A .nils ++ eF true 2 z10 z10 S .nils
def djV (x : DpA) : List Int := limbs (comS x.s.B x.s.D [x.v, 0, 0, 0] x.d % ell)
def djA (x : DpA) (a : List Int) (l r : List (List Int)) : List Int := limbs (vecF x.s a l r (x.p * x.b).toNat x.b.toNat % ell)
theorem dj_c (x : DpA) (k i m : Nat) (bs rs : List (List Int)) : endT Tryz.prog Tryz.f26 [4] [false, true, true, true] (djR djK (djT x k bs (.sl 6 0 m) i [.arr WS rs 0 []])) =
  some ([decide ((i : Int) < k), decide (x.s.n1 = 2 /\ x.s.n2 = 2), dsuB (djX x) k m, dsuB (djX x) x.nl x.nr],
   .tup [.c (.ptr 0 0 0 0 0 0), .g (dbitF x.p (djV x) (djA x x.a (bs.drop 0) (rs.drop 0)) (djA x x.r x.sl x.sr)), .c (.int true .i64 0)], [.vals (dpC false 0 (djX x))]) := by kernel_rfl
def djZ (e : Int) : SV := .tup [.c .nilp, .g ([.c (.int true .i64 0)] ++ eZ ++ eZ ++ eZ), .c (.int true .i64 e)]
section
variable (x : DpA)
theorem dj_1 : endT Tryz.prog Tryz.f26 [] [true] (djR [.code (cd Tryz.f26)] (djS x)) = some ([!alw x.b x.c], djZ 130, []) := by kernel_rfl
theorem dj_2 : endT Tryz.prog Tryz.f26 [] [false, false] (djR [.code (cd Tryz.f26)] (djS x)) = some ([!alw x.b x.c, decide (x.p < 0) == false], djZ 140, []) := by kernel_rfl
theorem dj_3 : endT Tryz.prog Tryz.f26 [] [false, true, true] (djR [.code (cd Tryz.f26)] (djS x)) = some ([!alw x.b x.c, decide (x.p < 0) == false, decide (x.p >= x.c)], djZ 140, []) := by kernel_rfl
theorem dj_4 : endT Tryz.prog Tryz.f26 [] [false, true, false, false] (djR [.code (cd Tryz.f26)] (djS x)) = some ([!alw x.b x.c, decide (x.p < 0) == false, decide (x.p >= x.c), (!enoB x.s x.b x.c) == false], djZ 2, []) := by kernel_rfl
theorem dj_5 : endT Tryz.prog Tryz.f26 [] [false, true, false, true, false] (djR [.code (cd Tryz.f26)] (djS x)) = some ([!alw x.b x.c, decide (x.p < 0) == false, decide (x.p >= x.c), (!enoB x.s x.b x.c) == false, ((x.nl : Int) != x.b) == false], djZ 2, []) := by kernel_rfl
theorem dj_6 : endT Tryz.prog Tryz.f26 [] [false, true, false, true, true, true] (djR [.code (cd Tryz.f26)] (djS x)) = some ([!alw x.b x.c, decide (x.p < 0) == false, decide (x.p >= x.c), (!enoB x.s x.b x.c) == false, ((x.nl : Int) != x.b) == false, (x.nr : Int) != x.b], djZ 2, []) := by kernel_rfl
theorem dj_7 : endT Tryz.prog Tryz.f26 [] [false, true, false, true, true, false, true, true] (djR [.code (cd Tryz.f26)] (djS x)) = some ([!alw x.b x.c, decide (x.p < 0) == false, decide (x.p >= x.c), (!enoB x.s x.b x.c) == false, ((x.nl : Int) != x.b) == false, (x.nr : Int) != x.b, decide (0 <= x.b), !opOk x.b x.v], djZ 131, []) := by kernel_rfl
end
theorem pbV_le (v : Int) (k : Nat) : 0 <= pbV v k /\ pbV v k <= 1 := by
 have h : (BitVec.ofInt 64 (v.fdiv (2 ^ (min ((k : Int)).toNat 64))) &&& BitVec.ofInt 64 1).toNat <= 1 := by
  rw [BitVec.toNat_and];exact Nat.and_le_right
 unfold pbV;rw [wrapU];omega
theorem pbE_val (v : Int) (k : Nat) : val (pbE v k) = pbV v k := by
 unfold pbE;simp [val]
theorem djL_t {v : Int} {k i : Nat} (h : i < k) : djL (pbEs v k) i = true := by
 unfold djL pbEs;rw [Nat.zero_add, List.getD_eq_getElem?_getD, List.getElem?_map, List.getElem?_range h]
 show decide (val (pbE v i) < ell /\ val [1, 0, 0, 0] < ell) = true
 rw [pbE_val];have := pbV_le v i
 refine deT ⟨?_, by decide⟩
 exact Int.lt_of_le_of_lt this.2 (by decide)
theorem djE_t {v : Int} {k i : Nat} (h : i < k) : djE (pbEs v k) i = pbF v i := by
 unfold djE pbEs;rw [Nat.zero_add, List.getD_eq_getElem?_getD, List.getElem?_map, List.getElem?_range h]
 rfl
structure DjOk (x : DpA) : Prop where
 al : alw x.b x.c = true
 p : 0 <= x.p /\ x.p < x.c
 en : enoB x.s x.b x.c = true
 nl : (x.nl : Int) = x.b
 nr : (x.nr : Int) = x.b
 v : opOk x.b x.v = true
 n1 : x.s.n1 = 2
 n2 : x.s.n2 = 2
 k : dsuB (djX x) x.b.toNat x.b.toNat = true
def djRes (x : DpA) : SV := .tup [.c (.ptr 0 0 0 0 0 0), .g (dbitF x.p (djV x) (djA x x.a (pbEs x.v x.b.toNat) (pbFs x.v x.b.toNat)) (djA x x.r x.sl x.sr)), .c (.int true .i64 0)]
theorem dj_runs {x : DpA} (o : DjOk x) : Runs Tryz.prog Q4 Tryz.f26 0 [.code (cd Tryz.f26)] (djS x) (djRes x) [.vals (dpC false 0 (djX x))] := by
 obtain ⟨⟨b1, b2⟩, c1, c2⟩ := alw_of o.al;obtain ⟨p1, p2⟩ := o.p;have g1 := o.nl
 have g2 := o.nr
 have h := dj_a x
 rw [o.al, deF (show ¬ x.p < 0 by omega), deF (show ¬ x.p >= x.c by omega), o.en, bneq' g1, bneq' g2, deT (show 0 <= x.b by omega), o.v, deT (show 1 <= x.b /\ x.b <= 64 from ⟨b1, b2⟩)] at h
 refine Runs.piece okQ4 mx h rfl (by rfl) ?_
 have hk := o.k
 have hl : x.nl = x.b.toNat := by omega
 have hr : x.nr = x.b.toNat := by omega
 unfold djRes;have hb : 1 <= x.b.toNat /\ x.b.toNat <= 64 := by omega
 have h := dj_b0 x x.b.toNat 0 (pbEs x.v x.b.toNat)
 rw [deT (show ((0 : Nat) : Int) < x.b.toNat by omega), inK_t (show 0 < x.b.toNat by omega), djL_t (show 0 < x.b.toNat by omega), djE_t (show 0 < x.b.toNat by omega), roomWk (by decide)] at h
 refine Runs.piece okQ4 mx h rfl (by rfl) ?_
 refine loopG (st := fun k (a : List (List Int)) => djT x x.b.toNat (pbEs x.v x.b.toNat) (.sl 6 0 k) k [.arr WS a 0 []]) (I := fun k a => a = pbFs x.v k) (n := x.b.toNat) (fun k a hkn hI => ?_) (fun a hI => ?_) (x.b.toNat - 1) 1 [pbF x.v 0] (by omega) rfl
 ·subst hI;have h := dj_b x x.b.toNat k k (pbEs x.v x.b.toNat) (pbFs x.v k)
  rw [deT (show (k : Int) < x.b.toNat by omega), inK_t hkn, djL_t hkn, djE_t hkn, deT (show k = (pbFs x.v k).length from (map_range_len (pbF x.v) k).symm), roomWk (by omega), iwk (by omega)] at h
  exact ⟨_, map_range_snoc (pbF x.v) k, fun hr => Runs.piece okQ4 mx h rfl (by rfl) hr⟩
 ·subst hI;have h := dj_c x x.b.toNat x.b.toNat x.b.toNat (pbEs x.v x.b.toNat) (pbFs x.v x.b.toNat)
  rw [deF (show ¬ (x.b.toNat : Int) < x.b.toNat by omega), deT (show x.s.n1 = 2 /\ x.s.n2 = 2 from ⟨o.n1, o.n2⟩), hl, hr, hk] at h
  exact Runs.last okQ4 mx h rfl (by rfl)
def djB (x : DpA) : Bool := decide (x.s.n1 = 2 /\ x.s.n2 = 2) && dsuB (djX x) x.b.toNat x.b.toNat
def djQ (e : Int) : SV := .tup [.c .nilp, .g ([.c (.int true .i64 0)] ++ eZ ++ eZ ++ eZ), .c (.int false .i64 e)]
def dpE (x : DpA) : Int := pfE x.s.ng x.s.nh x.b x.c x.p x.v x.nl x.nr
abbrev RDj (x : DpA) (v : SV) (h : Heap) : Prop := Runs Tryz.prog Q4 Tryz.f26 0 [.code (cd Tryz.f26)] (djS x) v h
theorem RDj.end {x : DpA} {e : Int} (h : RDj x (djZ e) []) : RDj x (djQ e) [] := Runs.weak (v := djZ e) (fun _ _ h => h) h
theorem djOk_of {x : DpA} (h : dpE x = 0) (hb : djB x = true) : DjOk x := by
 have o := pfE_of (j := ⟨x.s.B, x.s.D, x.s.Q, [], [], x.s.ng, x.s.nh, x.b, x.c, x.p, x.v, x.d, x.a, x.r, x.t1, x.t2, x.sl, x.nl, x.sr, x.nr⟩) h
 unfold djB at hb;rw [Bool.and_eq_true, decide_eq_true_eq] at hb;have e := (alw_mul o.al).2.2
 have g1 : x.b * x.c <= x.s.ng := o.ng
 have g2 : x.b * x.c <= x.s.nh := o.nh
 refine ⟨o.al, o.p, ?_, o.nl, o.nr, o.v, hb.1.1, hb.1.2, hb.2⟩
 unfold enoB;rw [show iw (x.b * x.c) = x.b * x.c from e, deT (show (x.s.ng : Int) >= x.b * x.c from g1), deT (show (x.s.nh : Int) >= x.b * x.c from g2)]; rfl
theorem dj_err {x : DpA} (h : dpE x ≠ 0) : RDj x (djQ (dpE x)) [] := by
 unfold dpE pfE at *;cases ha : alw x.b x.c with
 | false =>
  rw [if_pos rfl];have h := dj_1 x
  rw [ha] at h;exact RDj.end (Runs.last okQ4 mx h rfl (by rfl))
 | true =>
 rw [ha, if_neg (by decide)] at h
 rw [if_neg (by decide)]
 obtain ⟨⟨hb1, hb2⟩, hc⟩ := alw_of ha;by_cases p1 : x.p < 0
 ·rw [if_pos (.inl p1)];have h := dj_2 x
  rw [ha, deT p1] at h;exact RDj.end (Runs.last okQ4 mx h rfl (by rfl))
 by_cases p2 : x.p >= x.c
 ·rw [if_pos (.inr p2)];have h := dj_3 x
  rw [ha, deF p1, deT p2] at h;exact RDj.end (Runs.last okQ4 mx h rfl (by rfl))
 rw [if_neg (fun q => q.elim p1 p2)] at h
 rw [if_neg (fun q => q.elim p1 p2)]
 cases he : enoB x.s x.b x.c with
 | false =>
  have q : (x.s.ng : Int) < iw (x.b * x.c) \/ (x.s.nh : Int) < iw (x.b * x.c) := by
   unfold enoB at he;rw [Bool.and_eq_false_iff, decide_eq_false_iff_not, decide_eq_false_iff_not] at he;omega
  rw [if_pos (q.elim .inl fun q => .inr (.inl q))]
  have h := dj_4 x
  rw [ha, deF p1, deF p2, he] at h;exact RDj.end (Runs.last okQ4 mx h rfl (by rfl))
 | true =>
 by_cases n1 : (x.nl : Int) = x.b
 case neg =>
  rw [if_pos (.inr (.inr (.inl n1)))];have h := dj_5 x
  rw [ha, deF p1, deF p2, he, bneq n1] at h;exact RDj.end (Runs.last okQ4 mx h rfl (by rfl))
 by_cases n2 : (x.nr : Int) = x.b
 case neg =>
  rw [if_pos (.inr (.inr (.inr n2)))];have h := dj_6 x
  rw [ha, deF p1, deF p2, he, bneq' n1, bneq n2] at h;exact RDj.end (Runs.last okQ4 mx h rfl (by rfl))
 have q : ¬ ((x.s.ng : Int) < iw (x.b * x.c) \/ (x.s.nh : Int) < iw (x.b * x.c) \/ (x.nl : Int) ≠ x.b \/ (x.nr : Int) ≠ x.b) := by
  unfold enoB at he;rw [Bool.and_eq_true, decide_eq_true_eq, decide_eq_true_eq] at he;omega
 rw [if_neg q] at h;rw [if_neg q];cases hv : opOk x.b x.v with
 | true => rw [hv, if_pos rfl] at h; exact absurd rfl h
 | false =>
  rw [if_neg (by decide)]
  have h := dj_7 x
  rw [ha, deF p1, deF p2, he, bneq' n1, bneq' n2, deT (show 0 <= x.b by omega), hv] at h
  exact RDj.end (Runs.last okQ4 mx h rfl (by rfl))
def djTr (x : DpA) : Tree (SV × Heap) := .br (decide (dpE x = 0)) (Tree.chk (djB x) (.ret (djRes x, [.vals (dpC false 0 (djX x))]))) (.ret (djQ (dpE x), []))
theorem dj_all {x : DpA} {res : SV} {hl' : Heap} (h : (djTr x).val = some (res, hl')) : RDj x res hl' := by
 unfold djTr at h;by_cases h0 : dpE x = 0
 ·rw [deT h0] at h;obtain ⟨h1, h2⟩ := val_chk (show (Tree.chk (djB x) (Tree.ret (djRes x, [Blk.vals (dpC false 0 (djX x))]))).val = _ from h)
  obtain ⟨rfl, rfl⟩ := Prod.mk.inj (val_ret h2);exact dj_runs (djOk_of h0 h1)
 ·rw [deF h0] at h;obtain ⟨rfl, rfl⟩ := Prod.mk.inj (val_ret (show (Tree.ret (djQ (dpE x), ([] : Heap))).val = _ from h))
  exact dj_err h0
def Tp14Join (vs : List V1) (hl : Heap) : Tree (SV × Heap) :=
 match vs, hl with
 | [u, .g [.c (.int _ .i64 b), .c (.int _ .i64 c)], .c (.int _ .i64 p), .g [.c (.int _ .u64 v), .ws .u64 4 d],
   .g [.ws .u64 4 a, .ws .u64 4 r, .ws .u64 4 t1, .ws .u64 4 t2, .c (.ro (.ws .u64 4) sl nl), .c (.ro (.ws .u64 4) sr nr)]], [] => match dSetArg u with
  | some s => djTr ⟨s, b, c, p, v, d, a, r, t1, t2, sl, nl, sr, nr, [], []⟩
  | none => .fail
 | _, _ => .fail
theorem ok_p14Join : EntryOk Tryz.prog G0 26 Tp14Join := by
 refine EntryOk.unlitRuns (S := Q4) (fn := Tryz.f26) (c := cd Tryz.f26) (by kernel_rfl) (by kernel_rfl) (by kernel_rfl) (fun vs hl res hl' ok h => ?_)
 unfold Tp14Join at h;split at h
 ·rename_i u l1 b l2 c l3 p l4 v d a r t1 t2 sl nl sr nr;split at h
  ·rename_i s e;rw [List.map_cons, dSetArg_eq e];exact dj_all h
  ·cases h
 ·cases h
noncomputable def Q5 : Tab := Q4.put 26 1 Tp14Join
theorem okQ5 : SpecOk Tryz.prog Q5 := okQ4.put ok_p14Join
end Go.Sc
