/- The document's elements of Line. -/
import Derived.Test.YtdblbibjggeikaaGreatDoorF7
set_option linter.unusedSectionVars false
set_option linter.unusedVariables false
set_option linter.unusedSimpArgs false
namespace Go.Sc
open Go Go.SX Go.Proofs
variable [Level] [Lone]
def z10 : List Int := [0, 0, 0, 0, 0, 0, 0, 0, 0, 0]
def eF (l : Bool) (n : Int) (p q k : List Int) (L : Cell) : List FCell := [.c (.int l .i64 n), .ws .i64 10 p, .ws .i64 10 q, .ws .u64 4 k, .c L]
def eV (k : List Int) : V1 := .g (eF true 2 z10 z10 k .nils)
def TLineOf (vs : List V1) (hl : Heap) : Tree (SV × Heap) :=
 match vs, hl with
 | [.g [.ws .u64 4 k]], [] => .ret (.one (eV k), [])
 | _, _ => .fail
theorem lineOf_a (k : List Int) : (bodyT PTb Tryz.prog allLoops Tryz.f77 (cd Tryz.f77) [ws k] []).path [] = some ([], .one (eV k), []) := by kernel_rfl
theorem ok_LineOf : EntryOk Tryz.prog G0 77 TLineOf := by
 refine EntryOk.sub (bodyT_ok okPTb mx (un := allLoops) (fn := Tryz.f77) (c := cd Tryz.f77) (by kernel_rfl) (by kernel_rfl) (by kernel_rfl)) (fun vs hl r ok h => ?_)
 unfold TLineOf at h;split at h
 ·rename_i k;obtain rfl := val_ret h;exact Tree.path_val (lineOf_a k)
 ·cases h
def TNeutral (vs : List V1) (hl : Heap) : Tree (SV × Heap) :=
 match vs, hl with
 | [.c (.int _ .i64 2)], [] => .ret (.one (.g (eF false 2 z10 z10 zL .nils)), [])
 | _, _ => .fail
theorem neutral_a : (bodyT PTb Tryz.prog allLoops Tryz.f119 (cd Tryz.f119) [.c (.int false .i64 2)] []).path [] = some ([], .one (.g (eF false 2 z10 z10 zL .nils)), []) := by kernel_rfl
theorem ok_Neutral : EntryOk Tryz.prog G0 119 TNeutral := by
 refine EntryOk.sub (bodyT_ok okPTb mx (un := allLoops) (fn := Tryz.f119) (c := cd Tryz.f119) (by kernel_rfl) (by kernel_rfl) (by kernel_rfl)).unlitG (fun vs hl r ok h => ?_)
 unfold TNeutral at h;split at h
 ·obtain rfl := val_ret h;exact Tree.path_val neutral_a
 ·cases h
noncomputable def M1 : Tab := (PTb.put 77 0 TLineOf).put 119 0 TNeutral
theorem okM1 : SpecOk Tryz.prog M1 := (okPTb.put ok_LineOf).put ok_Neutral
inductive EmL : Cell -> Prop
 | nil : EmL .nils
 | ro (xs : List (List Int)) (n : Nat) : EmL (.ro WS xs n)
def eArg (v : V1) : Option (Int × List Int) := match v with
 | .g [.c (.int _ .i64 n), .ws .i64 10 _, .ws .i64 10 _, .ws .u64 4 k, .c .nils] => some (n, k)
 | .g [.c (.int _ .i64 n), .ws .i64 10 _, .ws .i64 10 _, .ws .u64 4 k, .c (.ro (.ws .u64 4) _ _)] => some (n, k)
 | _ => none
theorem eArg_eq {v : V1} {n : Int} {k : List Int} (h : eArg v = some (n, k)) : ∃ p q L, EmL L /\ unlG v = .g (eF false n p q k L) := by
 unfold eArg at h;split at h
 ·obtain ⟨rfl, rfl⟩ := Prod.mk.inj (smI h);exact ⟨_, _, _, .nil, rfl⟩
 ·obtain ⟨rfl, rfl⟩ := Prod.mk.inj (smI h);exact ⟨_, _, _, .ro _ _, rfl⟩
 ·cases h
theorem eadd_a {L L' : Cell} (h : EmL L) (h' : EmL L') (n n' : Int) (p q p' q' a b : List Int) : (bodyT M1 Tryz.prog allLoops Tryz.f104 (cd Tryz.f104) [.g (eF false n p q a L), .g (eF false n' p' q' b L')] []).path [false, true, true] = some ([n == 1, n == 2, decide (val a < ell /\ val b < ell)], .one (eV (limbs ((val a + val b) % ell))), []) := by
 cases h <;> cases h' <;> kernel_rfl
theorem etimes_a {L : Cell} (h : EmL L) (n : Int) (p q a k : List Int) : (bodyT M1 Tryz.prog allLoops Tryz.f103 (cd Tryz.f103) [.g (eF false n p q a L), ws k] []).path [false, true] = some ([n == 1, n == 2], .one (eV (limbs (val a * val k % ell))), []) := by
 cases h <;> kernel_rfl
theorem esame_a {L L' : Cell} (h : EmL L) (h' : EmL L') (n n' : Int) (p q p' q' a b : List Int) : (bodyT M1 Tryz.prog allLoops Tryz.f73 (cd Tryz.f73) [.g (eF false n p q a L), .g (eF false n' p' q' b L')] []).path [false, false, true] = some ([n != n', n == 1, n == 2], .one (.c (.bool false (a == b && true))), []) := by
 cases h <;> cases h' <;> kernel_rfl
def TeAdd (vs : List V1) (hl : Heap) : Tree (SV × Heap) :=
 match vs, hl with
 | [u, v], [] => match eArg u, eArg v with
  | some (n, a), some (_, b) => Tree.chk (decide (n = 2) && decide (val a < ell /\ val b < ell)) (.ret (.one (eV (limbs ((val a + val b) % ell))), []))
  | _, _ => .fail
 | _, _ => .fail
def TeTimes (vs : List V1) (hl : Heap) : Tree (SV × Heap) :=
 match vs, hl with
 | [u, .g [.ws .u64 4 k]], [] => match eArg u with
  | some (n, a) => Tree.chk (decide (n = 2)) (.ret (.one (eV (limbs (val a * val k % ell))), []))
  | _ => .fail
 | _, _ => .fail
def TeSame (vs : List V1) (hl : Heap) : Tree (SV × Heap) :=
 match vs, hl with
 | [u, v], [] => match eArg u, eArg v with
  | some (n, a), some (n', b) => Tree.chk (decide (n = 2 /\ n' = 2)) (.ret (.one (.c (.bool false (a == b && true))), []))
  | _, _ => .fail
 | _, _ => .fail
theorem ok_eAdd : EntryOk Tryz.prog G0 104 TeAdd := by
 refine EntryOk.sub (bodyT_ok okM1 mx (un := allLoops) (fn := Tryz.f104) (c := cd Tryz.f104) (by kernel_rfl) (by kernel_rfl) (by kernel_rfl)).unlitG (fun vs hl r ok h => ?_)
 unfold TeAdd at h;split at h
 ·rename_i u v;split at h
  ·rename_i n a n' b e1 e2;obtain ⟨h1, h2⟩ := val_chk h;rw [Bool.and_eq_true] at h1;obtain ⟨h1, h3⟩ := h1;obtain rfl := ofD h1;obtain rfl := val_ret h2;obtain ⟨p, q, L, g1, g2⟩ := eArg_eq e1;obtain ⟨p', q', L', g1', g2'⟩ := eArg_eq e2;have := eadd_a g1 g1' 2 n' p q p' q' a b
   rw [h3] at this;rw [List.map_cons, List.map_cons, List.map_nil, g2, g2'];exact Tree.path_val this
  ·cases h
 ·cases h
theorem ok_eTimes : EntryOk Tryz.prog G0 103 TeTimes := by
 refine EntryOk.sub (bodyT_ok okM1 mx (un := allLoops) (fn := Tryz.f103) (c := cd Tryz.f103) (by kernel_rfl) (by kernel_rfl) (by kernel_rfl)).unlitG (fun vs hl r ok h => ?_)
 unfold TeTimes at h;split at h
 ·rename_i u k;split at h
  ·rename_i n a e1;obtain ⟨h1, h2⟩ := val_chk h;obtain rfl := ofD h1;obtain rfl := val_ret h2;obtain ⟨p, q, L, g1, g2⟩ := eArg_eq e1;rw [List.map_cons, List.map_cons, List.map_nil, g2];exact Tree.path_val (etimes_a g1 2 p q a k)
  ·cases h
 ·cases h
theorem ok_eSame : EntryOk Tryz.prog G0 73 TeSame := by
 refine EntryOk.sub (bodyT_ok okM1 mx (un := allLoops) (fn := Tryz.f73) (c := cd Tryz.f73) (by kernel_rfl) (by kernel_rfl) (by kernel_rfl)).unlitG (fun vs hl r ok h => ?_)
 unfold TeSame at h;split at h
 ·rename_i u v;split at h
  ·rename_i n a n' b e1 e2;obtain ⟨h1, h2⟩ := val_chk h;obtain ⟨rfl, rfl⟩ := ofD h1;obtain rfl := val_ret h2;obtain ⟨p, q, L, g1, g2⟩ := eArg_eq e1;obtain ⟨p', q', L', g1', g2'⟩ := eArg_eq e2;rw [List.map_cons, List.map_cons, List.map_nil, g2, g2'];exact Tree.path_val (esame_a g1 g1' 2 2 p q p' q' a b)
  ·cases h
 ·cases h
noncomputable def M2 : Tab := ((M1.put 104 0 TeAdd).put 103 0 TeTimes).put 73 0 TeSame
theorem okM2 : SpecOk Tryz.prog M2 := ((okM1.put ok_eAdd).put ok_eTimes).put ok_eSame
abbrev P05 : DTy := .pair (.pair (.ws .i64 10) (.pair (.ws .i64 10) .unit)) .unit
abbrev ED : DTy := .pair (.int .i64) (.pair P05 (.pair WS (.pair (.sl WS) .unit)))
def rawBt (vs : OpT) (b i : Int) : Int := IntKind.u64.wrap ((BitVec.ofInt 64 ((opV vs (iw (i.tdiv b)).toNat).fdiv (2 ^ (min (i.tmod b).toNat 64))) &&& BitVec.ofInt 64 1).toNat : Int)
def bitC (b i : Int) (n : Nat) : Bool := decide (b ≠ 0) && (decide (0 <= iw (i.tdiv b) /\ iw (i.tdiv b) < n) && decide (0 <= i.tmod b))
def TdBit (vs : List V1) (hl : Heap) : Tree (SV × Heap) :=
 match vs, hl with
 | [.g [.c (.int _ .i64 b), .c (.int _ .i64 _)], .c (.ro (.pair (.int .u64) (.pair (.ws .u64 4) .unit)) vs n), .c (.int _ .i64 i)], [] => Tree.chk (bitC b i n) (.ret (.one (ws [rawBt vs b i, 0, 0, 0]), []))
 | _, _ => .fail
def wgN (b i : Int) : Int := iw (2 + iw (i.tdiv b))
def TdWeight (vs : List V1) (hl : Heap) : Tree (SV × Heap) :=
 match vs, hl with
 | [.g [.c (.int _ .i64 b), .c (.int _ .i64 _)], .g [.ws .u64 4 z], .c (.int _ .i64 i)], [] => Tree.chk (decide (b ≠ 0) && decide (0 <= wgN b i)) (.ret (.one (ws (limbs (val z ^ (wgN b i).toNat % ell))), []))
 | _, _ => .fail
structure DsA where
 n : Int
 n1 : Int
 n2 : Int
 n3 : Int
 p1 : List Int
 q1 : List Int
 B : List Int
 p2 : List Int
 q2 : List Int
 D : List Int
 p3 : List Int
 q3 : List Int
 Q : List Int
 gs : List ED.den
 ng : Nat
 hs : List ED.den
 nh : Nat
def dSet (s : DsA) : List FCell := [.c (.int false .i64 s.n)] ++ eF false s.n1 s.p1 s.q1 s.B .nils ++ eF false s.n2 s.p2 s.q2 s.D .nils ++ eF false s.n3 s.p3 s.q3 s.Q .nils ++ [.c (.ro ED s.gs s.ng), .c (.ro ED s.hs s.nh)]
def dSetArg (v : V1) : Option DsA := match v with
 | .g [.c (.int _ .i64 n), .c (.int _ .i64 n1), .ws .i64 10 p1, .ws .i64 10 q1, .ws .u64 4 B, .c .nils, .c (.int _ .i64 n2), .ws .i64 10 p2, .ws .i64 10 q2, .ws .u64 4 D, .c .nils,
   .c (.int _ .i64 n3), .ws .i64 10 p3, .ws .i64 10 q3, .ws .u64 4 Q, .c .nils,
   .c (.ro (.pair (.int .i64) (.pair (.pair (.pair (.ws .i64 10) (.pair (.ws .i64 10) .unit)) .unit) (.pair (.ws .u64 4) (.pair (.sl (.ws .u64 4)) .unit)))) gs ng),
   .c (.ro (.pair (.int .i64) (.pair (.pair (.pair (.ws .i64 10) (.pair (.ws .i64 10) .unit)) .unit) (.pair (.ws .u64 4) (.pair (.sl (.ws .u64 4)) .unit)))) hs nh)] => some ⟨n, n1, n2, n3, p1, q1, B, p2, q2, D, p3, q3, Q, gs, ng, hs, nh⟩
 | _ => none
theorem dSetArg_eq {v : V1} {s : DsA} (h : dSetArg v = some s) : unlG v = .g (dSet s) := by
 unfold dSetArg at h;split at h
 ·obtain rfl := smI h;rfl
 ·cases h
def TdCommit (vs : List V1) (hl : Heap) : Tree (SV × Heap) :=
 match vs, hl with
 | [u, .g [.ws .u64 4 v], .g [.ws .u64 4 d]], [] => match dSetArg u with
  | some s => Tree.chk (decide (s.n1 = 2 /\ s.n2 = 2)) (.ret (.one (eV (limbs (comS s.B s.D v d % ell))), []))
  | none => .fail
 | _, _ => .fail
theorem dcom_a (s : DsA) (v d : List Int) : (bodyT M2 Tryz.prog allLoops Tryz.f41 (cd Tryz.f41) [.g (dSet s), ws v, ws d] []).path [true, true, true] =
  some ([decide (s.n1 = 2), decide (s.n2 = 2), true && decide (val (limbs (val s.B * val v % ell)) < ell /\ val (limbs (val s.D * val d % ell)) < ell)], .one (eV (limbs ((val (limbs (val s.B * val v % ell)) + val (limbs (val s.D * val d % ell))) % ell))), []) := by kernel_rfl
theorem ok_dCommit : EntryOk Tryz.prog G0 41 TdCommit := by
 refine EntryOk.sub (bodyT_ok okM2 mx (un := allLoops) (fn := Tryz.f41) (c := cd Tryz.f41) (by kernel_rfl) (by kernel_rfl) (by kernel_rfl)).unlitG (fun vs hl r ok h => ?_)
 unfold TdCommit at h;split at h
 ·rename_i u v d;split at h
  ·rename_i s e;obtain ⟨h1, h2⟩ := val_chk h;obtain ⟨g1, g2⟩ := ofD h1;obtain rfl := val_ret h2;have q := dcom_a s v d
   rw [deT g1, deT g2, val_mod, val_mod, deT (show val s.B * val v % ell < ell /\ val s.D * val d % ell < ell from ⟨(mod_bound _).2, (mod_bound _).2⟩), <- Int.add_emod, Int.mul_comm (val s.B), Int.mul_comm (val s.D)] at q
   rw [List.map_cons, List.map_cons, List.map_cons, List.map_nil, dSetArg_eq e];exact Tree.path_val q
  ·cases h
 ·cases h
noncomputable def diR (k : List Item) (s : St) : Tree Out := runK M2 Tryz.prog noLoops 400 k s
noncomputable def diS (xs : List (List Int)) (n : Nat) (ys : List (List Int)) (m : Nat) : St := ⟨enterT Tryz.f71 [.c (.ro WS xs n), .c (.ro WS ys m)], []⟩
noncomputable def diK : List Item := leftT [] (diR [.code (cd Tryz.f71)] (diS [] 0 [] 0))
noncomputable def diT (xs : List (List Int)) (n : Nat) (ys : List (List Int)) (m : Nat) (o : List Int) (i : Int) : St := ⟨slotsOf 26 [(0, one (.ro WS xs n)), (1, one (.ro WS ys m)), (4, pt 0), (5, pt 1), (6, one (.int false .i64 i))], [.vals [.ws .u64 4 zL], .vals [.ws .u64 4 o]]⟩
theorem di_a (xs : List (List Int)) (n : Nat) (ys : List (List Int)) (m : Nat) : pieceT [0, 1, 4, 5, 6] [6] [0, 1] [] (diR [.code (cd Tryz.f71)] (diS xs n ys m)) = some ([], diK, diT xs n ys m zL (0 : Nat)) := by kernel_rfl
theorem di_b (xs : List (List Int)) (n : Nat) (ys : List (List Int)) (m : Nat) (o : List Int) (i : Nat) : pieceT [0, 1, 4, 5, 6] [6] [0, 1] [true, true, true, true] (diR diK (diT xs n ys m o i)) =
  some ([decide ((i : Int) < n), decide (0 <= (i : Int) /\ (i : Int) < n), decide (0 <= (i : Int) /\ (i : Int) < m), decide (val o < ell /\ val (limbs (val (xs.getD i zL) * val (ys.getD i zL) % ell)) < ell)], diK, diT xs n ys m (limbs ((val o + val (limbs (val (xs.getD i zL) * val (ys.getD i zL) % ell))) % ell)) (iw ((i : Int) + 1))) := by kernel_rfl
theorem di_c (xs : List (List Int)) (n : Nat) (ys : List (List Int)) (m : Nat) (o : List Int) (i : Nat) : endT Tryz.prog Tryz.f71 [] [false] (diR diK (diT xs n ys m o i)) = some ([decide ((i : Int) < n)], .one (ws o), []) := by kernel_rfl
theorem di_runs {xs ys : List (List Int)} {n m : Nat} (hn : n <= 1048576) (hm : n <= m) : Runs Tryz.prog M2 Tryz.f71 0 [.code (cd Tryz.f71)] (diS xs n ys m) (.one (ws (limbs (inn xs ys n % ell)))) [] := by
 refine Runs.piece okM2 mx (di_a xs n ys m) rfl (by rfl) ?_
 refine loopG (st := fun k (a : List Int) => diT xs n ys m a k) (I := fun k a => a = limbs (inn xs ys k % ell)) (n := n) (fun k a hk hI => ?_) (fun a hI => ?_) n 0 zL (by omega) rfl
 ·subst hI;have h := di_b xs n ys m (limbs (inn xs ys k % ell)) k
  rw [deT (show (k : Int) < n by omega), deT (show 0 <= (k : Int) /\ (k : Int) < n by omega), deT (show 0 <= (k : Int) /\ (k : Int) < m by omega), iwk (by omega), val_mod, val_mod, deT (show inn xs ys k % ell < ell /\ val (xs.getD k zL) * val (ys.getD k zL) % ell < ell from ⟨(mod_bound _).2, (mod_bound _).2⟩), <- Int.add_emod] at h
  exact ⟨_, rfl, fun hr => Runs.piece okM2 mx h rfl (by rfl) hr⟩
 ·subst hI;exact Runs.last okM2 mx (di_c xs n ys m _ n) (by rw [deF (by omega)]) (by rfl)
def TdInner (vs : List V1) (hl : Heap) : Tree (SV × Heap) :=
 match vs, hl with
 | [.c (.ro (.ws .u64 4) xs n), .c (.ro (.ws .u64 4) ys m)], [] => Tree.chk (decide (n <= m /\ n <= 1048576)) (.ret (.one (ws (limbs (inn xs ys n % ell))), []))
 | _, _ => .fail
theorem ok_dInner : EntryOk Tryz.prog G0 71 TdInner := by
 refine EntryOk.runs (S := M2) (fn := Tryz.f71) (c := cd Tryz.f71) (by kernel_rfl) (by kernel_rfl) (by kernel_rfl) (fun vs hl r hl' ok h => ?_)
 unfold TdInner at h;split at h
 ·rename_i xs n ys m;obtain ⟨h1, h2⟩ := val_chk h;obtain ⟨q1, q2⟩ := ofD h1;obtain ⟨rfl, rfl⟩ := Prod.mk.inj (val_ret h2);exact di_runs q2 q1
 ·cases h
noncomputable def M3 : Tab := ((((M2))).put 41 0 TdCommit).put 71 0 TdInner
theorem okM3 : SpecOk Tryz.prog M3 := ((((okM2))).put ok_dCommit).put ok_dInner
def enoB (s : DsA) (b c : Int) : Bool := decide ((s.ng : Int) >= iw (b * c)) && decide ((s.nh : Int) >= iw (b * c))
def TdEnough (vs : List V1) (hl : Heap) : Tree (SV × Heap) :=
 match vs, hl with
 | [u, .g [.c (.int _ .i64 b), .c (.int _ .i64 c)]], [] => match dSetArg u with
  | some s => .ret (.one (.c (.bool false (enoB s b c))), [])
  | none => .fail
 | _, _ => .fail
theorem deno_a (s : DsA) (b c : Int) : (bodyT M3 Tryz.prog allLoops Tryz.f83 (cd Tryz.f83) [.g (dSet s), pr b c] []).path [true] = some ([decide ((s.ng : Int) >= iw (b * c)) == true], .one (.c (.bool false (decide ((s.nh : Int) >= iw (b * c))))), []) := by kernel_rfl
theorem deno_b (s : DsA) (b c : Int) : (bodyT M3 Tryz.prog allLoops Tryz.f83 (cd Tryz.f83) [.g (dSet s), pr b c] []).path [false] = some ([decide ((s.ng : Int) >= iw (b * c)) == true], .one (.c (.bool true false)), []) := by kernel_rfl
theorem ok_denough : EntryOk Tryz.prog G0 83 TdEnough := by
 refine (EntryOk.subU (bodyT_ok okM3 mx (un := allLoops) (fn := Tryz.f83) (c := cd Tryz.f83) (by kernel_rfl) (by kernel_rfl) (by kernel_rfl)).unlitG) (fun vs hl r ok h => ?_)
 unfold TdEnough at h;split at h
 ·rename_i u l1 b l2 c;split at h
  ·rename_i s e;obtain rfl := val_ret h;rw [List.map_cons, dSetArg_eq e];unfold enoB;by_cases hg : (s.ng : Int) >= iw (b * c)
   ·refine ⟨_, Tree.path_val (cs := [true]) ((deno_a s b c).trans (by rw [deT hg]; rfl)), ?_⟩
    rw [deT hg, Bool.true_and]; rfl
   ·refine ⟨_, Tree.path_val (cs := [false]) ((deno_b s b c).trans (by rw [deF hg]; rfl)), ?_⟩
    rw [deF hg, Bool.false_and]; rfl
  ·cases h
 ·cases h
noncomputable def Q1 : Tab := M3.put 83 0 TdEnough
theorem okQ1 : SpecOk Tryz.prog Q1 := okM3.put ok_denough
theorem f14_a (b c v : Int) : (bodyT Q1 Tryz.prog allLoops Tryz.f84 (cd Tryz.f84) [pr b c, .c (.int false .u64 v)] []).path [false] = some ([decide (b >= 64) == false], .one (.c (.bool true true)), []) := by kernel_rfl
def topW (b : Int) : Int := IntKind.u64.wrap (1 * 2 ^ (min b.toNat 64))
theorem f14_b (b c v : Int) : (bodyT Q1 Tryz.prog allLoops Tryz.f84 (cd Tryz.f84) [pr b c, .c (.int false .u64 v)] []).path [true, true] = some ([decide (b >= 64) == false, decide (0 <= b)], .one (.c (.bool false (decide (v < topW b)))), []) := by kernel_rfl
def Tp14fits (vs : List V1) (hl : Heap) : Tree (SV × Heap) :=
 match vs, hl with
 | [.g [.c (.int _ .i64 b), .c (.int _ .i64 _)], .c (.int _ .u64 v)], [] => Tree.chk (decide (0 <= b)) (.ret (.one (.c (.bool false (opOk b v))), []))
 | _, _ => .fail
theorem ok_p14fits : EntryOk Tryz.prog G0 84 Tp14fits := by
 refine (EntryOk.subU (bodyT_ok okQ1 mx (un := allLoops) (fn := Tryz.f84) (c := cd Tryz.f84) (by kernel_rfl) (by kernel_rfl) (by kernel_rfl)).unlitG) (fun vs hl r ok h => ?_)
 unfold Tp14fits at h;split at h
 ·rename_i l1 b l2 c l3 v;obtain ⟨h1, h2⟩ := val_chk h;have h0 := ofD h1
  obtain rfl := val_ret h2;by_cases hg : b >= 64
  ·refine ⟨_, Tree.path_val (cs := [false]) ((f14_a b c v).trans (by rw [deT hg]; rfl)), ?_⟩
   rw [opOk, deF (show ¬ b < 64 by omega), Bool.false_and]; rfl
  ·refine ⟨_, Tree.path_val (cs := [true, true]) ((f14_b b c v).trans (by rw [deF hg, deT h0]; rfl)), ?_⟩
   have e : topV b = topW b := if_neg hg
   rw [opOk, deT (show b < 64 by omega), Bool.true_and, e]
   by_cases hv : v < topW b
   ·rw [deT hv, deF (show ¬ v >= topW b by omega)]; rfl
   ·rw [deF hv, deT (show v >= topW b by omega)]; rfl
 ·cases h
noncomputable def Q2 : Tab := Q1.put 84 0 Tp14fits
theorem okQ2 : SpecOk Tryz.prog Q2 := okQ1.put ok_p14fits
end Go.Sc
