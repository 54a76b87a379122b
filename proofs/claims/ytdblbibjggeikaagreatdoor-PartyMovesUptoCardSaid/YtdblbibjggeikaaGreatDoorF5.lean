/- Layer 14: a part of the generators; the powers of a part. -/
import Derived.Test.YtdblbibjggeikaaGreatDoorF4
set_option linter.unusedSectionVars false
set_option linter.unusedVariables false
set_option linter.unusedSimpArgs false
namespace Go.Sc
open Go Go.SX Go.Proofs
variable [Level] [Lone]
noncomputable def ptR (k : List Item) (s : St) : Tree Out := runK PT4 Tryz.prog noLoops 400 k s
noncomputable def ptS (B D Q : List Int) (gs hs : List PL.den) (ng nh : Nat) (f n : Int) : St := ⟨enterT Tryz.f79 [.g (gSet B D Q gs hs ng nh), .c (.int false .i64 f), .c (.int false .i64 n)], []⟩
def mnN (ng nh : Nat) : Int := if (nh : Int) < ng then nh else ng
def cutP (gs : List PL.den) (f m : Int) : List PL.den := List.take (m.toNat - f.toNat) (List.drop f.toNat gs)
def bdP (f m : Int) (n : Nat) : Bool := bndPos (some (one (.int false .i64 f))) && bndPos (some (one (.int false .i64 m))) && decide (f.toNat <= m.toNat /\ m.toNat <= n)
def ptRes (B D Q : List Int) (gs hs : List PL.den) (f m : Int) : SV := .tup [.g [.ws .u64 4 B, .ws .u64 4 D, .ws .u64 4 Q, .c (.sl 0 0 (cutP gs f m).length), .c (.sl 1 0 (cutP hs f m).length)], .c (.int true .i64 0)]
theorem pt_a (B D Q : List Int) (gs hs : List PL.den) (ng nh : Nat) (f n : Int) : endT Tryz.prog Tryz.f79 [2, 3] [true, false, true, false, true, true, true, true] (ptR [.code (cd Tryz.f79)] (ptS B D Q gs hs ng nh f n)) =
  some ([decide (f < 0) == false, decide (n < 0), decide (f > mnN ng nh) == false, decide (n > iw (mnN ng nh - f)), bdP f (iw (f + n)) gs.length, decide ((iw (f + n)).toNat - f.toNat <= 1048576), bdP f (iw (f + n)) hs.length, decide ((iw (f + n)).toNat - f.toNat <= 1048576)],
   ptRes B D Q gs hs f (iw (f + n)), [.arr PL (cutP gs f (iw (f + n))) 0 [], .arr PL (cutP hs f (iw (f + n))) 0 []]) := by kernel_rfl
def TgPart (vs : List V1) (hl : Heap) : Tree (SV × Heap) :=
 match vs, hl with
 | [.g [.ws .u64 4 B, .ws .u64 4 D, .ws .u64 4 Q, .c (.ro (.pair (.ws .u64 4) .unit) gs ng), .c (.ro (.pair (.ws .u64 4) .unit) hs nh)], .c (.int _ .i64 f), .c (.int _ .i64 n)], [] =>
  Tree.chk (decide (0 <= f /\ 0 <= n /\ f + n <= ng /\ f + n <= nh /\ f + n <= 1048576 /\ f + n <= gs.length /\ f + n <= hs.length /\ ng <= 1048576 /\ nh <= 1048576)) (.ret (ptRes B D Q gs hs f (f + n), [.arr PL (cutP gs f (f + n)) 0 [], .arr PL (cutP hs f (f + n)) 0 []]))
 | _, _ => .fail
theorem pt_runs {B D Q : List Int} {gs hs : List PL.den} {ng nh : Nat} {f n : Int} (h : 0 <= f /\ 0 <= n /\ f + n <= ng /\ f + n <= nh /\ f + n <= 1048576 /\ f + n <= gs.length /\ f + n <= hs.length /\ ng <= 1048576 /\ nh <= 1048576) :
  Runs Tryz.prog PT4 Tryz.f79 0 [.code (cd Tryz.f79)] (ptS B D Q gs hs ng nh f n) (ptRes B D Q gs hs f (f + n)) [.arr PL (cutP gs f (f + n)) 0 [], .arr PL (cutP hs f (f + n)) 0 []] := by
 obtain ⟨q1, q2, q3, q4, q5, q6, q7, q8, q9⟩ := h;have e : iw (f + n) = f + n := by
  unfold iw;rw [IntKind.wrap_i64];omega
 have e2 : mnN ng nh <= 1048576 /\ f + n <= mnN ng nh /\ 0 <= mnN ng nh := by
  unfold mnN;split <;> omega
 have e3 : iw (mnN ng nh - f) = mnN ng nh - f := by
  unfold iw;rw [IntKind.wrap_i64];omega
 have b1 : bdP f (f + n) gs.length = true := by
  unfold bdP;rw [deT (show f.toNat <= (f + n).toNat /\ (f + n).toNat <= gs.length by omega)]
  show (decide (0 <= f) && decide (0 <= f + n) && true) = true
  rw [deT q1, deT (show 0 <= f + n by omega)]; rfl
 have b2 : bdP f (f + n) hs.length = true := by
  unfold bdP;rw [deT (show f.toNat <= (f + n).toNat /\ (f + n).toNat <= hs.length by omega)]
  show (decide (0 <= f) && decide (0 <= f + n) && true) = true
  rw [deT q1, deT (show 0 <= f + n by omega)]; rfl
 have h := pt_a B D Q gs hs ng nh f n
 rw [e, e3, b1, b2, deF (show ¬ f < 0 by omega), deF (show ¬ n < 0 by omega), deF (show ¬ f > mnN ng nh by omega), deF (show ¬ n > mnN ng nh - f by omega), deT (show (f + n).toNat - f.toNat <= 1048576 by omega)] at h
 exact Runs.last okPT4 mx h rfl (by rfl)
theorem ok_gPart : EntryOk Tryz.prog G0 79 TgPart := by
 refine EntryOk.unlitRuns (S := PT4) (fn := Tryz.f79) (c := cd Tryz.f79) (by kernel_rfl) (by kernel_rfl) (by kernel_rfl) (fun vs hl res hl' ok h => ?_)
 unfold TgPart at h;split at h
 ·rename_i B D Q gs ng hs nh l f l' n;obtain ⟨h1, h2⟩ := val_chk h;obtain ⟨rfl, rfl⟩ := Prod.mk.inj (val_ret h2);exact pt_runs (ofD h1)
 ·cases h
noncomputable def PT5 : Tab := PT4.put 79 2 TgPart
theorem okPT5 : SpecOk Tryz.prog PT5 := okPT4.put ok_gPart
noncomputable def ppR (k : List Item) (s : St) : Tree Out := runK PT5 Tryz.prog noLoops 400 k s
noncomputable def ppS (b c p : Int) (y z : List Int) : St := ⟨enterT Tryz.f97 [pr b c, .c (.int false .i64 p), ws y, ws z], []⟩
noncomputable def ppK : List Item := leftT [] (ppR [.code (cd Tryz.f97)] (ppS 0 0 0 [] []))
noncomputable def ppT (y u w : List Int) (s t : Cell) (n i : Int) (h : Heap) : St :=
 ⟨slotsOf 45 [(6, pt 0), (8, one s), (9, one t), (10, pt 1), (11, pt 2), (25, one (.int false .i64 n)), (26, one (.int false .i64 i))], [.vals [.ws .u64 4 y], .vals [.ws .u64 4 u], .vals [.ws .u64 4 w]] ++ h⟩
def ppE (k : Int) : Nat := (IntKind.u64.wrap (iw k)).toNat
theorem pp_a (b c p : Int) (y z : List Int) : pieceT [6, 8, 9, 10, 11, 25, 26] [26] [1, 5, 6] [] (ppR [.code (cd Tryz.f97)] (ppS b c p y z)) =
  some ([], ppK, ppT y (limbs (val y ^ ppE (p * b) % ell)) (limbs (val z ^ ppE (2 + p) % ell)) .nils .nils b (0 : Nat) []) := by kernel_rfl
def ppU (u y : List Int) : List Int := limbs (val u * val y % ell)
def ppW (w : List Int) : List Int := limbs ((val w + val w) % ell)
section
variable (y u w : List Int) (n : Int) (k i : Nat) (ys zs : List (List Int))
theorem pp_b0 : pieceT [6, 8, 9, 10, 11, 25, 26] [26] [0, 1, 2, 4, 6] [true, true, true] (ppR ppK (ppT y u w .nils .nils n i [])) =
  some ([decide ((i : Int) < n), roomW 1, roomW 1], ppK, ppT y (ppU u y) (ppW w) (.sl 3 0 1) (.sl 4 0 1) n (iw ((i : Int) + 1)) [.arr WS [u] 0 [], .arr WS [w] 0 []]) := by kernel_rfl
theorem pp_b : pieceT [6, 8, 9, 10, 11, 25, 26] [26] [0, 1, 2, 6, 8] [true, true, true] (ppR ppK (ppT y u w (.sl 3 0 k) (.sl 4 0 k) n i [.arr WS ys 0 [], .arr WS zs 0 []])) =
  some ([decide ((i : Int) < n), decide (k = ys.length) && roomW (k + 1), decide (k = zs.length) && roomW (k + 1)], ppK, ppT y (ppU u y) (ppW w) (.sl 3 0 (k + 1)) (.sl 4 0 (k + 1)) n (iw ((i : Int) + 1)) [.arr WS (ys ++ [u]) 0 [], .arr WS (zs ++ [w]) 0 []]) := by kernel_rfl
theorem pp_c : endT Tryz.prog Tryz.f97 [3, 4] [false] (ppR ppK (ppT y u w (.sl 3 0 k) (.sl 4 0 k) n i [.arr WS ys 0 [], .arr WS zs 0 []])) =
  some ([decide ((i : Int) < n)], .tup [.c (.sl 0 0 k), .c (.sl 1 0 k)], [.arr WS ys 0 [], .arr WS zs 0 []]) := by kernel_rfl
end
def ppY (y : List Int) (e i : Nat) : List Int := limbs (val y ^ (e + i) % ell)
def ppZ (z : List Int) (e i : Nat) : List Int := limbs (val z ^ e * 2 ^ i % ell)
def ppYs (y : List Int) (e k : Nat) : List (List Int) := (List.range k).map (ppY y e)
def ppZs (z : List Int) (e k : Nat) : List (List Int) := (List.range k).map (ppZ z e)
theorem ppU_next (y : List Int) (e i : Nat) : ppU (ppY y e i) y = ppY y e (i + 1) := by
 unfold ppU ppY;rw [val_mod, emod_mul, <- Int.pow_succ];rfl
theorem ppW_next (z : List Int) (e i : Nat) : ppW (ppZ z e i) = ppZ z e (i + 1) := dbl (val z ^ e) i
theorem pp_runs {b c p : Int} {y z : List Int} (hb : 1 <= b /\ b <= 64) (hp : 0 <= p /\ p <= 16) : Runs Tryz.prog PT5 Tryz.f97 0 [.code (cd Tryz.f97)] (ppS b c p y z) (.tup [.c (.sl 0 0 b.toNat), .c (.sl 1 0 b.toNat)]) [.arr WS (ppYs y (p * b).toNat b.toNat) 0 [], .arr WS (ppZs z (2 + p).toNat b.toNat) 0 []] := by
 have hpb : 0 <= p * b /\ p * b <= 16 * 64 := ⟨Int.mul_nonneg hp.1 (by omega), Int.mul_le_mul hp.2 hb.2 (by omega) (by decide)⟩
 have e0 : ∀ k : Int, 0 <= k /\ k <= 1048576 -> ppE k = k.toNat := fun k hk => by
  have : iw k = k := by
   unfold iw;rw [IntKind.wrap_i64];omega
  unfold ppE;rw [this, wrapU];omega
 have h := pp_a b c p y z
 rw [e0 (p * b) ⟨hpb.1, by omega⟩, e0 (2 + p) (by omega), show limbs (val y ^ (p * b).toNat % ell) = ppY y (p * b).toNat 0 from rfl, show limbs (val z ^ (2 + p).toNat % ell) = ppZ z (2 + p).toNat 0 from by unfold ppZ; rw [Int.pow_zero, Int.mul_one]] at h
 generalize (p * b).toNat = e at *
 generalize (2 + p).toNat = e' at *
 refine Runs.piece okPT5 mx h rfl (by rfl) ?_
 have h := pp_b0 y (ppY y e 0) (ppZ z e' 0) b 0
 rw [deT (show ((0 : Nat) : Int) < b by omega), roomWk (by decide), ppU_next, ppW_next] at h
 refine Runs.piece okPT5 mx h rfl (by rfl) ?_
 refine loopG (st := fun k (a : List (List Int) × List (List Int)) => ppT y (ppY y e k) (ppZ z e' k) (.sl 3 0 k) (.sl 4 0 k) b k [.arr WS a.1 0 [], .arr WS a.2 0 []]) (I := fun k a => a = (ppYs y e k, ppZs z e' k)) (n := b.toNat) (fun k a hk hI => ?_) (fun a hI => ?_) (b.toNat - 1) 1 ([ppY y e 0], [ppZ z e' 0]) (by omega) rfl
 ·subst hI;have h := pp_b y (ppY y e k) (ppZ z e' k) b k k (ppYs y e k) (ppZs z e' k)
  rw [deT (show (k : Int) < b by omega), deT (show k = (ppYs y e k).length from (map_range_len (ppY y e) k).symm), deT (show k = (ppZs z e' k).length from (map_range_len (ppZ z e') k).symm), roomWk (by omega), iwk (by omega), ppU_next, ppW_next] at h
  exact ⟨(ppYs y e k ++ [ppY y e k], ppZs z e' k ++ [ppZ z e' k]), Prod.ext (map_range_snoc (ppY y e) k) (map_range_snoc (ppZ z e') k), fun hr => Runs.piece okPT5 mx h rfl (by rfl) hr⟩
 ·subst hI;have h := pp_c y (ppY y e b.toNat) (ppZ z e' b.toNat) b b.toNat b.toNat (ppYs y e b.toNat) (ppZs z e' b.toNat)
  rw [deF (by omega)] at h
  exact Runs.last okPT5 mx h rfl (by rfl)
def Tppowers (vs : List V1) (hl : Heap) : Tree (SV × Heap) :=
 match vs, hl with
 | [.g [.c (.int _ .i64 b), .c (.int _ .i64 c)], .c (.int _ .i64 p), .g [.ws .u64 4 y], .g [.ws .u64 4 z]], [] =>
  Tree.chk (decide ((1 <= b /\ b <= 64) /\ 0 <= p /\ p <= 16)) (.ret (.tup [.c (.sl 0 0 b.toNat), .c (.sl 1 0 b.toNat)], [.arr WS (ppYs y (p * b).toNat b.toNat) 0 [], .arr WS (ppZs z (2 + p).toNat b.toNat) 0 []]))
 | _, _ => .fail
theorem ok_ppowers : EntryOk Tryz.prog G0 97 Tppowers := by
 refine EntryOk.unlitRuns (S := PT5) (fn := Tryz.f97) (c := cd Tryz.f97) (by kernel_rfl) (by kernel_rfl) (by kernel_rfl) (fun vs hl res hl' ok h => ?_)
 unfold Tppowers at h;split at h
 ·rename_i l b l' c l'' p y z;obtain ⟨h1, h2⟩ := val_chk h;obtain ⟨q1, q2⟩ := ofD h1;obtain ⟨rfl, rfl⟩ := Prod.mk.inj (val_ret h2);exact pp_runs q1 q2
 ·cases h
noncomputable def PT6 : Tab := PT5.put 97 2 Tppowers
theorem okPT6 : SpecOk Tryz.prog PT6 := okPT5.put ok_ppowers
def paS (B D Q : List Int) (i m m' : Nat) : List FCell := [.ws .u64 4 B, .ws .u64 4 D, .ws .u64 4 Q, .c (.sl i 0 m), .c (.sl (i + 1) 0 m')]
theorem pj1_a (B D Q v d : List Int) (gs hs : List PL.den) (m m' : Nat) : (bodyT PT6 Tryz.prog allLoops Tryz.f81 (cd Tryz.f81) [ws v, ws d, .c (.ptr 0 0 0 0 0 0)] [.vals (paS B D Q 1 m m'), .arr PL gs 0 [], .arr PL hs 0 []]).path [] =
  some ([], .one (ws (limbs (comS B D v d % ell))), [.vals (paS B D Q 1 m m'), .arr PL gs 0 [], .arr PL hs 0 []]) := by kernel_rfl
def TpJoin1 (vs : List V1) (hl : Heap) : Tree (SV × Heap) :=
 match vs, hl with
 | [.g [.ws .u64 4 v], .g [.ws .u64 4 d], .c (.ptr 0 0 0 0 0 0)], [.vals [.ws .u64 4 B, .ws .u64 4 D, .ws .u64 4 Q, .c (.sl 1 0 m), .c (.sl 2 0 m')], .arr (.pair (.ws .u64 4) .unit) gs 0 [], .arr (.pair (.ws .u64 4) .unit) hs 0 []] =>
  .ret (.one (ws (limbs (comS B D v d % ell))), [.vals (paS B D Q 1 m m'), .arr PL gs 0 [], .arr PL hs 0 []])
 | _, _ => .fail
theorem ok_pJoin1 : EntryOk Tryz.prog G0 81 TpJoin1 := by
 refine EntryOk.sub (bodyT_ok okPT6 mx (un := allLoops) (fn := Tryz.f81) (c := cd Tryz.f81) (by kernel_rfl) (by kernel_rfl) (by kernel_rfl)) (fun vs hl r ok h => ?_)
 unfold TpJoin1 at h;split at h
 ·rename_i v d B D Q m m' gs hs;obtain rfl := val_ret h;exact Tree.path_val (pj1_a B D Q v d gs hs m m')
 ·cases h
noncomputable def PT7 : Tab := PT6.put 81 0 TpJoin1
theorem okPT7 : SpecOk Tryz.prog PT7 := okPT6.put ok_pJoin1
structure PaA where
 B : List Int
 D : List Int
 Q : List Int
 gs : List PL.den
 hs : List PL.den
 m : Nat
 m' : Nat
 b : Int
 c : Int
 p : Int
 v : Int
 d : List Int
 a : List Int
 r : List Int
 t1 : List Int
 t2 : List Int
 SL : List (List Int)
 nl : Nat
 SR : List (List Int)
 nr : Nat
 y : List Int
 z : List Int
def pa0 : PaA := ⟨[], [], [], [], [], 0, 0, 0, 0, 0, 0, [], [], [], [], [], [], 0, [], 0, [], []⟩
def paC (l : Bool) (ph : Int) (x : PaA) (l0 l1 r0 r1 : Cell) : List FCell :=
 [.c (.int l .i64 ph), .c (.fn 81 [.ptr 1 0 0 0 0 0]), .c (.int false .i64 x.b), .c (.int false .i64 x.c), .c (.int false .i64 x.p), .c (.int false .u64 x.v), .ws .u64 4 x.d, .ws .u64 4 x.a, .ws .u64 4 x.r, .ws .u64 4 x.t1, .ws .u64 4 x.t2,
  .c (.sl 2 0 x.nl), .c (.sl 3 0 x.nr), .ws .u64 4 x.y, .ws .u64 4 x.z, .c l0, .c l1, .c r0, .c r1]
def paH (l : Bool) (ph : Int) (x : PaA) : Heap := [.vals (paC l ph x .nils .nils .nils .nils), .vals (paS x.B x.D x.Q 4 x.m x.m'), .arr WS x.SL 0 [], .arr WS x.SR 0 [], .arr PL x.gs 0 [], .arr PL x.hs 0 []]
noncomputable def pbR (k : List Item) (s : St) : Tree Out := runK PT7 Tryz.prog noLoops 400 k s
noncomputable def pbS (ph : Int) (x : PaA) : St := ⟨enterT Tryz.f82 [.c (.ptr 0 0 0 0 0 0)], paH false ph x⟩
noncomputable def pbK : List Item := leftT [] (pbR [.code (cd Tryz.f82)] (pbS 0 pa0))
noncomputable def pbT (ph : Int) (x : PaA) (s t : Cell) (n i : Int) (h : Heap) : St :=
 ⟨slotsOf 38 [(0, pt 0), (2, one s), (3, one t), (4, pt 6), (12, one (.int false .i64 n)), (13, one (.int false .i64 i))], paH false ph x ++ [.vals [.ws .u64 4 [1, 0, 0, 0]]] ++ h⟩
theorem pb_a (ph : Int) (x : PaA) : pieceT [0, 2, 3, 4, 12, 13] [13] (List.range 7) [] (pbR [.code (cd Tryz.f82)] (pbS ph x)) = some ([], pbK, pbT ph x .nils .nils x.b (0 : Nat) []) := by kernel_rfl
def pbV (v : Int) (k : Nat) : Int := IntKind.u64.wrap ((BitVec.ofInt 64 (v.fdiv (2 ^ (min ((k : Int)).toNat 64))) &&& BitVec.ofInt 64 1).toNat : Int)
def pbE (v : Int) (k : Nat) : List Int := [pbV v k, 0, 0, 0]
def pbF (v : Int) (k : Nat) : List Int := limbs ((val (pbE v k) - 1) % ell)
section
variable (ph : Int) (x : PaA) (n : Int) (k i : Nat) (al ar : List (List Int))
theorem pb_b0 : pieceT [0, 2, 3, 4, 12, 13] [13] [0, 1, 2, 3, 4, 5, 6, 9, 11] [true, true, true, true] (pbR pbK (pbT ph x .nils .nils n i [])) =
  some ([decide ((i : Int) < n), decide (0 <= (i : Int)), roomW 1, roomW 1], pbK, pbT ph x (.sl 7 0 1) (.sl 8 0 1) n (iw ((i : Int) + 1)) [.arr WS [pbE x.v i] 0 [], .arr WS [pbF x.v i] 0 []]) := by kernel_rfl
theorem pb_b : pieceT [0, 2, 3, 4, 12, 13] [13] [0, 1, 2, 3, 4, 5, 6, 11, 13] [true, true, true, true] (pbR pbK (pbT ph x (.sl 7 0 k) (.sl 8 0 k) n i [.arr WS al 0 [], .arr WS ar 0 []])) =
  some ([decide ((i : Int) < n), decide (0 <= (i : Int)), decide (k = al.length) && roomW (k + 1), decide (k = ar.length) && roomW (k + 1)], pbK, pbT ph x (.sl 7 0 (k + 1)) (.sl 8 0 (k + 1)) n (iw ((i : Int) + 1)) [.arr WS (al ++ [pbE x.v i]) 0 [], .arr WS (ar ++ [pbF x.v i]) 0 []]) := by kernel_rfl
theorem pb_c : endT Tryz.prog Tryz.f82 [0, 1, 2, 3, 4, 5, 7, 8] [false] (pbR pbK (pbT ph x (.sl 7 0 k) (.sl 8 0 k) n i [.arr WS al 0 [], .arr WS ar 0 []])) =
  some ([decide ((i : Int) < n)], .tup [.c (.sl 6 0 k), .c (.sl 7 0 k)], paH false ph x ++ [.arr WS al 0 [], .arr WS ar 0 []]) := by kernel_rfl
end
def pPa1 (l : List FCell) : Option (Int × PaA × List FCell) := match l with
 | .c (.int _ .i64 ph) :: .c (.fn 81 [.ptr 1 0 0 0 0 0]) :: .c (.int _ .i64 b) :: .c (.int _ .i64 c) :: .c (.int _ .i64 p) :: .c (.int _ .u64 v) :: .ws .u64 4 d :: r => some (ph, { pa0 with b := b, c := c, p := p, v := v, d := d }, r)
 | _ => none
theorem pPa1_eq {l r : List FCell} {ph : Int} {x : PaA} (h : pPa1 l = some (ph, x, r)) : ∃ f1 f2 f3 f4 f5, l = .c (.int f1 .i64 ph) :: .c (.fn 81 [.ptr 1 0 0 0 0 0]) :: .c (.int f2 .i64 x.b) :: .c (.int f3 .i64 x.c) :: .c (.int f4 .i64 x.p) :: .c (.int f5 .u64 x.v) :: .ws .u64 4 x.d :: r := by
 unfold pPa1 at h;split at h
 ·simp only [Option.some.injEq, Prod.mk.injEq] at h;obtain ⟨rfl, rfl, rfl⟩ := h;exact ⟨_, _, _, _, _, rfl⟩
 ·cases h
def pPa2 (x : PaA) (l : List FCell) : Option (PaA × List FCell) := match l with
 | .ws .u64 4 a :: .ws .u64 4 r :: .ws .u64 4 t1 :: .ws .u64 4 t2 :: .c (.sl 2 0 nl) :: .c (.sl 3 0 nr) :: .ws .u64 4 y :: .ws .u64 4 z :: q => some ({ x with a := a, r := r, t1 := t1, t2 := t2, nl := nl, nr := nr, y := y, z := z }, q)
 | _ => none
theorem pPa2_eq {x x' : PaA} {l q : List FCell} (h : pPa2 x l = some (x', q)) : l = .ws .u64 4 x'.a :: .ws .u64 4 x'.r :: .ws .u64 4 x'.t1 :: .ws .u64 4 x'.t2 :: .c (.sl 2 0 x'.nl) :: .c (.sl 3 0 x'.nr) :: .ws .u64 4 x'.y :: .ws .u64 4 x'.z :: q /\ x'.b = x.b /\ x'.c = x.c /\ x'.p = x.p /\ x'.v = x.v /\ x'.d = x.d := by
 unfold pPa2 at h;split at h
 ·simp only [Option.some.injEq, Prod.mk.injEq] at h;obtain ⟨rfl, rfl⟩ := h;exact ⟨rfl, rfl, rfl, rfl, rfl, rfl⟩
 ·cases h
def pPa3 (x : PaA) (l : List FCell) (h : Heap) : Option PaA := match l, h with
 | [.c .nils, .c .nils, .c .nils, .c .nils], [.vals [.ws .u64 4 B, .ws .u64 4 D, .ws .u64 4 Q, .c (.sl 4 0 m), .c (.sl 5 0 m')], .arr (.ws .u64 4) SL 0 [], .arr (.ws .u64 4) SR 0 [], .arr (.pair (.ws .u64 4) .unit) gs 0 [], .arr (.pair (.ws .u64 4) .unit) hs 0 []] =>
  some { x with B := B, D := D, Q := Q, m := m, m' := m', SL := SL, SR := SR, gs := gs, hs := hs }
 | _, _ => none
theorem pPa3_eq {x x' : PaA} {l : List FCell} {h : Heap} (e : pPa3 x l h = some x') : l = [.c .nils, .c .nils, .c .nils, .c .nils] /\ h = [.vals (paS x'.B x'.D x'.Q 4 x'.m x'.m'), .arr WS x'.SL 0 [], .arr WS x'.SR 0 [], .arr PL x'.gs 0 [], .arr PL x'.hs 0 []] /\
  x'.b = x.b /\ x'.c = x.c /\ x'.p = x.p /\ x'.v = x.v /\ x'.d = x.d /\ x'.a = x.a /\ x'.r = x.r /\ x'.t1 = x.t1 /\ x'.t2 = x.t2 /\ x'.nl = x.nl /\ x'.nr = x.nr /\ x'.y = x.y /\ x'.z = x.z := by
 unfold pPa3 at e;split at e
 ·simp only [Option.some.injEq] at e;subst e;exact ⟨rfl, rfl, rfl, rfl, rfl, rfl, rfl, rfl, rfl, rfl, rfl, rfl, rfl, rfl, rfl⟩
 ·cases e
def pPaN (hl : Heap) : Option (Int × PaA) := match hl with
 | .vals l :: h => match pPa1 l with
  | some (ph, x, l1) => match pPa2 x l1 with
   | some (x2, l2) => match pPa3 x2 l2 h with
    | some x3 => some (ph, x3)
    | none => none
   | none => none
  | none => none
 | _ => none
theorem pPaN_eq {hl : Heap} {ph : Int} {x : PaA} (h : pPaN hl = some (ph, x)) : hl.map unlB = paH false ph x := by
 unfold pPaN at h;split at h <;> try cases h
 split at h <;> try cases h
 rename_i e1;split at h <;> try cases h
 rename_i e2;split at h <;> try cases h
 rename_i e3;obtain ⟨f1, f2, f3, f4, f5, rfl⟩ := pPa1_eq e1;obtain ⟨rfl, q1, q2, q3, q4, q5⟩ := pPa2_eq e2;obtain ⟨rfl, rfl, p1, p2, p3, p4, p5, p6, p7, p8, p9, p10, p11, p12, p13⟩ := pPa3_eq e3;rw [<- q1, <- q2, <- q3, <- q4, <- q5, <- p1, <- p2, <- p3, <- p4, <- p5, <- p6, <- p7, <- p8, <- p9, <- p10, <- p11, <- p12, <- p13];rfl
def pbEs (v : Int) (k : Nat) : List (List Int) := (List.range k).map (pbE v)
def pbFs (v : Int) (k : Nat) : List (List Int) := (List.range k).map (pbF v)
theorem pb_runs {ph : Int} {x : PaA} (hb : 1 <= x.b /\ x.b <= 64) : Runs Tryz.prog PT7 Tryz.f82 6 [.code (cd Tryz.f82)] (pbS ph x) (.tup [.c (.sl 6 0 x.b.toNat), .c (.sl 7 0 x.b.toNat)]) (paH false ph x ++ [.arr WS (pbEs x.v x.b.toNat) 0 [], .arr WS (pbFs x.v x.b.toNat) 0 []]) := by
 refine Runs.piece okPT7 mx (pb_a ph x) rfl (by rfl) ?_
 have h := pb_b0 ph x x.b 0
 rw [deT (show ((0 : Nat) : Int) < x.b by omega), roomWk (by decide)] at h
 refine Runs.piece okPT7 mx h rfl (by rfl) ?_
 refine loopG (st := fun k (a : List (List Int) × List (List Int)) => pbT ph x (.sl 7 0 k) (.sl 8 0 k) x.b k [.arr WS a.1 0 [], .arr WS a.2 0 []]) (I := fun k a => a = (pbEs x.v k, pbFs x.v k)) (n := x.b.toNat) (fun k a hk hI => ?_) (fun a hI => ?_) (x.b.toNat - 1) 1 ([pbE x.v 0], [pbF x.v 0]) (by omega) rfl
 ·subst hI;have h := pb_b ph x x.b k k (pbEs x.v k) (pbFs x.v k)
  rw [deT (show (k : Int) < x.b by omega), deT (show k = (pbEs x.v k).length from (map_range_len (pbE x.v) k).symm), deT (show k = (pbFs x.v k).length from (map_range_len (pbF x.v) k).symm), roomWk (by omega), iwk (by omega), deT (show 0 <= (k : Int) by omega)] at h
  exact ⟨(pbEs x.v k ++ [pbE x.v k], pbFs x.v k ++ [pbF x.v k]), Prod.ext (map_range_snoc (pbE x.v) k) (map_range_snoc (pbF x.v) k), fun hr => Runs.piece okPT7 mx h rfl (by rfl) hr⟩
 ·subst hI;have h := pb_c ph x x.b x.b.toNat x.b.toNat (pbEs x.v x.b.toNat) (pbFs x.v x.b.toNat)
  rw [deF (by omega)] at h
  exact Runs.last okPT7 mx h rfl (by rfl)
def Tpbits (vs : List V1) (hl : Heap) : Tree (SV × Heap) :=
 match vs with
 | [.c (.ptr 0 0 0 0 0 0)] => match pPaN hl with
  | some (ph, x) => Tree.chk (decide (1 <= x.b /\ x.b <= 64)) (.ret (.tup [.c (.sl 6 0 x.b.toNat), .c (.sl 7 0 x.b.toNat)], paH false ph x ++ [.arr WS (pbEs x.v x.b.toNat) 0 [], .arr WS (pbFs x.v x.b.toNat) 0 []]))
  | none => .fail
 | _ => .fail
theorem ok_pbits : EntryOk Tryz.prog G0 82 Tpbits := by
 refine EntryOk.unlitHRuns (S := PT7) (fn := Tryz.f82) (c := cd Tryz.f82) (by kernel_rfl) (by kernel_rfl) (by kernel_rfl) (fun vs hl res hl' ok okh h => ?_)
 unfold Tpbits at h;split at h <;> try cases h
 split at h <;> try cases h
 rename_i e;obtain ⟨h1, h2⟩ := val_chk h;obtain ⟨rfl, rfl⟩ := Prod.mk.inj (val_ret h2);rw [pPaN_eq e];exact pb_runs (ofD h1)
noncomputable def PT8 : Tab := PT7.put 82 2 Tpbits
theorem okPT8 : SpecOk Tryz.prog PT8 := okPT7.put ok_pbits
end Go.Sc
