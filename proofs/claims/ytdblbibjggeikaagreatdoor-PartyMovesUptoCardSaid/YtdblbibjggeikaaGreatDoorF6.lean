/- Layer 14: Join. -/
import Derived.Test.YtdblbibjggeikaaGreatDoorF5
set_option linter.unusedSectionVars false
set_option linter.unusedVariables false
set_option linter.unusedSimpArgs false
namespace Go.Sc
open Go Go.SX Go.Proofs
variable [Level] [Lone]
noncomputable def pjR (k : List Item) (s : St) : Tree Out := runK PT8 Tryz.prog noLoops 400 k s
noncomputable def pjS (j : JoA) : St := ⟨enterT Tryz.f25 (joV j), []⟩
def jx (j : JoA) (f : Int) : PaA :=
 ⟨j.B, j.D, j.Q, cutP j.gs f (f + j.b), cutP j.hs f (f + j.b), (cutP j.gs f (f + j.b)).length, (cutP j.hs f (f + j.b)).length, j.b, j.c, j.p, j.v, j.d, j.a, j.r, j.t1, j.t2, lsL j.sl j.nl, j.nl, lsL j.sr j.nr, j.nr, zL, zL⟩
def jV (x : PaA) : List Int := limbs (comS x.B x.D [x.v, 0, 0, 0] x.d % ell)
def jA (x : PaA) : List Int := limbs (vecS x.D x.a (pbEs x.v x.b.toNat) (pbFs x.v x.b.toNat) x.gs x.hs x.b.toNat x.b.toNat % ell)
def jSS (x : PaA) : List Int := limbs (vecS x.D x.r x.SL x.SR x.gs x.hs x.nl x.nr % ell)
def bitF (p : Int) (V A S : List Int) : List FCell := [.c (.int false .i64 p), .ws .u64 4 V, .ws .u64 4 A, .ws .u64 4 S]
def jRes (x : PaA) : SV := .tup [.c (.ptr 0 0 0 0 0 0), .g (bitF x.p (jV x) (jA x) (jSS x)), .c (.int true .i64 0)]
def jBd (j : JoA) (f : Int) : Bool := decide (0 <= f /\ 0 <= j.b /\ f + j.b <= j.ng /\ f + j.b <= j.nh /\ f + j.b <= 1048576 /\ f + j.b <= j.gs.length /\ f + j.b <= j.hs.length /\ j.ng <= 1048576 /\ j.nh <= 1048576)
def cvB (na nb ng nh : Nat) : Bool := decide (na <= ng /\ nb <= nh /\ 1 + na + nb <= 8192)
theorem pj_a (j : JoA) : endT Tryz.prog Tryz.f25 [10, 7, 8, 9, 5, 6] [false, true, true, true, true, true, true] (pjR [.code (cd Tryz.f25)] (pjS j)) =
  some ([pfE j.ng j.nh j.b j.c j.p j.v j.nl j.nr != 0, jBd j (iw (j.p * j.b)), decide (j.nl <= 1048576), decide (j.nr <= 1048576), decide (1 <= j.b /\ j.b <= 64),
   cvB j.b.toNat j.b.toNat (jx j (iw (j.p * j.b))).m (jx j (iw (j.p * j.b))).m', cvB j.nl j.nr (jx j (iw (j.p * j.b))).m (jx j (iw (j.p * j.b))).m'], jRes (jx j (iw (j.p * j.b))), paH false 1 (jx j (iw (j.p * j.b)))) := by kernel_rfl
theorem pj_b (j : JoA) : endT Tryz.prog Tryz.f25 [] [true] (pjR [.code (cd Tryz.f25)] (pjS j)) =
  some ([pfE j.ng j.nh j.b j.c j.p j.v j.nl j.nr != 0], .tup [.c .nilp, .g [.c (.int true .i64 0), .ws .u64 4 zL, .ws .u64 4 zL, .ws .u64 4 zL], .c (.int false .i64 (pfE j.ng j.nh j.b j.c j.p j.v j.nl j.nr))], []) := by kernel_rfl
structure PjOk (j : JoA) : Prop where
 al : alw j.b j.c = true
 p : 0 <= j.p /\ j.p < j.c
 ng : j.b * j.c <= j.ng
 nh : j.b * j.c <= j.nh
 nl : (j.nl : Int) = j.b
 nr : (j.nr : Int) = j.b
 v : opOk j.b j.v = true
theorem pfE_of {j : JoA} (h : pfE j.ng j.nh j.b j.c j.p j.v j.nl j.nr = 0) : PjOk j := by
 unfold pfE at h;split at h
 ·exact absurd h (by decide)
 rename_i h1;have h1 : alw j.b j.c = true := by cases q : alw j.b j.c <;> simp_all
 split at h
 ·exact absurd h (by decide)
 rename_i h2;split at h
 ·exact absurd h (by decide)
 rename_i h3;split at h
 ·rename_i h4;have e := (alw_mul h1).2.2
  rw [e] at h3;exact ⟨h1, by omega, by omega, by omega, by omega, by omega, h4⟩
 ·exact absurd h (by decide)
def jSt (j : JoA) : Bool := decide (j.ng <= 1048576 /\ j.nh <= 1048576 /\ j.ng <= j.gs.length /\ j.nh <= j.hs.length)
theorem cutP_len {gs : List PL.den} {f b : Int} (h0 : 0 <= f) (hb : 0 <= b) (h : f + b <= gs.length) : (cutP gs f (f + b)).length = b.toNat := by
 unfold cutP;rw [List.length_take, List.length_drop];omega
abbrev RPj (j : JoA) (v : SV) (h : Heap) : Prop := Runs Tryz.prog PT8 Tryz.f25 0 [.code (cd Tryz.f25)] (pjS j) v h
theorem pj_runs {j : JoA} (h0 : pfE j.ng j.nh j.b j.c j.p j.v j.nl j.nr = 0) (hs : jSt j = true) : RPj j (jRes (jx j (j.p * j.b))) (paH false 1 (jx j (j.p * j.b))) := by
 have o := pfE_of h0
 obtain ⟨s1, s2, s3, s4⟩ := ofD hs;obtain ⟨m1, m2, m3⟩ := alw_mul o.al;obtain ⟨⟨b1, b2⟩, c1, c2⟩ := alw_of o.al;obtain ⟨p1, p2⟩ := o.p;have g1 := o.ng
 have g2 := o.nh
 have g3 := o.nl
 have g4 := o.nr
 have hf0 : 0 <= j.p * j.b := Int.mul_nonneg p1 (by omega)
 have hf1 : j.p * j.b + j.b <= j.b * j.c := by
  have : (j.p + 1) * j.b <= j.c * j.b := Int.mul_le_mul_of_nonneg_right (by omega) (by omega)
  rw [Int.add_mul, Int.one_mul, Int.mul_comm j.c] at this;exact this
 have e : iw (j.p * j.b) = j.p * j.b := by
  unfold iw;rw [IntKind.wrap_i64];omega
 have h := pj_a j
 rw [e] at h
 generalize hf : j.p * j.b = f at *
 have l1 : (jx j f).m = j.b.toNat := cutP_len hf0 (by omega) (by omega)
 have l2 : (jx j f).m' = j.b.toNat := cutP_len hf0 (by omega) (by omega)
 rw [l1, l2, bneq' h0, show jBd j f = true from deT (by omega), deT (show j.nl <= 1048576 by omega), deT (show j.nr <= 1048576 by omega), deT (show 1 <= j.b /\ j.b <= 64 from ⟨b1, b2⟩),
  show cvB j.b.toNat j.b.toNat j.b.toNat j.b.toNat = true from deT (by omega), show cvB j.nl j.nr j.b.toNat j.b.toNat = true from deT (by omega)] at h
 exact Runs.last okPT8 mx h rfl (by rfl)
def jErr (j : JoA) : SV := .tup [.c .nilp, .g [.c (.int true .i64 0), .ws .u64 4 zL, .ws .u64 4 zL, .ws .u64 4 zL], .c (.int false .i64 (pfE j.ng j.nh j.b j.c j.p j.v j.nl j.nr))]
def TpJoin (vs : List V1) (hl : Heap) : Tree (SV × Heap) :=
 match vs, hl with
 | [.g [.ws .u64 4 B, .ws .u64 4 D, .ws .u64 4 Q, .c (.ro (.pair (.ws .u64 4) .unit) gs ng), .c (.ro (.pair (.ws .u64 4) .unit) hs nh)], .g [.c (.int _ .i64 b), .c (.int _ .i64 c)], .c (.int _ .i64 p), .g [.c (.int _ .u64 v), .ws .u64 4 d],
   .g [.ws .u64 4 a, .ws .u64 4 r, .ws .u64 4 t1, .ws .u64 4 t2, .c (.ro (.ws .u64 4) sl nl), .c (.ro (.ws .u64 4) sr nr)]], [] =>
  .br (decide (pfE ng nh b c p v nl nr = 0))
   (Tree.chk (jSt ⟨B, D, Q, gs, hs, ng, nh, b, c, p, v, d, a, r, t1, t2, sl, nl, sr, nr⟩) (.ret (jRes (jx ⟨B, D, Q, gs, hs, ng, nh, b, c, p, v, d, a, r, t1, t2, sl, nl, sr, nr⟩ (p * b)), paH false 1 (jx ⟨B, D, Q, gs, hs, ng, nh, b, c, p, v, d, a, r, t1, t2, sl, nl, sr, nr⟩ (p * b)))))
   (.ret (jErr ⟨B, D, Q, gs, hs, ng, nh, b, c, p, v, d, a, r, t1, t2, sl, nl, sr, nr⟩, []))
 | _, _ => .fail
theorem ok_pJoin : EntryOk Tryz.prog G0 25 TpJoin := by
 refine EntryOk.unlitRuns (S := PT8) (fn := Tryz.f25) (c := cd Tryz.f25) (by kernel_rfl) (by kernel_rfl) (by kernel_rfl) (fun vs hl res hl' ok h => ?_)
 unfold TpJoin at h;split at h
 ·rename_i B D Q gs ng hs nh l1 b l2 c l3 p l4 v d a r t1 t2 sl nl sr nr
  generalize hz : (⟨B, D, Q, gs, hs, ng, nh, b, c, p, v, d, a, r, t1, t2, sl, nl, sr, nr⟩ : JoA) = j at h
  rw [show pfE ng nh b c p v nl nr = pfE j.ng j.nh j.b j.c j.p j.v j.nl j.nr from by subst hz; rfl, show p * b = j.p * j.b from by subst hz; rfl] at h
  have key : RPj j res hl' := by
   by_cases h0 : pfE j.ng j.nh j.b j.c j.p j.v j.nl j.nr = 0
   ·rw [deT h0] at h;obtain ⟨h1, h2⟩ := val_chk (show (Tree.chk (jSt j) (Tree.ret (jRes (jx j (j.p * j.b)), paH false 1 (jx j (j.p * j.b))))).val = _ from h)
    obtain ⟨rfl, rfl⟩ := Prod.mk.inj (val_ret h2);exact pj_runs h0 h1
   ·rw [deF h0] at h;obtain ⟨rfl, rfl⟩ := Prod.mk.inj (val_ret (show (Tree.ret (jErr j, ([] : Heap))).val = _ from h))
    have h := pj_b j
    rw [bneq h0] at h;exact Runs.last okPT8 mx h rfl (by rfl)
  subst hz;exact key
 ·cases h
noncomputable def PT9 : Tab := PT8.put 25 6 TpJoin
theorem okPT9 : SpecOk Tryz.prog PT9 := okPT8.put ok_pJoin
noncomputable def poR (k : List Item) (s : St) : Tree Out := runK PT9 Tryz.prog noLoops 400 k s
noncomputable def poS (ph : Int) (x : PaA) (y z : List Int) : St := ⟨enterT Tryz.f36 [.c (.ptr 0 0 0 0 0 0), ws y, ws z], paH false ph x⟩
def paHc (ph : Int) (x : PaA) (l0 l1 r0 r1 : Cell) : Heap := [.vals (paC false ph x l0 l1 r0 r1), .vals (paS x.B x.D x.Q 4 x.m x.m'), .arr WS x.SL 0 [], .arr WS x.SR 0 [], .arr PL x.gs 0 [], .arr PL x.hs 0 []]
def poX (x : PaA) (y z : List Int) : PaA :=
 ⟨x.B, x.D, x.Q, x.gs, x.hs, x.m, x.m', x.b, x.c, x.p, x.v, x.d, x.a, x.r, x.t1, x.t2, x.SL, x.nl, x.SR, x.nr, limbs (val y % ell), limbs (val z % ell)⟩
def po0 : List FCell := [.c (.int true .i64 0), .ws .u64 4 zL, .ws .u64 4 zL]
noncomputable def poT (ph : Int) (x : PaA) (l0 r0 r1 : Cell) (bs rs ys zs : List (List Int)) (k : Nat) (i : Int) (h : Heap) : St :=
 ⟨slotsOf 214 [(0, pt 0), (6, pt 6), (9, one (.sl 7 0 k)), (10, one (.sl 8 0 k)), (11, one (.sl 9 0 k)), (12, one (.sl 10 0 k)), (74, one (.sl 7 0 k)), (75, one (.int false .i64 k)), (76, one (.int false .i64 i))],
  paHc ph x l0 .nils r0 r1 ++ [.vals po0, .arr WS bs 0 [], .arr WS rs 0 [], .arr WS ys 0 [], .arr WS zs 0 []] ++ h⟩
def poKp : List Nat := [0, 6, 9, 10, 11, 12, 74, 75, 76]
noncomputable def poK : List Item := leftT [false, false, true, false, true, true] (poR [.code (cd Tryz.f36)] (poS 0 pa0 [] []))
def poB (x : PaA) : Bool := decide ((1 <= x.b /\ x.b <= 64) /\ 0 <= x.p /\ x.p <= 16)
theorem po_a (ph : Int) (x : PaA) (y z : List Int) : pieceT poKp [76] [0, 1, 2, 3, 4, 5, 8, 10, 11, 12, 13] [false, false, true, false, true, true] (poR [.code (cd Tryz.f36)] (poS ph x y z)) =
  some ([ph == 0, ph != 1, decide (val y % ell = 0) == false, decide (val z % ell = 0), decide (1 <= x.b /\ x.b <= 64), poB x], poK,
   poT ph (poX x y z) .nils .nils .nils (pbEs x.v x.b.toNat) (pbFs x.v x.b.toNat) (ppYs (limbs (val y % ell)) (x.p * x.b).toNat x.b.toNat) (ppZs (limbs (val z % ell)) (2 + x.p).toNat x.b.toNat) x.b.toNat (0 : Nat) []) := by kernel_rfl
def poZ : List FCell := [.c (.int true .i64 0), .ws .u64 4 zL, .ws .u64 4 zL]
theorem po_x3 (ph : Int) (x : PaA) (y z : List Int) : endT Tryz.prog Tryz.f36 [0, 1, 2, 3, 4, 5] [false, false, false] (poR [.code (cd Tryz.f36)] (poS ph x y z)) = some ([ph == 0, ph != 1, decide (val y % ell = 0) == false], .tup [.g poZ, .c (.int true .i64 4)], paH false ph x) := by kernel_rfl
theorem po_x4 (ph : Int) (x : PaA) (y z : List Int) : endT Tryz.prog Tryz.f36 [0, 1, 2, 3, 4, 5] [false, false, true, true] (poR [.code (cd Tryz.f36)] (poS ph x y z)) = some ([ph == 0, ph != 1, decide (val y % ell = 0) == false, decide (val z % ell = 0)], .tup [.g poZ, .c (.int true .i64 4)], paH false ph x) := by kernel_rfl
noncomputable def poN (y z : List Int) : St := ⟨enterT Tryz.f36 [.c .nilp, ws y, ws z], []⟩
theorem po_x0 (y z : List Int) : endT Tryz.prog Tryz.f36 [] [] (poR [.code (cd Tryz.f36)] (poN y z)) = some ([], .tup [.g poZ, .c (.int true .i64 1)], []) := by kernel_rfl
def poL (b z : List Int) : List Int := limbs ((val b - val z) % ell)
def poR0 (y r w z : List Int) : List Int := limbs ((val (limbs (val y * val (limbs ((val r + val z) % ell)) % ell)) + val w) % ell)
def poR1 (y s : List Int) : List Int := limbs (val y * val s % ell)
def poG (b : Nat) (l0 r0 r1 : List (List Int)) : Heap := [.arr WS l0 0 [], .arr WS r0 0 [], .arr WS r1 0 []]
section
variable (ph : Int) (x : PaA) (bs rs ys zs l0 r0 r1 : List (List Int)) (k m i : Nat)
def inK' (i k : Nat) : Bool := decide (0 <= (i : Int) /\ (i : Int) < k)
theorem po_b0 : pieceT poKp [76] [0, 1, 2, 3, 4, 5, 6, 7, 8, 9, 10, 12, 14, 16] [true, true, true, true, true, true, true, true, true, true] (poR poK (poT ph x .nils .nils .nils bs rs ys zs k i [])) =
  some ([decide ((i : Int) < k), inK' i k, roomW 1, inK' i k, inK' i k, inK' i k, roomW 1, inK' i k, inK' i x.nr, roomW 1], poK,
   poT ph x (.sl 11 0 1) (.sl 12 0 1) (.sl 13 0 1) bs rs ys zs k (iw ((i : Int) + 1)) (poG 0 [poL (bs.getD (0 + i) zL) x.z] [poR0 (ys.getD (0 + i) zL) (rs.getD (0 + i) zL) (zs.getD (0 + i) zL) x.z] [poR1 (ys.getD (0 + i) zL) (x.SR.getD (0 + i) zL)])) := by kernel_rfl
theorem po_b : pieceT poKp [76] [0, 1, 2, 3, 4, 5, 6, 7, 8, 9, 10, 15, 17, 19] [true, true, true, true, true, true, true, true, true, true] (poR poK (poT ph x (.sl 11 0 m) (.sl 12 0 m) (.sl 13 0 m) bs rs ys zs k i (poG 0 l0 r0 r1))) =
  some ([decide ((i : Int) < k), inK' i k, decide (m = l0.length) && roomW (m + 1), inK' i k, inK' i k, inK' i k, decide (m = r0.length) && roomW (m + 1), inK' i k, inK' i x.nr, decide (m = r1.length) && roomW (m + 1)], poK,
   poT ph x (.sl 11 0 (m + 1)) (.sl 12 0 (m + 1)) (.sl 13 0 (m + 1)) bs rs ys zs k (iw ((i : Int) + 1)) (poG 0 (l0 ++ [poL (bs.getD (0 + i) zL) x.z]) (r0 ++ [poR0 (ys.getD (0 + i) zL) (rs.getD (0 + i) zL) (zs.getD (0 + i) zL) x.z]) (r1 ++ [poR1 (ys.getD (0 + i) zL) (x.SR.getD (0 + i) zL)]))) := by kernel_rfl
def poT1 (x : PaA) (l0 r0 r1 : List (List Int)) (m : Nat) : List Int := limbs ((val (limbs (inn l0 r1 m % ell)) + val (limbs (inn x.SL r0 x.nl % ell))) % ell)
def poT2 (x : PaA) (r1 : List (List Int)) : List Int := limbs (inn x.SL r1 x.nl % ell)
def poV (x : PaA) (l0 r0 r1 : List (List Int)) (m : Nat) : SV := .tup [.g [.c (.int false .i64 x.p), .ws .u64 4 (limbs (comS x.B x.D (poT1 x l0 r0 r1 m) x.t1 % ell)), .ws .u64 4 (limbs (comS x.B x.D (poT2 x r1) x.t2 % ell))], .c (.int true .i64 0)]
def poH' (l : Bool) (x : PaA) (k : Nat) (l0 r0 r1 : List (List Int)) : Heap :=
 [.vals (paC l 2 x (.sl 6 0 k) (.sl 2 0 x.nl) (.sl 7 0 k) (.sl 8 0 k)), .vals (paS x.B x.D x.Q 4 x.m x.m'), .arr WS x.SL 0 [], .arr WS x.SR 0 [], .arr PL x.gs 0 [], .arr PL x.hs 0 [], .arr WS l0 0 [], .arr WS r0 0 [], .arr WS r1 0 []]
theorem po_c : endT Tryz.prog Tryz.f36 [0, 1, 2, 3, 4, 5, 11, 12, 13] [false, true, true, true] (poR poK (poT ph x (.sl 11 0 m) (.sl 12 0 m) (.sl 13 0 m) bs rs ys zs k i (poG 0 l0 r0 r1))) =
  some ([decide ((i : Int) < k), decide (m = m /\ m <= 1048576), decide (x.nl = m /\ x.nl <= 1048576), decide (x.nl = m /\ x.nl <= 1048576)], poV x (l0.drop 0) (r0.drop 0) (r1.drop 0) m, poH' true x m l0 r0 r1) := by kernel_rfl
end
def paF (l : Bool) (ph : Int) (x : PaA) (k : Nat) (l0 r0 r1 : List (List Int)) : Heap :=
 [.vals (paC l ph x (.sl 4 0 k) (.sl 2 0 x.nl) (.sl 5 0 k) (.sl 6 0 k)), .vals (paS x.B x.D x.Q 7 x.m x.m'), .arr WS x.SL 0 [], .arr WS x.SR 0 [], .arr WS l0 0 [], .arr WS r0 0 [], .arr WS r1 0 [], .arr PL x.gs 0 [], .arr PL x.hs 0 []]
def pPaL (l : List FCell) : Option (Nat × Nat × Nat × Nat) := match l with
 | [.c (.sl 4 0 k1), .c (.sl 2 0 k2), .c (.sl 5 0 k3), .c (.sl 6 0 k4)] => some (k1, k2, k3, k4)
 | _ => none
theorem pPaL_eq {l : List FCell} {k1 k2 k3 k4 : Nat} (h : pPaL l = some (k1, k2, k3, k4)) : l = [.c (.sl 4 0 k1), .c (.sl 2 0 k2), .c (.sl 5 0 k3), .c (.sl 6 0 k4)] := by
 unfold pPaL at h;split at h
 ·simp only [Option.some.injEq, Prod.mk.injEq] at h;obtain ⟨rfl, rfl, rfl, rfl⟩ := h;rfl
 ·cases h
def pPa4 (x : PaA) (h : Heap) : Option (PaA × List (List Int) × List (List Int) × List (List Int)) := match h with
 | [.vals [.ws .u64 4 B, .ws .u64 4 D, .ws .u64 4 Q, .c (.sl 7 0 m), .c (.sl 8 0 m')], .arr (.ws .u64 4) SL 0 [], .arr (.ws .u64 4) SR 0 [], .arr (.ws .u64 4) l0 0 [], .arr (.ws .u64 4) r0 0 [], .arr (.ws .u64 4) r1 0 [], .arr (.pair (.ws .u64 4) .unit) gs 0 [], .arr (.pair (.ws .u64 4) .unit) hs 0 []] =>
  some ({ x with B := B, D := D, Q := Q, m := m, m' := m', SL := SL, SR := SR, gs := gs, hs := hs }, l0, r0, r1)
 | _ => none
theorem pPa4_eq {x x' : PaA} {h : Heap} {l0 r0 r1 : List (List Int)} (e : pPa4 x h = some (x', l0, r0, r1)) : h = [.vals (paS x'.B x'.D x'.Q 7 x'.m x'.m'), .arr WS x'.SL 0 [], .arr WS x'.SR 0 [], .arr WS l0 0 [], .arr WS r0 0 [], .arr WS r1 0 [], .arr PL x'.gs 0 [], .arr PL x'.hs 0 []] /\
  x'.b = x.b /\ x'.c = x.c /\ x'.p = x.p /\ x'.v = x.v /\ x'.d = x.d /\ x'.a = x.a /\ x'.r = x.r /\ x'.t1 = x.t1 /\ x'.t2 = x.t2 /\ x'.nl = x.nl /\ x'.nr = x.nr /\ x'.y = x.y /\ x'.z = x.z := by
 unfold pPa4 at e;split at e
 ·simp only [Option.some.injEq, Prod.mk.injEq] at e;obtain ⟨rfl, rfl, rfl, rfl⟩ := e;exact ⟨rfl, rfl, rfl, rfl, rfl, rfl, rfl, rfl, rfl, rfl, rfl, rfl, rfl, rfl⟩
 ·cases e
def pPaF (hl : Heap) : Option (Int × PaA × (Nat × Nat × Nat × Nat) × List (List Int) × List (List Int) × List (List Int)) := match hl with
 | .vals l :: h => match pPa1 l with
  | some (ph, x, l1) => match pPa2 x l1 with
   | some (x2, l2) => match pPaL l2, pPa4 x2 h with
    | some ks, some (x3, l0, r0, r1) => some (ph, x3, ks, l0, r0, r1)
    | _, _ => none
   | none => none
  | none => none
 | _ => none
def okF (x : PaA) (k1 k2 k3 k4 : Nat) : Bool := decide (x.nl = k2 /\ k1 = k3 /\ k1 = k4)
theorem pPaF_eq {hl : Heap} {ph : Int} {x : PaA} {k1 k2 k3 k4 : Nat} {l0 r0 r1 : List (List Int)} (h : pPaF hl = some (ph, x, (k1, k2, k3, k4), l0, r0, r1)) (g : okF x k1 k2 k3 k4 = true) : hl.map unlB = paF false ph x k1 l0 r0 r1 := by
 unfold pPaF at h;split at h <;> try cases h
 split at h <;> try cases h
 rename_i e1;split at h <;> try cases h
 rename_i e2;split at h <;> try cases h
 rename_i e3 e4;obtain ⟨g1, rfl, rfl⟩ := ofD g;obtain ⟨f1, f2, f3, f4, f5, rfl⟩ := pPa1_eq e1;obtain ⟨rfl, q1, q2, q3, q4, q5⟩ := pPa2_eq e2;obtain rfl := pPaL_eq e3;obtain ⟨rfl, p1, p2, p3, p4, p5, p6, p7, p8, p9, p10, p11, p12, p13⟩ := pPa4_eq e4;subst g1;rw [<- q1, <- q2, <- q3, <- q4, <- q5, <- p1, <- p2, <- p3, <- p4, <- p5, <- p6, <- p7, <- p8, <- p9, <- p10, <- p11, <- p12, <- p13];rfl
def poLs (z : List Int) (bs : List (List Int)) (k : Nat) : List (List Int) := (List.range k).map fun i => poL (bs.getD (0 + i) zL) z
def poRs (z : List Int) (ys rs zs : List (List Int)) (k : Nat) : List (List Int) := (List.range k).map fun i => poR0 (ys.getD (0 + i) zL) (rs.getD (0 + i) zL) (zs.getD (0 + i) zL) z
def poQs (ys sr : List (List Int)) (k : Nat) : List (List Int) := (List.range k).map fun i => poR1 (ys.getD (0 + i) zL) (sr.getD (0 + i) zL)
def poBs (x : PaA) : List (List Int) := pbEs x.v x.b.toNat
def poFs (x : PaA) : List (List Int) := pbFs x.v x.b.toNat
def poYs (x : PaA) : List (List Int) := ppYs x.y (x.p * x.b).toNat x.b.toNat
def poZs (x : PaA) : List (List Int) := ppZs x.z (2 + x.p).toNat x.b.toNat
def poA (x : PaA) : List (List Int) := poLs x.z (poBs x) x.b.toNat
def poC (x : PaA) : List (List Int) := poRs x.z (poYs x) (poFs x) (poZs x) x.b.toNat
def poD (x : PaA) : List (List Int) := poQs (poYs x) x.SR x.b.toNat
def poOk (x : PaA) : Bool := decide ((1 <= x.b /\ x.b <= 64) /\ (0 <= x.p /\ x.p <= 16) /\ x.nl = x.b.toNat /\ x.nr = x.b.toNat)
abbrev RPo (y z : List Int) (x : PaA) (v : SV) (h : Heap) : Prop := Runs Tryz.prog PT9 Tryz.f36 6 [.code (cd Tryz.f36)] (poS 1 x y z) v h
theorem inK_t {i k : Nat} (h : i < k) : inK' i k = true := deT (by omega)
theorem po_runs {x : PaA} {y z : List Int} (h : poOk x = true) (hy : val y % ell ≠ 0) (hz : val z % ell ≠ 0) :
  RPo y z x (poV (poX x y z) (poA (poX x y z)) (poC (poX x y z)) (poD (poX x y z)) x.b.toNat) (poH' true (poX x y z) x.b.toNat (poA (poX x y z)) (poC (poX x y z)) (poD (poX x y z))) := by
 obtain ⟨⟨b1, b2⟩, pp, n1, n2⟩ := ofD h;have h := po_a 1 x y z
 rw [bneq' (show (1 : Int) = 1 from rfl), beq_false_of_ne (show (1 : Int) ≠ 0 by decide), deF hy, deF hz, deT (show 1 <= x.b /\ x.b <= 64 from ⟨b1, b2⟩), show poB x = true from deT ⟨⟨b1, b2⟩, pp⟩] at h
 refine Runs.piece okPT9 mx h rfl (by rfl) ?_
 have hn1 : (poX x y z).nl = x.b.toNat := n1
 have hn2 : (poX x y z).nr = x.b.toNat := n2
 show Runs _ _ _ _ _ (poT 1 (poX x y z) .nils .nils .nils (poBs (poX x y z)) (poFs (poX x y z)) (poYs (poX x y z)) (poZs (poX x y z)) x.b.toNat (0 : Nat) []) _ _
 unfold poA poC poD;rw [show (poX x y z).b = x.b from rfl]
 generalize poBs (poX x y z) = bs
 generalize poFs (poX x y z) = rs
 generalize poYs (poX x y z) = ys
 generalize poZs (poX x y z) = zs
 generalize poX x y z = X at *
 have hb : 1 <= x.b.toNat /\ x.b.toNat <= 64 := by omega
 generalize x.b.toNat = n at *
 have h := po_b0 1 X bs rs ys zs n 0
 rw [deT (show ((0 : Nat) : Int) < n by omega), inK_t (show 0 < n by omega), inK_t (show 0 < X.nr by omega), roomWk (by decide)] at h
 refine Runs.piece okPT9 mx h rfl (by rfl) ?_
 refine loopG (st := fun k (a : List (List Int) × List (List Int) × List (List Int)) => poT 1 X (.sl 11 0 k) (.sl 12 0 k) (.sl 13 0 k) bs rs ys zs n k (poG 0 a.1 a.2.1 a.2.2)) (I := fun k a => a = (poLs X.z bs k, poRs X.z ys rs zs k, poQs ys X.SR k)) (n := n) (fun k a hk hI => ?_) (fun a hI => ?_) (n - 1) 1 ([poL (bs.getD (0 + 0) zL) X.z], [poR0 (ys.getD (0 + 0) zL) (rs.getD (0 + 0) zL) (zs.getD (0 + 0) zL) X.z], [poR1 (ys.getD (0 + 0) zL) (X.SR.getD (0 + 0) zL)]) (by omega) rfl
 ·subst hI;have h := po_b 1 X bs rs ys zs (poLs X.z bs k) (poRs X.z ys rs zs k) (poQs ys X.SR k) n k k
  rw [deT (show (k : Int) < n by omega), inK_t hk, inK_t (show k < X.nr by omega), deT (show k = (poLs X.z bs k).length from (map_range_len _ k).symm), deT (show k = (poRs X.z ys rs zs k).length from (map_range_len _ k).symm), deT (show k = (poQs ys X.SR k).length from (map_range_len _ k).symm), roomWk (by omega), iwk (by omega)] at h
  exact ⟨(_, _, _), Prod.ext (map_range_snoc (fun i => poL (bs.getD (0 + i) zL) X.z) k) (Prod.ext (map_range_snoc (fun i => poR0 (ys.getD (0 + i) zL) (rs.getD (0 + i) zL) (zs.getD (0 + i) zL) X.z) k) (map_range_snoc (fun i => poR1 (ys.getD (0 + i) zL) (X.SR.getD (0 + i) zL)) k)), fun hr => Runs.piece okPT9 mx h rfl (by rfl) hr⟩
 ·subst hI;have h := po_c 1 X bs rs ys zs (poLs X.z bs n) (poRs X.z ys rs zs n) (poQs ys X.SR n) n n n
  rw [deF (show ¬ (n : Int) < n by omega), deT (show n = n /\ n <= 1048576 from ⟨rfl, by omega⟩), deT (show X.nl = n /\ X.nl <= 1048576 from ⟨hn1, by omega⟩)] at h
  exact Runs.last okPT9 mx h rfl (by rfl)
end Go.Sc
