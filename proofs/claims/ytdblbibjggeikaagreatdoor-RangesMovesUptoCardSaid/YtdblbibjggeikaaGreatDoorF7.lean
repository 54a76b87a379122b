/- The document's Fits. -/
import Derived.Test.YtdblbibjggeikaaGreatDoorF6
set_option linter.unusedSectionVars false
set_option linter.unusedVariables false
set_option linter.unusedSimpArgs false
namespace Go.Sc
open Go Go.SX Go.Proofs
variable [Level] [Lone]
def enoB (s : DsA) (b c : Int) : Bool := decide ((s.ng : Int) >= iw (b * c)) && decide ((s.nh : Int) >= iw (b * c))
def TdEnough (vs : List V1) (hl : Heap) : Tree (SV × Heap) :=
 match vs, hl with
 | [u, .g [.c (.int _ .i64 b), .c (.int _ .i64 c)]], [] => match dSetArg u with
  | some s => .ret (.one (.c (.bool false (enoB s b c))), [])
  | none => .fail
 | _, _ => .fail
theorem deno_a (s : DsA) (b c : Int) : (bodyT M4 Tryz.prog allLoops Tryz.f54 (cd Tryz.f54) [.g (dSet s), pr b c] []).path [true] = some ([decide ((s.ng : Int) >= iw (b * c)) == true], .one (.c (.bool false (decide ((s.nh : Int) >= iw (b * c))))), []) := by kernel_rfl
theorem deno_b (s : DsA) (b c : Int) : (bodyT M4 Tryz.prog allLoops Tryz.f54 (cd Tryz.f54) [.g (dSet s), pr b c] []).path [false] = some ([decide ((s.ng : Int) >= iw (b * c)) == true], .one (.c (.bool true false)), []) := by kernel_rfl
theorem ok_denough : EntryOk Tryz.prog G0 54 TdEnough := by
 refine (EntryOk.subU (bodyT_ok okM4 mx (un := allLoops) (fn := Tryz.f54) (c := cd Tryz.f54) (by kernel_rfl) (by kernel_rfl) (by kernel_rfl)).unlitG) (fun vs hl r ok h => ?_)
 unfold TdEnough at h;split at h
 ·rename_i u l1 b l2 c;split at h
  ·rename_i s e;obtain rfl := val_ret h;rw [List.map_cons, dSetArg_eq e];unfold enoB;by_cases hg : (s.ng : Int) >= iw (b * c)
   ·refine ⟨_, Tree.path_val (cs := [true]) ((deno_a s b c).trans (by rw [decide_eq_true hg]; rfl)), ?_⟩
    rw [decide_eq_true hg, Bool.true_and]; rfl
   ·refine ⟨_, Tree.path_val (cs := [false]) ((deno_b s b c).trans (by rw [decide_eq_false hg]; rfl)), ?_⟩
    rw [decide_eq_false hg, Bool.false_and]; rfl
  ·cases h
 ·cases h
noncomputable def M5 : Tab := M4.put 54 0 TdEnough
theorem okM5 : SpecOk Tryz.prog M5 := okM4.put ok_denough
noncomputable def dfR (k : List Item) (s : St) : Tree Out := runK M5 Tryz.prog noLoops 400 k s
def ds0 : DsA := ⟨2, 2, 2, 2, [], [], [], [], [], [], [], [], [], [], 0, [], 0⟩
noncomputable def dfS (s : DsA) (b c : Int) (vs : OpT) (nv : Nat) (a r t1 t2 : List Int) (sl : List (List Int)) (nl : Nat) (sr : List (List Int)) (nr : Nat) : St :=
 ⟨enterT Tryz.f9 [.g (dSet s), pr b c, .c (.ro OP vs nv), .g (tapeF a r t1 t2 sl nl sr nr)], []⟩
noncomputable def dfK : List Item := leftT [false, true, true, true, false] (dfR [.code (cd Tryz.f9)] (dfS ds0 0 0 [] 0 [] [] [] [] [] 0 [] 0))
noncomputable def dfT (b c : Int) (vs : OpT) (nv : Nat) (i : Int) : St := ⟨slotsOf 63 [(2, one (.ro OP vs nv)), (5, pt 0), (8, one (.int false .i64 0)), (10, one (.int false .i64 i))], [.vals [.c (.int false .i64 b), .c (.int false .i64 c)]]⟩
def topW (b : Int) : Int := IntKind.u64.wrap (1 * 2 ^ (min b.toNat 64))
section
variable (s : DsA) (b c : Int) (vs : OpT) (nv i : Nat) (a r t1 t2 : List Int) (sl : List (List Int)) (nl : Nat) (sr : List (List Int)) (nr : Nat)
theorem df_1 : endT Tryz.prog Tryz.f9 [] [true] (dfR [.code (cd Tryz.f9)] (dfS s b c vs nv a r t1 t2 sl nl sr nr)) = some ([!alw b c], fiE 130, []) := by kernel_rfl
theorem df_2 : endT Tryz.prog Tryz.f9 [] [false, false] (dfR [.code (cd Tryz.f9)] (dfS s b c vs nv a r t1 t2 sl nl sr nr)) = some ([!alw b c, (!enoB s b c) == false], fiE 2, []) := by kernel_rfl
theorem df_3 : endT Tryz.prog Tryz.f9 [] [false, true, false] (dfR [.code (cd Tryz.f9)] (dfS s b c vs nv a r t1 t2 sl nl sr nr)) = some ([!alw b c, (!enoB s b c) == false, ((nv : Int) != c) == false], fiE 2, []) := by kernel_rfl
theorem df_4 : endT Tryz.prog Tryz.f9 [] [false, true, true, false] (dfR [.code (cd Tryz.f9)] (dfS s b c vs nv a r t1 t2 sl nl sr nr)) = some ([!alw b c, (!enoB s b c) == false, ((nv : Int) != c) == false, ((nl : Int) != iw (b * c)) == false], fiE 2, []) := by kernel_rfl
theorem df_5 : endT Tryz.prog Tryz.f9 [] [false, true, true, true, true] (dfR [.code (cd Tryz.f9)] (dfS s b c vs nv a r t1 t2 sl nl sr nr)) = some ([!alw b c, (!enoB s b c) == false, ((nv : Int) != c) == false, ((nl : Int) != iw (b * c)) == false, (nr : Int) != iw (b * c)], fiE 2, []) := by kernel_rfl
theorem df_6 : pieceT [2, 5, 8, 10] [8, 10] [1] [false, true, true, true, false] (dfR [.code (cd Tryz.f9)] (dfS s b c vs nv a r t1 t2 sl nl sr nr)) = some ([!alw b c, (!enoB s b c) == false, ((nv : Int) != c) == false, ((nl : Int) != iw (b * c)) == false, (nr : Int) != iw (b * c)], dfK, dfT b c vs nv (0 : Nat)) := by kernel_rfl
theorem df_7 : pieceT [2, 5, 8, 10] [8, 10] [0] [true, true, true, true, false] (dfR dfK (dfT b c vs nv i)) = some ([decide ((i : Int) < nv), decide (b < 64) == true, decide (0 <= (i : Int) /\ (i : Int) < nv), decide (0 <= b), decide (opV vs i >= topW b)], dfK, dfT b c vs nv (iw ((i : Int) + 1))) := by kernel_rfl
theorem df_8 : endT Tryz.prog Tryz.f9 [] [true, true, true, true, true] (dfR dfK (dfT b c vs nv i)) = some ([decide ((i : Int) < nv), decide (b < 64) == true, decide (0 <= (i : Int) /\ (i : Int) < nv), decide (0 <= b), decide (opV vs i >= topW b)], fiE 131, []) := by kernel_rfl
theorem df_9 : pieceT [2, 5, 8, 10] [8, 10] [0] [true, false] (dfR dfK (dfT b c vs nv i)) = some ([decide ((i : Int) < nv), decide (b < 64) == true], dfK, dfT b c vs nv (iw ((i : Int) + 1))) := by kernel_rfl
theorem df_10 : endT Tryz.prog Tryz.f9 [] [false] (dfR dfK (dfT b c vs nv i)) = some ([decide ((i : Int) < nv)], fiE 0, []) := by kernel_rfl
end
abbrev RD (k : List Item) (s : St) (x : Int) : Prop := Runs Tryz.prog M5 Tryz.f9 0 k s (.one (.c (.int false .i64 x))) []
theorem RD.end {k : List Item} {s : St} {x : Int} (h : Runs Tryz.prog M5 Tryz.f9 0 k s (fiE x) []) : RD k s x := Runs.weak (v := fiE x) (fun _ _ h => h) h
theorem df_loop {b c : Int} {vs : OpT} {nv : Nat} (hb : 0 <= b) (hn : nv <= 1048576) : ∀ d i, i + d = nv -> allOk b vs i = true -> RD dfK (dfT b c vs nv i) (if allOk b vs nv = true then 0 else 131)
 | 0, i, hi, ha => by
  obtain rfl : i = nv := by omega
  rw [if_pos ha];have h := df_10 b c vs i i
  rw [decide_eq_false (by omega)] at h
  exact RD.end (Runs.last okM5 mx h rfl (by rfl))
 | d + 1, i, hi, ha => by
  by_cases h64 : b < 64
  ·have et : topW b = topV b := by unfold topV topW; rw [if_neg (by omega)]
   by_cases ht : opV vs i >= topV b
   ·have h := df_8 b c vs nv i
    rw [et, decide_eq_true ht, decide_eq_true h64, decide_eq_true hb, decide_eq_true (by omega), decide_eq_true (by omega)] at h
    have hf : allOk b vs (i + 1) = false := by
     show (_ && opOk b (opV vs i)) = false
     rw [opOk, decide_eq_true ht, decide_eq_true h64, Bool.and_true];exact Bool.and_false _
    have hf2 := allOk_false hf d
    rw [show i + 1 + d = nv by omega] at hf2
    rw [hf2, if_neg (by decide)]
    exact RD.end (Runs.last okM5 mx h rfl (by rfl))
   ·have h := df_7 b c vs nv i
    rw [et, decide_eq_false ht, decide_eq_true h64, decide_eq_true hb, decide_eq_true (by omega), decide_eq_true (by omega), iwk (by omega)] at h
    refine Runs.piece okM5 mx h rfl (by rfl) (df_loop hb hn d (i + 1) (by omega) ?_)
    show (_ && opOk b (opV vs i)) = true
    rw [ha, opOk, decide_eq_false ht, Bool.and_false]; rfl
  ·have h := df_9 b c vs nv i
   rw [decide_eq_false h64, decide_eq_true (by omega), iwk (by omega)] at h
   refine Runs.piece okM5 mx h rfl (by rfl) (df_loop hb hn d (i + 1) (by omega) ?_)
   show (_ && opOk b (opV vs i)) = true
   rw [ha, opOk, decide_eq_false h64, Bool.false_and]; rfl
theorem df_runs (s : DsA) (b c : Int) (vs : OpT) (nv : Nat) (a r t1 t2 : List Int) (sl : List (List Int)) (nl : Nat) (sr : List (List Int)) (nr : Nat) : RD [.code (cd Tryz.f9)] (dfS s b c vs nv a r t1 t2 sl nl sr nr) (fitE s.ng s.nh b c vs nv nl nr) := by
 unfold fitE;cases ha : alw b c with
 | false =>
  rw [if_pos rfl];have h := df_1 s b c vs nv a r t1 t2 sl nl sr nr
  rw [ha] at h;exact RD.end (Runs.last okM5 mx h rfl (by rfl))
 | true =>
 rw [if_neg (by decide)]
 obtain ⟨hb, hc⟩ := alw_of ha;by_cases h1 : (s.ng : Int) < iw (b * c) \/ (s.nh : Int) < iw (b * c)
 ·rw [if_pos (h1.elim .inl fun q => .inr (.inl q))]
  have he : enoB s b c = false := by
   unfold enoB;rcases h1 with h1 | h1
   ·rw [decide_eq_false (by omega), Bool.false_and]
   ·rw [decide_eq_false (show ¬ (s.nh : Int) >= iw (b * c) by omega), Bool.and_false]
  have h := df_2 s b c vs nv a r t1 t2 sl nl sr nr
  rw [ha, he] at h;exact RD.end (Runs.last okM5 mx h rfl (by rfl))
 have h1a : ¬ (s.ng : Int) < iw (b * c) := fun q => h1 (.inl q)
 have h1b : ¬ (s.nh : Int) < iw (b * c) := fun q => h1 (.inr q)
 have he : enoB s b c = true := by
  unfold enoB;rw [decide_eq_true (by omega), decide_eq_true (by omega)]; rfl
 by_cases h3 : (nv : Int) ≠ c
 ·rw [if_pos (.inr (.inr (.inl h3)))];have h := df_3 s b c vs nv a r t1 t2 sl nl sr nr
  rw [ha, he, bneq h3] at h;exact RD.end (Runs.last okM5 mx h rfl (by rfl))
 have h3' : (nv : Int) = c := Decidable.not_not.1 h3
 by_cases h4 : (nl : Int) ≠ iw (b * c)
 ·rw [if_pos (.inr (.inr (.inr (.inl h4))))];have h := df_4 s b c vs nv a r t1 t2 sl nl sr nr
  rw [ha, he, bneq' h3', bneq h4] at h;exact RD.end (Runs.last okM5 mx h rfl (by rfl))
 have h4' : (nl : Int) = iw (b * c) := Decidable.not_not.1 h4
 by_cases h5 : (nr : Int) ≠ iw (b * c)
 ·rw [if_pos (.inr (.inr (.inr (.inr h5))))];have h := df_5 s b c vs nv a r t1 t2 sl nl sr nr
  rw [ha, he, bneq' h3', bneq' h4', bneq h5] at h;exact RD.end (Runs.last okM5 mx h rfl (by rfl))
 rw [if_neg (by rintro (h | h | h | h | h) <;> contradiction)]
 have h5' : (nr : Int) = iw (b * c) := Decidable.not_not.1 h5
 have h := df_6 s b c vs nv a r t1 t2 sl nl sr nr
 rw [ha, he, bneq' h3', bneq' h4', bneq' h5'] at h;exact Runs.piece okM5 mx h rfl (by rfl) (df_loop (by omega) (by omega) nv 0 (by omega) rfl)
def TdFits (vs : List V1) (hl : Heap) : Tree (SV × Heap) :=
 match vs, hl with
 | [u, .g [.c (.int _ .i64 b), .c (.int _ .i64 c)], .c (.ro (.pair (.int .u64) (.pair (.ws .u64 4) .unit)) vs nv), .g [.ws .u64 4 _, .ws .u64 4 _, .ws .u64 4 _, .ws .u64 4 _, .c (.ro (.ws .u64 4) _ nl), .c (.ro (.ws .u64 4) _ nr)]], [] => match dSetArg u with
  | some s => .ret (.one (.c (.int false .i64 (fitE s.ng s.nh b c vs nv nl nr))), [])
  | none => .fail
 | _, _ => .fail
theorem ok_dFits : EntryOk Tryz.prog G0 9 TdFits := by
 refine EntryOk.unlitRuns (S := M5) (fn := Tryz.f9) (c := cd Tryz.f9) (by kernel_rfl) (by kernel_rfl) (by kernel_rfl) (fun vs hl res hl' ok h => ?_)
 unfold TdFits at h;split at h
 ·rename_i u l1 b l2 c vs nv a r t1 t2 sl nl sr nr;split at h
  ·rename_i s e;obtain ⟨rfl, rfl⟩ := Prod.mk.inj (val_ret h);rw [List.map_cons, dSetArg_eq e];exact df_runs s b c vs nv a r t1 t2 sl nl sr nr
  ·cases h
 ·cases h
noncomputable def M6 : Tab := M5.put 9 0 TdFits
theorem okM6 : SpecOk Tryz.prog M6 := okM5.put ok_dFits
noncomputable def dwR (k : List Item) (s : St) : Tree Out := runK M6 Tryz.prog noLoops 400 k s
structure WhA where
 s : DsA
 b : Int
 c : Int
 vs : OpT
 nv : Nat
 a : List Int
 r : List Int
 t1 : List Int
 t2 : List Int
 sl : List (List Int)
 nl : Nat
 sr : List (List Int)
 nr : Nat
 y : List Int
 z : List Int
 x : List Int
def wh0 : WhA := ⟨ds0, 0, 0, [], 0, [], [], [], [], [], 0, [], 0, [], [], []⟩
noncomputable def dwS (w : WhA) : St := ⟨enterT Tryz.f17 [.g (dSet w.s), pr w.b w.c, .c (.ro OP w.vs w.nv), .g (tapeF w.a w.r w.t1 w.t2 w.sl w.nl w.sr w.nr), ws w.y, ws w.z, ws w.x], []⟩
noncomputable def dwK : List Item := leftT [] (dwR [.code (cd Tryz.f17)] (dwS wh0))
def e0F : List FCell := [.c (.int true .i64 0), .ws .i64 10 z10, .ws .i64 10 z10, .ws .u64 4 zL, .c .nils]
def dView : Blk := .vals (e0F ++ e0F ++ e0F ++ e0F ++ [.ws .u64 4 zL, .ws .u64 4 zL, .ws .u64 4 zL, .ws .u64 4 zL, .ws .u64 4 zL, .ws .u64 4 zL, .c .nils, .c .nils])
def one4 : List Int := [1, 0, 0, 0]
def dwHp (w : WhA) : Heap := [.vals (dSet w.s), .vals [.c (.int false .i64 w.b), .c (.int false .i64 w.c)], .vals (tapeF w.a w.r w.t1 w.t2 w.sl w.nl w.sr w.nr), .vals [.ws .u64 4 w.y], .vals [.ws .u64 4 w.z], .vals [.ws .u64 4 w.x], dView, .vals [.ws .u64 4 one4]]
def dwSl (w : WhA) : List (Nat × SV) := [(2, one (.ro OP w.vs w.nv)), (7, pt 0), (8, pt 1), (10, pt 2), (11, pt 3), (12, pt 4), (13, pt 5), (14, one .nils), (15, pt 6), (17, pt 7)]
noncomputable def dwT (w : WhA) (n : Int) (i : Int) : St :=
 ⟨slotsOf 237 (dwSl w ++ [(16, one (.int false .i64 n)), (18, one .nils), (19, one .nils), (20, one .nils), (21, one .nils), (22, one .nils), (23, one .nils), (24, one .nils), (25, one .nils), (26, one (.int false .i64 i))]), dwHp w⟩
structure LsA where
 al : List (List Int)
 ar : List (List Int)
 l0 : List (List Int)
 l1 : List (List Int)
 r0 : List (List Int)
 r1 : List (List Int)
 l : List (List Int)
 r : List (List Int)
noncomputable def dwW (w : WhA) (n : Int) (k : Nat) (L : LsA) (i : Int) : St :=
 ⟨slotsOf 237 (dwSl w ++ [(16, one (.int false .i64 n)), (18, one (.sl 8 0 k)), (19, one (.sl 9 0 k)), (20, one (.sl 10 0 k)), (21, one (.sl 11 0 k)), (22, one (.sl 12 0 k)), (23, one (.sl 13 0 k)), (24, one (.sl 14 0 k)), (25, one (.sl 15 0 k)), (26, one (.int false .i64 i))]),
  dwHp w ++ [.arr WS L.al 0 [], .arr WS L.ar 0 [], .arr WS L.l0 0 [], .arr WS L.l1 0 [], .arr WS L.r0 0 [], .arr WS L.r1 0 [], .arr WS L.l 0 [], .arr WS L.r 0 []]⟩
def kpW : List Nat := [2, 7, 8, 10, 11, 12, 13, 14, 15, 16, 17, 18, 19, 20, 21, 22, 23, 24, 25, 26]
def waE (w : WhA) (i : Nat) : List Int := [rawBt w.vs w.b i, 0, 0, 0]
def wbE (w : WhA) (i : Nat) : List Int := limbs ((val (waE w i) - val one4) % ell)
def wyE (w : WhA) (i : Nat) : List Int := limbs (val w.y ^ i % ell)
def wl0 (w : WhA) (i : Nat) : List Int := limbs ((val (waE w i) - val w.z) % ell)
def wl1 (w : WhA) (i : Nat) : List Int := w.sl.getD i zL
def wp1 (w : WhA) (i : Nat) : List Int := limbs (val (wyE w i) * val (limbs ((val (wbE w i) + val w.z) % ell)) % ell)
def wwE (w : WhA) (i : Nat) : List Int := limbs (val w.z ^ (wgN w.b i).toNat % ell)
def wp2 (w : WhA) (i : Nat) : List Int := limbs (val (wwE w i) * val [pwV w.b i, 0, 0, 0] % ell)
def wr0 (w : WhA) (i : Nat) : List Int := limbs ((val (wp1 w i) + val (wp2 w i)) % ell)
def wr1 (w : WhA) (i : Nat) : List Int := limbs (val (wyE w i) * val (w.sr.getD i zL) % ell)
def wmE (w : WhA) (p q : List Int) : List Int := limbs ((val p + val (limbs (val q * val w.x % ell))) % ell)
def wcE (w : WhA) (p q : List Int) : Bool := decide (val p < ell /\ val (limbs (val q * val w.x % ell)) < ell)
section
variable (w : WhA) (n : Int) (k i : Nat) (L : LsA)
theorem dw_a : pieceT kpW [26] (List.range 8) [] (dwR [.code (cd Tryz.f17)] (dwS w)) = some ([], dwK, dwT w (iw (w.b * w.c)) (0 : Nat)) := by kernel_rfl
noncomputable def dwC0 (w : WhA) (n : Int) : List Bool := [decide (((0 : Nat) : Int) < n), bitC w.b (0 : Nat) w.nv, decide (val (waE w 0) < ell /\ val one4 < ell), true, true, decide (0 <= ((0 : Nat) : Int)), decide (val (waE w 0) < ell /\ val w.z < ell), true, decide (0 <= ((0 : Nat) : Int) /\ ((0 : Nat) : Int) < w.nl), true,
 decide (val (wbE w 0) < ell /\ val w.z < ell), decide (w.b ≠ 0) && decide (0 <= wgN w.b (0 : Nat)), decide (w.b ≠ 0) && decide (0 <= ((0 : Nat) : Int).tmod w.b), decide (val (wp1 w 0) < ell /\ val (wp2 w 0) < ell), true, decide (0 <= ((0 : Nat) : Int) /\ ((0 : Nat) : Int) < w.nr), true,
 true, true, wcE w (wl0 w 0) (wl1 w 0), true, true, true, wcE w (wr0 w 0) (wr1 w 0), true]
theorem dw_b0 : pieceT kpW [26] [0, 1, 2, 3, 4, 5, 6, 7, 11, 13, 16, 18, 20, 22, 24, 26] (List.replicate 25 true) (dwR dwK (dwT w n (0 : Nat))) =
  some (dwC0 w n, dwK, dwW w n 1 ⟨[waE w 0], [wbE w 0], [wl0 w 0], [wl1 w 0], [wr0 w 0], [wr1 w 0], [wmE w (wl0 w 0) (wl1 w 0)], [wmE w (wr0 w 0) (wr1 w 0)]⟩ (1 : Nat)) := by kernel_rfl
noncomputable def dwCa (k : Nat) (xs : List (List Int)) : Bool := decide (k = xs.length) && roomW (k + 1)
noncomputable def dwC (w : WhA) (n : Int) (k i : Nat) (L : LsA) : List Bool := [decide ((i : Int) < n), bitC w.b i w.nv, decide (val (waE w i) < ell /\ val one4 < ell), dwCa k L.al, dwCa k L.ar, decide (0 <= (i : Int)), decide (val (waE w i) < ell /\ val w.z < ell), dwCa k L.l0, decide (0 <= (i : Int) /\ (i : Int) < w.nl), dwCa k L.l1,
 decide (val (wbE w i) < ell /\ val w.z < ell), decide (w.b ≠ 0) && decide (0 <= wgN w.b i), decide (w.b ≠ 0) && decide (0 <= (i : Int).tmod w.b), decide (val (wp1 w i) < ell /\ val (wp2 w i) < ell), dwCa k L.r0, decide (0 <= (i : Int) /\ (i : Int) < w.nr), dwCa k L.r1,
 decide (0 <= (i : Int) /\ (i : Int) < (k + 1 : Nat)), decide (0 <= (i : Int) /\ (i : Int) < (k + 1 : Nat)), wcE w ((L.l0 ++ [wl0 w i]).getD (0 + i) zL) ((L.l1 ++ [wl1 w i]).getD (0 + i) zL), dwCa k L.l, decide (0 <= (i : Int) /\ (i : Int) < (k + 1 : Nat)), decide (0 <= (i : Int) /\ (i : Int) < (k + 1 : Nat)), wcE w ((L.r0 ++ [wr0 w i]).getD (0 + i) zL) ((L.r1 ++ [wr1 w i]).getD (0 + i) zL), dwCa k L.r]
theorem dw_b : pieceT kpW [26] [0, 1, 2, 3, 4, 5, 6, 7, 19, 21, 24, 26, 28, 30, 32, 34] (List.replicate 25 true) (dwR dwK (dwW w n k L i)) =
  some (dwC w n k i L, dwK, dwW w n (k + 1) ⟨L.al ++ [waE w i], L.ar ++ [wbE w i], L.l0 ++ [wl0 w i], L.l1 ++ [wl1 w i], L.r0 ++ [wr0 w i], L.r1 ++ [wr1 w i], L.l ++ [wmE w ((L.l0 ++ [wl0 w i]).getD (0 + i) zL) ((L.l1 ++ [wl1 w i]).getD (0 + i) zL)], L.r ++ [wmE w ((L.r0 ++ [wr0 w i]).getD (0 + i) zL) ((L.r1 ++ [wr1 w i]).getD (0 + i) zL)]⟩ (iw ((i : Int) + 1))) := by kernel_rfl
end
end Go.Sc
