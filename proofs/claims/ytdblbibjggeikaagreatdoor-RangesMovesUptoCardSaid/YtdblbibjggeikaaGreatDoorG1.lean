/- The document's Whole as a contract; the law's small functions. -/
import Derived.Test.YtdblbibjggeikaaGreatDoorF8
set_option linter.unusedSectionVars false
set_option linter.unusedVariables false
set_option linter.unusedSimpArgs false
namespace Go.Sc
open Go Go.SX Go.Proofs
variable [Level] [Lone]
def TdWhole (vs : List V1) (hl : Heap) : Tree (SV × Heap) :=
 match vs, hl with
 | [u, .g [.c (.int _ .i64 b), .c (.int _ .i64 c)], .c (.ro (.pair (.int .u64) (.pair (.ws .u64 4) .unit)) vs nv), .g [.ws .u64 4 a, .ws .u64 4 r, .ws .u64 4 t1, .ws .u64 4 t2, .c (.ro (.ws .u64 4) sl nl), .c (.ro (.ws .u64 4) sr nr)], .g [.ws .u64 4 y], .g [.ws .u64 4 z], .g [.ws .u64 4 x]], [] => match dSetArg u with
  | some s => Tree.chk (whB ⟨s, b, c, vs, nv, a, r, t1, t2, sl, nl, sr, nr, y, z, x⟩) (.ret (whRes ⟨s, b, c, vs, nv, a, r, t1, t2, sl, nl, sr, nr, y, z, x⟩, whHeap ⟨s, b, c, vs, nv, a, r, t1, t2, sl, nl, sr, nr, y, z, x⟩))
  | none => .fail
 | _, _ => .fail
theorem wh_chk {w : WhA} {res : SV} {hl' : Heap} (h : (Tree.chk (whB w) (.ret (whRes w, whHeap w))).val = some (res, hl')) : RW [.code (cd Tryz.f17)] (dwS w) res hl' := by
 obtain ⟨h1, h2⟩ := val_chk h;obtain ⟨rfl, rfl⟩ := Prod.mk.inj (val_ret h2);exact wh_runs (whOk_of h1)
theorem ok_dWhole : EntryOk Tryz.prog G0 17 TdWhole := by
 refine EntryOk.unlitRuns (S := M6) (fn := Tryz.f17) (c := cd Tryz.f17) (by kernel_rfl) (by kernel_rfl) (by kernel_rfl) (fun vs hl res hl' ok h => ?_)
 unfold TdWhole at h;split at h
 ·rename_i u l1 b l2 c vs nv a r t1 t2 sl nl sr nr y z x;split at h
  ·rename_i s e;rw [List.map_cons, dSetArg_eq e];exact wh_chk h
  ·cases h
 ·cases h
noncomputable def M7 : Tab := M6.put 17 3 TdWhole
theorem okM7 : SpecOk Tryz.prog M7 := okM6.put ok_dWhole
theorem num_a (xs : List Int) : (bodyT M7 Tryz.prog allLoops Tryz.f20 (cd Tryz.f20) [ws xs] []).path [] = some ([], .one (ws (limbs (val xs % ell))), []) := by kernel_rfl
theorem ok_lnum : EntryOk Tryz.prog G0 20 TLeast := by
 refine EntryOk.sub (bodyT_ok okM7 mx (un := allLoops) (fn := Tryz.f20) (c := cd Tryz.f20) (by kernel_rfl) (by kernel_rfl) (by kernel_rfl)) (fun vs hl r ok h => ?_)
 unfold TLeast at h;split at h
 ·rename_i xs;obtain rfl := val_ret h;exact Tree.path_val (num_a xs)
 ·cases h
theorem num7_a (xs : List Int) : (bodyT M7 Tryz.prog allLoops Tryz.f108 (cd Tryz.f108) [ws xs] []).path [] = some ([], .one (ws (limbs (val xs % ell))), []) := by kernel_rfl
theorem ok_lnum7 : EntryOk Tryz.prog G0 108 TLeast := by
 refine EntryOk.sub (bodyT_ok okM7 mx (un := allLoops) (fn := Tryz.f108) (c := cd Tryz.f108) (by kernel_rfl) (by kernel_rfl) (by kernel_rfl)) (fun vs hl r ok h => ?_)
 unfold TLeast at h;split at h
 ·rename_i xs;obtain rfl := val_ret h;exact Tree.path_val (num7_a xs)
 ·cases h
noncomputable def M8 : Tab := (M7.put 20 0 TLeast).put 108 0 TLeast
theorem okM8 : SpecOk Tryz.prog M8 := (okM7.put ok_lnum).put ok_lnum7
def leL (x : List Int) : List Int := limbs (val x % ell)
theorem ofLine_a (k : List Int) : (bodyT M8 Tryz.prog allLoops Tryz.f44 (cd Tryz.f44) [ws k] []).path [] = some ([], .one (eV (leL k)), []) := by kernel_rfl
def TOfLine (vs : List V1) (hl : Heap) : Tree (SV × Heap) :=
 match vs, hl with
 | [.g [.ws .u64 4 k]], [] => .ret (.one (eV (leL k)), [])
 | _, _ => .fail
theorem ok_lOfLine : EntryOk Tryz.prog G0 44 TOfLine := by
 refine EntryOk.sub (bodyT_ok okM8 mx (un := allLoops) (fn := Tryz.f44) (c := cd Tryz.f44) (by kernel_rfl) (by kernel_rfl) (by kernel_rfl)) (fun vs hl r ok h => ?_)
 unfold TOfLine at h;split at h
 ·rename_i k;obtain rfl := val_ret h;exact Tree.path_val (ofLine_a k)
 ·cases h
noncomputable def M9 : Tab := M8.put 44 0 TOfLine
theorem okM9 : SpecOk Tryz.prog M9 := okM8.put ok_lOfLine
noncomputable def mqR (k : List Item) (s : St) : Tree Out := runK M9 Tryz.prog noLoops 400 k s
def mqnE (xs : List WS.den) (i : Nat) : WS.den := leL (xs.getD i zL)
noncomputable def mqnS (xs : List WS.den) (n : Nat) : St := ⟨enterT Tryz.f55 [.c (.ro WS xs n)], []⟩
noncomputable def mqnK : List Item := leftT [] (mqR [.code (cd Tryz.f55)] (mqnS [] 0))
noncomputable def mqnT0 (xs : List WS.den) (n : Nat) (i : Int) : St := ⟨slotsOf 20 [(0, one (.ro WS xs n)), (3, one .nils), (4, one (.int false .i64 i))], []⟩
noncomputable def mqnT (xs : List WS.den) (n m : Nat) (V : List WS.den) (i : Int) : St := ⟨slotsOf 20 [(0, one (.ro WS xs n)), (3, one (.sl 0 0 m)), (4, one (.int false .i64 i))], [.arr WS V 0 []]⟩
theorem mqn_a (xs : List WS.den) (n : Nat) : pieceT [0, 3, 4] [4] [] [] (mqR [.code (cd Tryz.f55)] (mqnS xs n)) = some ([], mqnK, mqnT0 xs n (0 : Nat)) := by kernel_rfl
theorem mqn_n (xs : List WS.den) (n : Nat) (i : Int) : (⟨setT (mqnT0 xs n i).t 3 (ownS (mqnT0 xs n i).h.length (getT (mqnT0 xs n i).t 3)).1, (mqnT0 xs n i).h ++ List.replicate ((ownS (mqnT0 xs n i).h.length (getT (mqnT0 xs n i).t 3)).2 - (mqnT0 xs n i).h.length) (.arr WS [] 0 [])⟩ : St) = mqnT xs n 0 [] i := by kernel_rfl
theorem mqn_b (xs : List WS.den) (n m : Nat) (V : List WS.den) (i : Nat) : pieceT [0, 3, 4] [4] [2] [true, true, true] (mqR mqnK (mqnT xs n m V i)) =
  some ([decide ((i : Int) < n), decide (0 <= (i : Int) /\ (i : Int) < n), decide (m = V.length) && (SX.room (m + 1) (Tryz.prog.bytesOf 45) && SX.room (m + 1) 1)], mqnK, mqnT xs n (m + 1) (V ++ ([mqnE xs i] : List WS.den)) (iw ((i : Int) + 1))) := by kernel_rfl
theorem mqn_c (xs : List WS.den) (n m : Nat) (V : List WS.den) (i : Nat) : endT Tryz.prog Tryz.f55 [0] [false] (mqR mqnK (mqnT xs n m V i)) = some ([decide ((i : Int) < n)], .one (.c (.sl 0 0 m)), [.arr WS V 0 []]) := by kernel_rfl
def mqnL (xs : List WS.den) (n : Nat) : List WS.den := (List.range n).map (mqnE xs)
theorem mqn_runs {xs : List WS.den} {n : Nat} (hn : n <= 1048576) : Runs Tryz.prog M9 Tryz.f55 0 [.code (cd Tryz.f55)] (mqnS xs n) (.one (.c (.sl 0 0 n))) [.arr WS (mqnL xs n) 0 []] := by
 refine Runs.piece okM9 mx (mqn_a xs n) rfl (by rfl) ?_
 refine Runs.nilSlot 3 WS (by decide) ?_
 rw [mqn_n];refine loopG (st := fun k (a : List WS.den) => mqnT xs n k a k) (I := fun k a => a = mqnL xs k) (n := n) (fun k a hk hI => ?_) (fun a hI => ?_) n 0 [] (by omega) rfl
 ·subst hI;have h := mqn_b xs n k (mqnL xs k) k
  rw [decide_eq_true (show (k : Int) < n by omega), decide_eq_true (show 0 <= (k : Int) /\ (k : Int) < n by omega), decide_eq_true (show k = (mqnL xs k).length from (map_range_len (α := WS.den) (mqnE xs) k).symm), show Tryz.prog.bytesOf 45 = 32 from by kernel_rfl, room_ok (show (k + 1) * 32 <= 140737488355328 by omega), room_ok (show (k + 1) * 1 <= 140737488355328 by omega), iwk (by omega)] at h
  exact ⟨_, map_range_snoc (α := WS.den) (mqnE xs) k, fun hr => Runs.piece okM9 mx h rfl (by rfl) hr⟩
 ·subst hI;exact Runs.last okM9 mx (mqn_c xs n n _ n) (by rw [decide_eq_false (by omega)]) (by rfl)
def Tmqn (vs : List V1) (hl : Heap) : Tree (SV × Heap) :=
 match vs, hl with
 | [.c (.ro (.ws .u64 4) xs n)], [] => Tree.chk (decide (n <= 1048576)) (.ret (.one (.c (.sl 0 0 n)), [.arr WS (mqnL xs n) 0 []]))
 | _, _ => .fail
theorem ok_lnums : EntryOk Tryz.prog G0 55 Tmqn := by
 refine EntryOk.runs (S := M9) (fn := Tryz.f55) (c := cd Tryz.f55) (by kernel_rfl) (by kernel_rfl) (by kernel_rfl) (fun vs hl res hl' ok h => ?_)
 unfold Tmqn at h;split at h
 ·rename_i xs n;obtain ⟨h1, h2⟩ := val_chk h;obtain ⟨rfl, rfl⟩ := Prod.mk.inj (val_ret h2);exact mqn_runs (of_decide_eq_true h1)
 ·cases h
def mqlE (xs : List WS.den) (i : Nat) : PL.den := (xs.getD i zL, ())
noncomputable def mqlS (xs : List WS.den) (n : Nat) : St := ⟨enterT Tryz.f43 [.c (.ro WS xs n)], []⟩
noncomputable def mqlK : List Item := leftT [] (mqR [.code (cd Tryz.f43)] (mqlS [] 0))
noncomputable def mqlT0 (xs : List WS.den) (n : Nat) (i : Int) : St := ⟨slotsOf 20 [(0, one (.ro WS xs n)), (3, one .nils), (4, one (.int false .i64 i))], []⟩
noncomputable def mqlT (xs : List WS.den) (n m : Nat) (V : List PL.den) (i : Int) : St := ⟨slotsOf 20 [(0, one (.ro WS xs n)), (3, one (.sl 0 0 m)), (4, one (.int false .i64 i))], [.arr PL V 0 []]⟩
theorem mql_a (xs : List WS.den) (n : Nat) : pieceT [0, 3, 4] [4] [] [] (mqR [.code (cd Tryz.f43)] (mqlS xs n)) = some ([], mqlK, mqlT0 xs n (0 : Nat)) := by kernel_rfl
theorem mql_n (xs : List WS.den) (n : Nat) (i : Int) : (⟨setT (mqlT0 xs n i).t 3 (ownS (mqlT0 xs n i).h.length (getT (mqlT0 xs n i).t 3)).1, (mqlT0 xs n i).h ++ List.replicate ((ownS (mqlT0 xs n i).h.length (getT (mqlT0 xs n i).t 3)).2 - (mqlT0 xs n i).h.length) (.arr PL [] 0 [])⟩ : St) = mqlT xs n 0 [] i := by kernel_rfl
theorem mql_b (xs : List WS.den) (n m : Nat) (V : List PL.den) (i : Nat) : pieceT [0, 3, 4] [4] [2] [true, true, true] (mqR mqlK (mqlT xs n m V i)) =
  some ([decide ((i : Int) < n), decide (0 <= (i : Int) /\ (i : Int) < n), decide (m = V.length) && (SX.room (m + 1) (Tryz.prog.bytesOf 35) && SX.room (m + 1) 1)], mqlK, mqlT xs n (m + 1) (V ++ ([mqlE xs i] : List PL.den)) (iw ((i : Int) + 1))) := by kernel_rfl
theorem mql_c (xs : List WS.den) (n m : Nat) (V : List PL.den) (i : Nat) : endT Tryz.prog Tryz.f43 [0] [false] (mqR mqlK (mqlT xs n m V i)) = some ([decide ((i : Int) < n)], .one (.c (.sl 0 0 m)), [.arr PL V 0 []]) := by kernel_rfl
def mqlL (xs : List WS.den) (n : Nat) : List PL.den := (List.range n).map (mqlE xs)
theorem mql_runs {xs : List WS.den} {n : Nat} (hn : n <= 1048576) : Runs Tryz.prog M9 Tryz.f43 0 [.code (cd Tryz.f43)] (mqlS xs n) (.one (.c (.sl 0 0 n))) [.arr PL (mqlL xs n) 0 []] := by
 refine Runs.piece okM9 mx (mql_a xs n) rfl (by rfl) ?_
 refine Runs.nilSlot 3 PL (by decide) ?_
 rw [mql_n];refine loopG (st := fun k (a : List PL.den) => mqlT xs n k a k) (I := fun k a => a = mqlL xs k) (n := n) (fun k a hk hI => ?_) (fun a hI => ?_) n 0 [] (by omega) rfl
 ·subst hI;have h := mql_b xs n k (mqlL xs k) k
  rw [decide_eq_true (show (k : Int) < n by omega), decide_eq_true (show 0 <= (k : Int) /\ (k : Int) < n by omega), decide_eq_true (show k = (mqlL xs k).length from (map_range_len (α := PL.den) (mqlE xs) k).symm), show Tryz.prog.bytesOf 35 = 32 from by kernel_rfl, room_ok (show (k + 1) * 32 <= 140737488355328 by omega), room_ok (show (k + 1) * 1 <= 140737488355328 by omega), iwk (by omega)] at h
  exact ⟨_, map_range_snoc (α := PL.den) (mqlE xs) k, fun hr => Runs.piece okM9 mx h rfl (by rfl) hr⟩
 ·subst hI;exact Runs.last okM9 mx (mql_c xs n n _ n) (by rw [decide_eq_false (by omega)]) (by rfl)
def Tmql (vs : List V1) (hl : Heap) : Tree (SV × Heap) :=
 match vs, hl with
 | [.c (.ro (.ws .u64 4) xs n)], [] => Tree.chk (decide (n <= 1048576)) (.ret (.one (.c (.sl 0 0 n)), [.arr PL (mqlL xs n) 0 []]))
 | _, _ => .fail
theorem ok_llines : EntryOk Tryz.prog G0 43 Tmql := by
 refine EntryOk.runs (S := M9) (fn := Tryz.f43) (c := cd Tryz.f43) (by kernel_rfl) (by kernel_rfl) (by kernel_rfl) (fun vs hl res hl' ok h => ?_)
 unfold Tmql at h;split at h
 ·rename_i xs n;obtain ⟨h1, h2⟩ := val_chk h;obtain ⟨rfl, rfl⟩ := Prod.mk.inj (val_ret h2);exact mql_runs (of_decide_eq_true h1)
 ·cases h
def mqoE (xs : List PL.den) (i : Nat) : ED.den := edE (leL (gK xs i))
noncomputable def mqoS (xs : List PL.den) (n : Nat) : St := ⟨enterT Tryz.f45 [.c (.ro PL xs n)], []⟩
noncomputable def mqoK : List Item := leftT [] (mqR [.code (cd Tryz.f45)] (mqoS [] 0))
noncomputable def mqoT0 (xs : List PL.den) (n : Nat) (i : Int) : St := ⟨slotsOf 20 [(0, one (.ro PL xs n)), (3, one .nils), (4, one (.int false .i64 i))], []⟩
noncomputable def mqoT (xs : List PL.den) (n m : Nat) (V : List ED.den) (i : Int) : St := ⟨slotsOf 20 [(0, one (.ro PL xs n)), (3, one (.sl 0 0 m)), (4, one (.int false .i64 i))], [.arr ED V 0 []]⟩
theorem mqo_a (xs : List PL.den) (n : Nat) : pieceT [0, 3, 4] [4] [] [] (mqR [.code (cd Tryz.f45)] (mqoS xs n)) = some ([], mqoK, mqoT0 xs n (0 : Nat)) := by kernel_rfl
theorem mqo_n (xs : List PL.den) (n : Nat) (i : Int) : (⟨setT (mqoT0 xs n i).t 3 (ownS (mqoT0 xs n i).h.length (getT (mqoT0 xs n i).t 3)).1, (mqoT0 xs n i).h ++ List.replicate ((ownS (mqoT0 xs n i).h.length (getT (mqoT0 xs n i).t 3)).2 - (mqoT0 xs n i).h.length) (.arr ED [] 0 [])⟩ : St) = mqoT xs n 0 [] i := by kernel_rfl
theorem mqo_b (xs : List PL.den) (n m : Nat) (V : List ED.den) (i : Nat) : pieceT [0, 3, 4] [4] [2] [true, true, true] (mqR mqoK (mqoT xs n m V i)) =
  some ([decide ((i : Int) < n), decide (0 <= (i : Int) /\ (i : Int) < n), decide (m = V.length) && (SX.room (m + 1) (Tryz.prog.bytesOf 48) && SX.room (m + 1) 1)], mqoK, mqoT xs n (m + 1) (V ++ ([mqoE xs i] : List ED.den)) (iw ((i : Int) + 1))) := by kernel_rfl
theorem mqo_c (xs : List PL.den) (n m : Nat) (V : List ED.den) (i : Nat) : endT Tryz.prog Tryz.f45 [0] [false] (mqR mqoK (mqoT xs n m V i)) = some ([decide ((i : Int) < n)], .one (.c (.sl 0 0 m)), [.arr ED V 0 []]) := by kernel_rfl
def mqoL (xs : List PL.den) (n : Nat) : List ED.den := (List.range n).map (mqoE xs)
theorem mqo_runs {xs : List PL.den} {n : Nat} (hn : n <= 1048576) : Runs Tryz.prog M9 Tryz.f45 0 [.code (cd Tryz.f45)] (mqoS xs n) (.one (.c (.sl 0 0 n))) [.arr ED (mqoL xs n) 0 []] := by
 refine Runs.piece okM9 mx (mqo_a xs n) rfl (by rfl) ?_
 refine Runs.nilSlot 3 ED (by decide) ?_
 rw [mqo_n];refine loopG (st := fun k (a : List ED.den) => mqoT xs n k a k) (I := fun k a => a = mqoL xs k) (n := n) (fun k a hk hI => ?_) (fun a hI => ?_) n 0 [] (by omega) rfl
 ·subst hI;have h := mqo_b xs n k (mqoL xs k) k
  rw [decide_eq_true (show (k : Int) < n by omega), decide_eq_true (show 0 <= (k : Int) /\ (k : Int) < n by omega), decide_eq_true (show k = (mqoL xs k).length from (map_range_len (α := ED.den) (mqoE xs) k).symm), show Tryz.prog.bytesOf 48 = 224 from by kernel_rfl, room_ok (show (k + 1) * 224 <= 140737488355328 by omega), room_ok (show (k + 1) * 1 <= 140737488355328 by omega), iwk (by omega)] at h
  exact ⟨_, map_range_snoc (α := ED.den) (mqoE xs) k, fun hr => Runs.piece okM9 mx h rfl (by rfl) hr⟩
 ·subst hI;exact Runs.last okM9 mx (mqo_c xs n n _ n) (by rw [decide_eq_false (by omega)]) (by rfl)
def Tmqo (vs : List V1) (hl : Heap) : Tree (SV × Heap) :=
 match vs, hl with
 | [.c (.ro (.pair (.ws .u64 4) .unit) xs n)], [] => Tree.chk (decide (n <= 1048576)) (.ret (.one (.c (.sl 0 0 n)), [.arr ED (mqoL xs n) 0 []]))
 | _, _ => .fail
theorem ok_lofLines : EntryOk Tryz.prog G0 45 Tmqo := by
 refine EntryOk.runs (S := M9) (fn := Tryz.f45) (c := cd Tryz.f45) (by kernel_rfl) (by kernel_rfl) (by kernel_rfl) (fun vs hl res hl' ok h => ?_)
 unfold Tmqo at h;split at h
 ·rename_i xs n;obtain ⟨h1, h2⟩ := val_chk h;obtain ⟨rfl, rfl⟩ := Prod.mk.inj (val_ret h2);exact mqo_runs (of_decide_eq_true h1)
 ·cases h
def mqpE (xs : List OP.den) (i : Nat) : OP.den := (opV xs i, (leL (opB xs i), ()))
noncomputable def mqpS (xs : List OP.den) (n : Nat) : St := ⟨enterT Tryz.f10 [.c (.ro OP xs n)], []⟩
noncomputable def mqpK : List Item := leftT [] (mqR [.code (cd Tryz.f10)] (mqpS [] 0))
noncomputable def mqpT0 (xs : List OP.den) (n : Nat) (i : Int) : St := ⟨slotsOf 27 [(0, one (.ro OP xs n)), (3, one .nils), (4, one (.int false .i64 i))], []⟩
noncomputable def mqpT (xs : List OP.den) (n m : Nat) (V : List OP.den) (i : Int) : St := ⟨slotsOf 27 [(0, one (.ro OP xs n)), (3, one (.sl 0 0 m)), (4, one (.int false .i64 i))], [.arr OP V 0 []]⟩
theorem mqp_a (xs : List OP.den) (n : Nat) : pieceT [0, 3, 4] [4] [] [] (mqR [.code (cd Tryz.f10)] (mqpS xs n)) = some ([], mqpK, mqpT0 xs n (0 : Nat)) := by kernel_rfl
theorem mqp_n (xs : List OP.den) (n : Nat) (i : Int) : (⟨setT (mqpT0 xs n i).t 3 (ownS (mqpT0 xs n i).h.length (getT (mqpT0 xs n i).t 3)).1, (mqpT0 xs n i).h ++ List.replicate ((ownS (mqpT0 xs n i).h.length (getT (mqpT0 xs n i).t 3)).2 - (mqpT0 xs n i).h.length) (.arr OP [] 0 [])⟩ : St) = mqpT xs n 0 [] i := by kernel_rfl
theorem mqp_b (xs : List OP.den) (n m : Nat) (V : List OP.den) (i : Nat) : pieceT [0, 3, 4] [4] [2] [true, true, true, true] (mqR mqpK (mqpT xs n m V i)) =
  some ([decide ((i : Int) < n), decide (0 <= (i : Int) /\ (i : Int) < n), decide (0 <= (i : Int) /\ (i : Int) < n), decide (m = V.length) && (SX.room (m + 1) (Tryz.prog.bytesOf 103) && SX.room (m + 1) 1)], mqpK, mqpT xs n (m + 1) (V ++ ([mqpE xs i] : List OP.den)) (iw ((i : Int) + 1))) := by kernel_rfl
theorem mqp_c (xs : List OP.den) (n m : Nat) (V : List OP.den) (i : Nat) : endT Tryz.prog Tryz.f10 [0] [false] (mqR mqpK (mqpT xs n m V i)) = some ([decide ((i : Int) < n)], .one (.c (.sl 0 0 m)), [.arr OP V 0 []]) := by kernel_rfl
def mqpL (xs : List OP.den) (n : Nat) : List OP.den := (List.range n).map (mqpE xs)
theorem mqp_runs {xs : List OP.den} {n : Nat} (hn : n <= 1048576) : Runs Tryz.prog M9 Tryz.f10 0 [.code (cd Tryz.f10)] (mqpS xs n) (.one (.c (.sl 0 0 n))) [.arr OP (mqpL xs n) 0 []] := by
 refine Runs.piece okM9 mx (mqp_a xs n) rfl (by rfl) ?_
 refine Runs.nilSlot 3 OP (by decide) ?_
 rw [mqp_n];refine loopG (st := fun k (a : List OP.den) => mqpT xs n k a k) (I := fun k a => a = mqpL xs k) (n := n) (fun k a hk hI => ?_) (fun a hI => ?_) n 0 [] (by omega) rfl
 ·subst hI;have h := mqp_b xs n k (mqpL xs k) k
  rw [decide_eq_true (show (k : Int) < n by omega), decide_eq_true (show 0 <= (k : Int) /\ (k : Int) < n by omega), decide_eq_true (show k = (mqpL xs k).length from (map_range_len (α := OP.den) (mqpE xs) k).symm), show Tryz.prog.bytesOf 103 = 40 from by kernel_rfl, room_ok (show (k + 1) * 40 <= 140737488355328 by omega), room_ok (show (k + 1) * 1 <= 140737488355328 by omega), iwk (by omega)] at h
  exact ⟨_, map_range_snoc (α := OP.den) (mqpE xs) k, fun hr => Runs.piece okM9 mx h rfl (by rfl) hr⟩
 ·subst hI;exact Runs.last okM9 mx (mqp_c xs n n _ n) (by rw [decide_eq_false (by omega)]) (by rfl)
def Tmqp (vs : List V1) (hl : Heap) : Tree (SV × Heap) :=
 match vs, hl with
 | [.c (.ro (.pair (.int .u64) (.pair (.ws .u64 4) .unit)) xs n)], [] => Tree.chk (decide (n <= 1048576)) (.ret (.one (.c (.sl 0 0 n)), [.arr OP (mqpL xs n) 0 []]))
 | _, _ => .fail
theorem ok_lopenings : EntryOk Tryz.prog G0 10 Tmqp := by
 refine EntryOk.runs (S := M9) (fn := Tryz.f10) (c := cd Tryz.f10) (by kernel_rfl) (by kernel_rfl) (by kernel_rfl) (fun vs hl res hl' ok h => ?_)
 unfold Tmqp at h;split at h
 ·rename_i xs n;obtain ⟨h1, h2⟩ := val_chk h;obtain ⟨rfl, rfl⟩ := Prod.mk.inj (val_ret h2);exact mqp_runs (of_decide_eq_true h1)
 ·cases h
noncomputable def N1 : Tab := (((M9.put 55 1 Tmqn).put 43 1 Tmql).put 45 1 Tmqo).put 10 1 Tmqp
theorem okN1 : SpecOk Tryz.prog N1 := (((okM9.put ok_lnums).put ok_llines).put ok_lofLines).put ok_lopenings
end Go.Sc
