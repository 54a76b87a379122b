/- The law's stays. -/
import Derived.Test.YtdblbibjggeikaaGreatDoorG2
import Derived.Test.YtdblbibjggeikaaGreatDoorC3
set_option linter.unusedSectionVars false
set_option linter.unusedVariables false
set_option linter.unusedSimpArgs false
namespace Go.Sc
open Go Go.SX Go.Proofs
variable [Level] [Lone]
structure StA where
 sl : List (List Int)
 nl : Nat
 sr : List (List Int)
 nr : Nat
 a' : List Int
 r' : List Int
 t1' : List Int
 t2' : List Int
 sl' : List (List Int)
 nl' : Nat
 sr' : List (List Int)
 nr' : Nat
def st0A : StA := ⟨[], 0, [], 0, [], [], [], [], [], 0, [], 0⟩
noncomputable def styR (k : List Item) (s : St) : Tree Out := runK N4 Tryz.prog noLoops 400 k s
noncomputable def styS (a r t1 t2 : List Int) (s : StA) : St := ⟨enterT Tryz.f12 [.g (tapeF a r t1 t2 s.sl s.nl s.sr s.nr), .g (tapeF s.a' s.r' s.t1' s.t2' s.sl' s.nl' s.sr' s.nr')], []⟩
noncomputable def styK : List Item := leftT [true, true, true, true, true, false] (styR [.code (cd Tryz.f12)] (styS [] [] [] [] st0A))
def styN (n : Nat) : Nat := (iw ((n : Int) + 1)).toNat - 0
def styB (xs : List (List Int)) (n : Nat) : Bool := true && bndPos (some (one (.int false .i64 (iw ((n : Int) + 1))))) && decide (0 <= (iw ((n : Int) + 1)).toNat /\ (iw ((n : Int) + 1)).toNat <= xs.length)
noncomputable def styT (s : StA) (i : Int) : St := ⟨slotsOf 75 [(3, pt 0), (5, one (.ro WS s.sl (styN s.nl))), (6, one (.ro WS s.sr (styN s.nr))), (7, one (.int false .i64 i))], [.vals (tapeF s.a' s.r' s.t1' s.t2' s.sl' s.nl' s.sr' s.nr')]⟩
noncomputable def styK2 : List Item := leftT [false] (styR styK (styT st0A 0))
noncomputable def styU (s : StA) (i : Int) : St := ⟨slotsOf 75 [(3, pt 0), (5, one (.ro WS s.sl (styN s.nl))), (6, one (.ro WS s.sr (styN s.nr))), (8, one (.int false .i64 i))], [.vals (tapeF s.a' s.r' s.t1' s.t2' s.sl' s.nl' s.sr' s.nr')]⟩
section
variable (a r t1 t2 : List Int) (s : StA) (i : Nat)
theorem sty_a : pieceT [3, 5, 6, 7] [7] [1] [true, true, true, true, true, false] (styR [.code (cd Tryz.f12)] (styS a r t1 t2 s)) =
  some ([styB s.sl s.nl, styB s.sr s.nr, decide (0 <= (s.nl' : Int) /\ (s.nl' : Int) < (styN s.nl : Nat)), (!(s.sl.getD s.nl' zL == [77, 0, 0, 0] && true)) == false, decide (0 <= (s.nr' : Int) /\ (s.nr' : Int) < (styN s.nr : Nat)), !(s.sr.getD s.nr' zL == [78, 0, 0, 0] && true)], styK, styT s (0 : Nat)) := by kernel_rfl
theorem sty_b : pieceT [3, 5, 6, 7] [7] [0] [true, true, true, false] (styR styK (styT s i)) =
  some ([decide ((i : Int) < s.nl'), decide (0 <= (i : Int) /\ (i : Int) < (styN s.nl : Nat)), decide (0 <= (i : Int) /\ (i : Int) < s.nl'), !(s.sl.getD i zL == s.sl'.getD i zL && true)], styK, styT s (iw ((i : Int) + 1))) := by kernel_rfl
theorem sty_c : pieceT [3, 5, 6, 8] [8] [0] [false] (styR styK (styT s i)) = some ([decide ((i : Int) < s.nl')], styK2, styU s (0 : Nat)) := by kernel_rfl
theorem sty_d : pieceT [3, 5, 6, 8] [8] [0] [true, true, true, false] (styR styK2 (styU s i)) =
  some ([decide ((i : Int) < s.nr'), decide (0 <= (i : Int) /\ (i : Int) < (styN s.nr : Nat)), decide (0 <= (i : Int) /\ (i : Int) < s.nr'), !(s.sr.getD i zL == s.sr'.getD i zL && true)], styK2, styU s (iw ((i : Int) + 1))) := by kernel_rfl
theorem sty_e : endT Tryz.prog Tryz.f12 [] [false] (styR styK2 (styU s i)) = some ([decide ((i : Int) < s.nr')], .one (.c (.bool true true)), []) := by kernel_rfl
end
def eqN (xs ys : List (List Int)) : Nat -> Bool
 | 0 => true
 | k + 1 => eqN xs ys k && (xs.getD k zL == ys.getD k zL)
theorem eqN_of {xs ys : List (List Int)} : ∀ {n : Nat}, eqN xs ys n = true -> ∀ i, i < n -> (xs.getD i zL == ys.getD i zL) = true
 | 0, _ => fun i hi => absurd hi (Nat.not_lt_zero _)
 | n + 1, h => by
  rw [eqN, Bool.and_eq_true] at h;intro i hi;rcases Nat.lt_or_ge i n with hlt | hge
  ·exact eqN_of h.1 i hlt
  ·obtain rfl : i = n := by omega
   exact h.2
def styOk (s : StA) : Bool := decide ((s.nl' = s.nl /\ s.nr' = s.nr) /\ (s.nl <= 1048575 /\ s.nr <= 1048575) /\ s.nl + 1 <= s.sl.length /\ s.nr + 1 <= s.sr.length) && ((s.sl.getD s.nl' zL == [77, 0, 0, 0]) && (s.sr.getD s.nr' zL == [78, 0, 0, 0])) && (eqN s.sl s.sl' s.nl' && eqN s.sr s.sr' s.nr')
theorem styN_eq {n : Nat} (h : n <= 1048575) : styN n = n + 1 := by
 unfold styN iw;rw [IntKind.wrap_i64];omega
theorem styB_ok {xs : List (List Int)} {n : Nat} (h : n <= 1048575) (hx : n + 1 <= xs.length) : styB xs n = true := by
 have e : iw ((n : Int) + 1) = ((n + 1 : Nat) : Int) := iwk (by omega)
 unfold styB;rw [e, Int.toNat_natCast, decide_eq_true (show 0 <= n + 1 /\ n + 1 <= xs.length by omega)]
 show (true && decide (0 <= ((n + 1 : Nat) : Int)) && true) = true
 rw [decide_eq_true (by omega)]; rfl
theorem sty_runs {a r t1 t2 : List Int} {s : StA} (h : styOk s = true) : Runs Tryz.prog N4 Tryz.f12 0 [.code (cd Tryz.f12)] (styS a r t1 t2 s) (.one (.c (.bool true true))) [] := by
 unfold styOk at h;simp only [Bool.and_eq_true, decide_eq_true_eq] at h;obtain ⟨⟨⟨⟨g1, g2⟩, ⟨g3, g4⟩, g5, g6⟩, g7, g8⟩, g9, g10⟩ := h;have q := sty_a a r t1 t2 s
 rw [styB_ok g3 g5, styB_ok g4 g6, styN_eq g3, styN_eq g4, g7, g8, decide_eq_true (by omega), decide_eq_true (by omega)] at q
 refine Runs.piece okN4 mx q rfl (by rfl) ?_
 refine loopG (st := fun k (_ : Unit) => styT s k) (I := fun _ _ => True) (n := s.nl') (fun k _ hk _ => ⟨(), trivial, fun hr => ?_⟩) (fun _ _ => ?_) s.nl' 0 () (by omega) trivial
 ·have q := sty_b s k
  rw [styN_eq g3, eqN_of g9 k hk, decide_eq_true (show (k : Int) < s.nl' by omega), decide_eq_true (show 0 <= (k : Int) /\ (k : Int) < ((s.nl + 1 : Nat) : Int) by omega), decide_eq_true (show 0 <= (k : Int) /\ (k : Int) < s.nl' by omega), iwk (by omega)] at q
  exact Runs.piece okN4 mx q rfl (by rfl) hr
 have q := sty_c s s.nl'
 rw [decide_eq_false (by omega)] at q
 refine Runs.piece okN4 mx q rfl (by rfl) ?_
 refine loopG (st := fun k (_ : Unit) => styU s k) (I := fun _ _ => True) (n := s.nr') (fun k _ hk _ => ⟨(), trivial, fun hr => ?_⟩) (fun _ _ => ?_) s.nr' 0 () (by omega) trivial
 ·have q := sty_d s k
  rw [styN_eq g4, eqN_of g10 k hk, decide_eq_true (show (k : Int) < s.nr' by omega), decide_eq_true (show 0 <= (k : Int) /\ (k : Int) < ((s.nr + 1 : Nat) : Int) by omega), decide_eq_true (show 0 <= (k : Int) /\ (k : Int) < s.nr' by omega), iwk (by omega)] at q
  exact Runs.piece okN4 mx q rfl (by rfl) hr
 ·exact Runs.last okN4 mx (sty_e s s.nr') (by rw [decide_eq_false (by omega)]) (by rfl)
def Tlstays (vs : List V1) (hl : Heap) : Tree (SV × Heap) :=
 match vs, hl with
 | [.g [.ws .u64 4 _, .ws .u64 4 _, .ws .u64 4 _, .ws .u64 4 _, .c (.ro (.ws .u64 4) sl nl), .c (.ro (.ws .u64 4) sr nr)], .g [.ws .u64 4 a', .ws .u64 4 r', .ws .u64 4 t1', .ws .u64 4 t2', .c (.ro (.ws .u64 4) sl' nl'), .c (.ro (.ws .u64 4) sr' nr')]], [] =>
  Tree.chk (styOk ⟨sl, nl, sr, nr, a', r', t1', t2', sl', nl', sr', nr'⟩) (.ret (.one (.c (.bool false true)), []))
 | _, _ => .fail
theorem ok_lstays : EntryOk Tryz.prog G0 12 Tlstays := by
 refine EntryOk.runs (S := N4) (fn := Tryz.f12) (c := cd Tryz.f12) (by kernel_rfl) (by kernel_rfl) (by kernel_rfl) (fun vs hl res hl' ok h => ?_)
 unfold Tlstays at h;split at h
 ·rename_i a r t1 t2 sl nl sr nr a' r' t1' t2' sl' nl' sr' nr';obtain ⟨h1, h2⟩ := val_chk h;obtain ⟨rfl, rfl⟩ := Prod.mk.inj (val_ret h2);exact (sty_runs (a := a) (r := r) (t1 := t1) (t2 := t2) h1).resU
 ·cases h
noncomputable def N5 : Tab := N4.put 12 0 Tlstays
theorem okN5 : SpecOk Tryz.prog N5 := okN4.put ok_lstays
structure CsA where
 b : Int
 c : Int
 B : List Int
 D : List Int
 Q : List Int
 G : List (List Int)
 ng : Nat
 H : List (List Int)
 nh : Nat
 vs : OpT
 nv : Nat
 a : List Int
 r : List Int
 t1 : List Int
 t2 : List Int
 sl : List (List Int)
 nl : Nat
 sr : List (List Int)
 nr : Nat
 ch : List (List Int)
 nc : Nat
def cs0A : CsA := ⟨0, 0, [], [], [], [], 0, [], 0, [], 0, [], [], [], [], [], 0, [], 0, [], 0⟩
def csF (s : CsA) : List FCell := [.c (.int false .i64 s.b), .c (.int false .i64 s.c), .ws .u64 4 s.B, .ws .u64 4 s.D, .ws .u64 4 s.Q, .c (.ro WS s.G s.ng), .c (.ro WS s.H s.nh), .c (.ro OP s.vs s.nv)] ++ tapeF s.a s.r s.t1 s.t2 s.sl s.nl s.sr s.nr ++ [.c (.ro WS s.ch s.nc)]
noncomputable def seR (f : Nat) (k : List Item) (s : St) : Tree Out := runK N5 Tryz.prog noLoops f k s
noncomputable def seS (s : CsA) : St := ⟨enterT Tryz.f6 [.g (csF s)], []⟩
noncomputable def seK : List Item := leftT [true, true] (seR 4 [.code (cd Tryz.f6)] (seS cs0A))
def gz : Blk := .vals [.ws .u64 4 zL, .ws .u64 4 zL, .ws .u64 4 zL, .c .nils, .c .nils]
def dz : Blk := .vals ([.c (.int true .i64 0)] ++ e0F ++ e0F ++ e0F ++ [.c .nils, .c .nils])
def seF (s : CsA) (x y : Cell) : List FCell := [.ws .u64 4 s.B, .ws .u64 4 s.D, .ws .u64 4 s.Q, .c x, .c y]
noncomputable def seT (s : CsA) (g h : Blk) (x y : Cell) : St := ⟨slotsOf 40 [(2, pt 0), (3, pt 1), (4, pt 4)], [gz, dz, g, h, .vals (seF s x y)]⟩
theorem se_a (s : CsA) : pieceT [2, 3, 4] [] [1, 2, 3, 4, 5] [true, true] (seR 4 [.code (cd Tryz.f6)] (seS s)) =
  some ([decide (s.ng <= 1048576), decide (s.nh <= 1048576)], seK, seT s (.arr PL (mqlL s.G s.ng) 0 []) (.arr PL (mqlL s.H s.nh) 0 []) (.sl 2 0 s.ng) (.sl 3 0 s.nh)) := by kernel_rfl
def seG (s : CsA) : Cell := .ro PL (mqlL s.G s.ng) s.ng
def seH (s : CsA) : Cell := .ro PL (mqlL s.H s.nh) s.nh
def seW (s : CsA) : List (Nat × Blk) := [(3, .frz PL (mqlL s.H s.nh)), (2, .frz PL (mqlL s.G s.ng))]
theorem se_f (s : CsA) : freezeF (getB (seT s (.arr PL (mqlL s.G s.ng) 0 []) (.arr PL (mqlL s.H s.nh) 0 []) (.sl 2 0 s.ng) (.sl 3 0 s.nh)).h) (seF s (.sl 2 0 s.ng) (.sl 3 0 s.nh)) = some (seF s (seG s) (seH s), seW s) := by kernel_rfl
noncomputable abbrev seT2 (s : CsA) : St := seT s (.frz PL (mqlL s.G s.ng)) (.frz PL (mqlL s.H s.nh)) (seG s) (seH s)
theorem se_g (s : CsA) : (⟨(seT s (.arr PL (mqlL s.G s.ng) 0 []) (.arr PL (mqlL s.H s.nh) 0 []) (.sl 2 0 s.ng) (.sl 3 0 s.nh)).t, setB (setBs (seT s (.arr PL (mqlL s.G s.ng) 0 []) (.arr PL (mqlL s.H s.nh) 0 []) (.sl 2 0 s.ng) (.sl 3 0 s.nh)).h (seW s)) 4 (.vals (seF s (seG s) (seH s)))⟩ : St) = seT2 s := by kernel_rfl
def rgF (s : CsA) (x y : Cell) : List FCell := [.c (.int true .i64 2)] ++ eF true 2 z10 z10 (leL s.B) .nils ++ eF true 2 z10 z10 (leL s.D) .nils ++ eF true 2 z10 z10 (leL s.Q) .nils ++ [.c x, .c y]
theorem se_e (s : CsA) : endT Tryz.prog Tryz.f6 [5, 6] [true, true] (seR 400 seK (seT2 s)) =
  some ([decide (s.ng <= 1048576), decide (s.nh <= 1048576)], .tup [.g (seF s (seG s) (seH s)), .g (rgF s (.sl 0 0 s.ng) (.sl 1 0 s.nh))], [.arr ED (mqoL (mqlL s.G s.ng) s.ng) 0 [], .arr ED (mqoL (mqlL s.H s.nh) s.nh) 0 []]) := by kernel_rfl
def seRes (s : CsA) : SV := .tup [.g (seF s (seG s) (seH s)), .g (rgF s (.sl 0 0 s.ng) (.sl 1 0 s.nh))]
def seHeap (s : CsA) : Heap := [.arr ED (mqoL (mqlL s.G s.ng) s.ng) 0 [], .arr ED (mqoL (mqlL s.H s.nh) s.nh) 0 []]
theorem se_runs {s : CsA} (h1 : s.ng <= 1048576) (h2 : s.nh <= 1048576) : Runs Tryz.prog N5 Tryz.f6 0 [.code (cd Tryz.f6)] (seS s) (seRes s) (seHeap s) := by
 refine Runs.piece okN5 mx (se_a s) (by rw [decide_eq_true h1, decide_eq_true h2]) (by rfl) ?_
 refine Runs.lendVals 4 (fs := seF s (.sl 2 0 s.ng) (.sl 3 0 s.nh)) rfl (se_f s) rfl ?_
 rw [se_g];exact Runs.last okN5 mx (se_e s) (by rw [decide_eq_true h1, decide_eq_true h2]) (by rfl)
def pCs (v : V1) : Option CsA := match v with
 | .g [.c (.int _ .i64 b), .c (.int _ .i64 c), .ws .u64 4 B, .ws .u64 4 D, .ws .u64 4 Q, .c (.ro (.ws .u64 4) G ng), .c (.ro (.ws .u64 4) H nh), .c (.ro (.pair (.int .u64) (.pair (.ws .u64 4) .unit)) vs nv), .ws .u64 4 a, .ws .u64 4 r, .ws .u64 4 t1, .ws .u64 4 t2, .c (.ro (.ws .u64 4) sl nl), .c (.ro (.ws .u64 4) sr nr), .c (.ro (.ws .u64 4) ch nc)] =>
  some ⟨b, c, B, D, Q, G, ng, H, nh, vs, nv, a, r, t1, t2, sl, nl, sr, nr, ch, nc⟩
 | _ => none
theorem pCs_eq {v : V1} {s : CsA} (h : pCs v = some s) : unlG v = .g (csF s) := by
 unfold pCs at h;split at h
 ·obtain rfl := Option.some.inj h;rfl
 ·cases h
def Tlset (vs : List V1) (hl : Heap) : Tree (SV × Heap) :=
 match vs, hl with
 | [u], [] => match pCs u with
  | some s => Tree.chk (decide (s.ng <= 1048576 /\ s.nh <= 1048576)) (.ret (seRes s, seHeap s))
  | none => .fail
 | _, _ => .fail
theorem ok_lset : EntryOk Tryz.prog G0 6 Tlset := by
 refine EntryOk.unlitRuns (S := N5) (fn := Tryz.f6) (c := cd Tryz.f6) (by kernel_rfl) (by kernel_rfl) (by kernel_rfl) (fun vs hl res hl' ok h => ?_)
 unfold Tlset at h;split at h
 ·rename_i u;split at h
  ·rename_i s e;obtain ⟨h1, h2⟩ := val_chk h;obtain ⟨q1, q2⟩ := of_decide_eq_true h1;obtain ⟨rfl, rfl⟩ := Prod.mk.inj (val_ret h2);rw [List.map_cons, List.map_nil, pCs_eq e];exact se_runs q1 q2
  ·cases h
 ·cases h
noncomputable def N6 : Tab := N5.put 6 2 Tlset
theorem okN6 : SpecOk Tryz.prog N6 := okN5.put ok_lset
end Go.Sc
