/-
  LedgerBlocks, part 5: veilref18.Block.
-/
import Derived.Test.YticfnbhbpcpgeaaLb4
namespace Go.LB
open Go Go.SX Go.Proofs

noncomputable def r6 (n : Nat) (is : List Item) (s : St) : Tree Out := runK S5 Try.prog noLoops n is s
noncomputable def s6 (ps : List Int) (h : Int) (ms : List Int) (ml : Nat) (xss : Xs) (n : Nat) : St := ⟨enterT Try.f6 [.g [.ws .u8 64 ps], .c (.int false .i64 h), .c (.ro B1 ms ml), .c (.ro B2 xss n)], []⟩
noncomputable def st6 (h : Int) (ms : List Int) (ml : Nat) (xss : Xs) (n : Nat) (acc : List Int) (L : Nat) : St :=
  ⟨slotsOf 77 [(1, one (.int false .i64 h)), (2, one (.ro B1 ms ml)), (3, one (.ro B2 xss n)), (10, one (.sl 0 0 L))], [.arr B1 acc 0 []]⟩
noncomputable def K6a : List Item := leftT [true, false, true, false, true, true] (r6 14 [.code (cd Try.f6)] (s6 [] 0 [] 0 [] 0))
noncomputable def K6b : List Item := leftT [true, true] (r6 2 K6a (st6 0 [] 0 [] 0 [] 0))
noncomputable def K6c : List Item := leftT [true, true] (r6 2 K6b (st6 0 [] 0 [] 0 [] 0))
noncomputable def K6d : List Item := leftT [true] (r6 2 K6c (st6 0 [] 0 [] 0 [] 0))
noncomputable def K6e : List Item := leftT [true, true] (r6 2 K6d (st6 0 [] 0 [] 0 [] 0))
noncomputable def K6f : List Item := leftT [] (r6 400 K6e (st6 0 [] 0 [] 0 [] 0))
noncomputable def lp6 (xss : Xs) (n : Nat) (acc : List Int) (L : Nat) (i : Int) : St :=
  ⟨slotsOf 77 [(3, one (.ro B2 xss n)), (10, one (.sl 0 0 L)), (11, one (.int false .i64 i))], [.arr B1 acc 0 []]⟩
/-- the test that an append asks -/
noncomputable def apc (L : Nat) (acc new : List Int) : Bool := decide (L = acc.length) && (room (L + new.length) (Try.prog.bytesOf 5) && room (L + new.length) 1)
def u64c (x : Int) : Bool := decide (0 ≤ IntKind.u64.wrap x ∧ IntKind.u64.wrap x < 18446744073709551616)
def nums (x : Int) : List Int := num 10 (IntKind.u64.wrap x).toNat

theorem vA (ps : List Int) (h : Int) (ms : List Int) (ml : Nat) (xss : Xs) (n : Nat) : pieceT [1, 2, 3, 10] [] [2] [true, false, true, false, true, true] (r6 14 [.code (cd Try.f6)] (s6 ps h ms ml xss n)) =
    some ([decide (h < 1) == false, decide (h > 1048576), decide ((n : Int) > 32) == false, decide ((ml : Int) > 1048576), true,
      decide (1 = 1) && (room (1 + (ps.take 64).length) (Try.prog.bytesOf 5) && room (1 + (ps.take 64).length) 1)], K6a, st6 h ms ml xss n ([3] ++ ps.take 64) (1 + (ps.take 64).length)) := by kernel_rfl
theorem vB (h : Int) (ms : List Int) (ml : Nat) (xss : Xs) (n : Nat) (acc : List Int) (L : Nat) : pieceT [1, 2, 3, 10] [] [3] [true, true] (r6 2 K6a (st6 h ms ml xss n acc L)) =
    some ([u64c h, apc L acc (bts (nums h, (nums h).length))], K6b, st6 h ms ml xss n (acc ++ bts (nums h, (nums h).length)) (L + (bts (nums h, (nums h).length)).length)) := by kernel_rfl
theorem vC (h : Int) (ms : List Int) (ml : Nat) (xss : Xs) (n : Nat) (acc : List Int) (L : Nat) : pieceT [1, 2, 3, 10] [] [3] [true, true] (r6 2 K6b (st6 h ms ml xss n acc L)) =
    some ([u64c ml, apc L acc (bts (nums ml, (nums ml).length))], K6c, st6 h ms ml xss n (acc ++ bts (nums ml, (nums ml).length)) (L + (bts (nums ml, (nums ml).length)).length)) := by kernel_rfl
theorem vD (h : Int) (ms : List Int) (ml : Nat) (xss : Xs) (n : Nat) (acc : List Int) (L : Nat) : pieceT [1, 2, 3, 10] [] [1] [true] (r6 2 K6c (st6 h ms ml xss n acc L)) =
    some ([apc L acc (bts (ms, ml))], K6d, st6 h ms ml xss n (acc ++ bts (ms, ml)) (L + (bts (ms, ml)).length)) := by kernel_rfl
theorem vE (h : Int) (ms : List Int) (ml : Nat) (xss : Xs) (n : Nat) (acc : List Int) (L : Nat) : pieceT [1, 2, 3, 10] [] [3] [true, true] (r6 2 K6d (st6 h ms ml xss n acc L)) =
    some ([u64c n, apc L acc (bts (nums n, (nums n).length))], K6e, st6 h ms ml xss n (acc ++ bts (nums n, (nums n).length)) (L + (bts (nums n, (nums n).length)).length)) := by kernel_rfl
theorem vF (h : Int) (ms : List Int) (ml : Nat) (xss : Xs) (n : Nat) (acc : List Int) (L : Nat) : pieceT [3, 10, 11] [11] [0] [] (r6 400 K6e (st6 h ms ml xss n acc L)) =
    some ([], K6f, lp6 xss n acc L (0 : Nat)) := by kernel_rfl
theorem vG (xss : Xs) (n : Nat) (acc : List Int) (L j : Nat) : pieceT [3, 10, 11] [11] [4] [true, true, false, true, true, true, true, true] (r6 400 K6f (lp6 xss n acc L j)) =
    some ([decide ((j : Int) < n), decide (0 ≤ (j : Int) ∧ (j : Int) < n), decide (((elt xss j).2 : Int) > 1048576), decide (0 ≤ (j : Int) ∧ (j : Int) < n), u64c (elt xss j).2,
      apc L acc (bts (nums (elt xss j).2, (nums (elt xss j).2).length)), decide (0 ≤ (j : Int) ∧ (j : Int) < n), apc (L + (bts (nums (elt xss j).2, (nums (elt xss j).2).length)).length) (acc ++ bts (nums (elt xss j).2, (nums (elt xss j).2).length)) (bts (elt xss j))], K6f,
      lp6 xss n (acc ++ bts (nums (elt xss j).2, (nums (elt xss j).2).length) ++ bts (elt xss j)) (L + (bts (nums (elt xss j).2, (nums (elt xss j).2).length)).length + (bts (elt xss j)).length) (IntKind.i64.wrap ((j : Int) + 1))) := by kernel_rfl
theorem vH (xss : Xs) (n : Nat) (acc : List Int) (L j : Nat) : endT Try.prog Try.f6 [] [true, true, true] (r6 400 K6f (lp6 xss n acc L j)) =
    some ([decide ((j : Int) < n), decide (0 ≤ (j : Int) ∧ (j : Int) < n), decide (((elt xss j).2 : Int) > 1048576)], .tup [.c .nils, .c (.int true .i64 2)], []) := by kernel_rfl
theorem vI (xss : Xs) (n : Nat) (acc : List Int) (L j : Nat) : endT Try.prog Try.f6 [0] [false] (r6 400 K6f (lp6 xss n acc L j)) =
    some ([decide ((j : Int) < n)], .tup [.c (.sl 0 0 L), .c (.int true .i64 0)], [.arr B1 acc 0 []]) := by kernel_rfl
theorem vJ (ps : List Int) (h : Int) (ms : List Int) (ml : Nat) (xss : Xs) (n : Nat) : endT Try.prog Try.f6 [] [false] (r6 400 [.code (cd Try.f6)] (s6 ps h ms ml xss n)) =
    some ([decide (h < 1) == false], .tup [.c .nils, .c (.int true .i64 186)], []) := by kernel_rfl
theorem vK (ps : List Int) (h : Int) (ms : List Int) (ml : Nat) (xss : Xs) (n : Nat) : endT Try.prog Try.f6 [] [true, true] (r6 400 [.code (cd Try.f6)] (s6 ps h ms ml xss n)) =
    some ([decide (h < 1) == false, decide (h > 1048576)], .tup [.c .nils, .c (.int true .i64 186)], []) := by kernel_rfl
theorem vL (ps : List Int) (h : Int) (ms : List Int) (ml : Nat) (xss : Xs) (n : Nat) : endT Try.prog Try.f6 [] [true, false, false] (r6 400 [.code (cd Try.f6)] (s6 ps h ms ml xss n)) =
    some ([decide (h < 1) == false, decide (h > 1048576), decide ((n : Int) > 32) == false], .tup [.c .nils, .c (.int true .i64 2)], []) := by kernel_rfl
theorem vM (ps : List Int) (h : Int) (ms : List Int) (ml : Nat) (xss : Xs) (n : Nat) : endT Try.prog Try.f6 [] [true, false, true, true] (r6 400 [.code (cd Try.f6)] (s6 ps h ms ml xss n)) =
    some ([decide (h < 1) == false, decide (h > 1048576), decide ((n : Int) > 32) == false, decide ((ml : Int) > 1048576)], .tup [.c .nils, .c (.int true .i64 2)], []) := by kernel_rfl

theorem nums_nat {n : Nat} (h : n < 18446744073709551616) : nums (n : Int) = num 10 n := by unfold nums; rw [wrapu h, Int.toNat_natCast]
theorem u64c_nat {n : Nat} (h : n < 18446744073709551616) : u64c (n : Int) = true := by unfold u64c; rw [wrapu h]; exact decide_eq_true ⟨by omega, by omega⟩
theorem apc_ok {L : Nat} {acc new : List Int} (h : L = acc.length) (hl : L + new.length ≤ 140737488355328) : apc L acc new = true := by
  unfold apc; rw [decide_eq_true h, rooms5 hl]; rfl
theorem loop6 {xss : Xs} {n : Nat} (hn : n ≤ xss.length) (hn32 : n ≤ 32) : ∀ d j (acc : List Int), j + d = n → acc.length ≤ 10485760 + 1048586 * j →
    Runs Try.prog S5 Try.f6 0 K6f (lp6 xss n acc acc.length j) (res5 ((xss.take n).drop j) acc).1 (res5 ((xss.take n).drop j) acc).2
  | 0, j, acc, hj, hl => by
    have : (xss.take n).drop j = [] := List.drop_eq_nil_of_le (by rw [List.length_take]; omega)
    rw [this]
    have e : res5 [] acc = (.tup [.c (.sl 0 0 acc.length), .c (.int true .i64 0)], [.arr B1 acc 0 []]) :=
      congrArg (fun l : List Int => ((.tup [.c (.sl 0 0 l.length), .c (.int true .i64 0)], [.arr B1 l 0 []]) : SV × Heap)) (List.append_nil acc)
    rw [e]
    exact Runs.last ok5 mx (vI xss n acc acc.length j) (by rw [decide_eq_false (by omega)]) (by rfl)
  | d + 1, j, acc, hj, hl => by
    rw [rest_cons hn (by omega)]
    cases hlg : lng (elt xss j) with
    | true =>
      have e : res5 (elt xss j :: (xss.take n).drop (j + 1)) acc = err 2 := by unfold res5; rw [List.any_cons, hlg]; rfl
      have : 1048576 < (elt xss j).2 := of_decide_eq_true hlg
      rw [e]
      exact Runs.last ok5 mx (vH xss n acc acc.length j) (by rw [decide_eq_true (by omega), decide_eq_true (by omega), decide_eq_true (by omega)]) (by rfl)
    | false =>
      have hno : ¬ 1048576 < (elt xss j).2 := of_decide_eq_false hlg
      have ho := one5_len _ hlg
      have e : res5 (elt xss j :: (xss.take n).drop (j + 1)) acc = res5 ((xss.take n).drop (j + 1)) (acc ++ one5 (elt xss j)) := by
        unfold res5
        rw [List.any_cons, hlg, Bool.false_or, List.flatMap_cons, List.append_assoc]
      rw [e]
      have hp := vG xss n acc acc.length j
      have hi : IntKind.i64.wrap ((j : Int) + 1) = ((j + 1 : Nat) : Int) := by rw [wrap64 (by omega)]; omega
      have hol : (one5 (elt xss j)).length = (num 10 (elt xss j).2).length + (bts (elt xss j)).length := by unfold one5; rw [List.length_append]
      rw [nums_nat (by omega), bts_all, hi, u64c_nat (by omega), apc_ok rfl (by omega), ← List.length_append, apc_ok rfl (by rw [List.length_append]; omega), ← List.length_append, List.append_assoc] at hp
      refine Runs.piece ok5 mx hp ?_ (by rfl) (loop6 hn hn32 d (j + 1) (acc ++ one5 (elt xss j)) (by omega) (by rw [List.length_append]; omega))
      rw [decide_eq_true (by omega), decide_eq_true (by omega), decide_eq_false (by omega)]

theorem rblock_runs (ps : List Int) (h : Int) (ms : List Int) (ml : Nat) (xss : Xs) (n : Nat) {r : SV × Heap} (hr : (t5 ps h ms ml xss n).val = some r) : Runs Try.prog S5 Try.f6 0 [.code (cd Try.f6)] (s6 ps h ms ml xss n) r.1 r.2 := by
  unfold t5 at hr
  obtain ⟨h1, hr⟩ := val_chk hr
  have hn := of_decide_eq_true h1
  simp only [Tree.val] at hr
  split at hr
  · rename_i hh
    have hh := of_decide_eq_true hh
    obtain rfl := Option.some.inj hr
    by_cases h0 : h < 1
    · exact Runs.last ok5 mx (vJ ps h ms ml xss n) (by rw [decide_eq_true h0]; rfl) (by rfl)
    · exact Runs.last ok5 mx (vK ps h ms ml xss n) (by rw [decide_eq_false h0, decide_eq_true (by omega)]; rfl) (by rfl)
  · rename_i hh
    have hh : ¬ (h < 1 ∨ 1048576 < h) := of_decide_eq_false (by simpa using hh)
    split at hr
    · rename_i hm
      have hm := of_decide_eq_true hm
      obtain rfl := Option.some.inj hr
      by_cases h0 : 32 < n
      · exact Runs.last ok5 mx (vL ps h ms ml xss n) (by rw [decide_eq_false (by omega), decide_eq_false (by omega), decide_eq_true (by omega)]; rfl) (by rfl)
      · exact Runs.last ok5 mx (vM ps h ms ml xss n) (by rw [decide_eq_false (by omega), decide_eq_false (by omega), decide_eq_false (by omega), decide_eq_true (by omega)]; rfl) (by rfl)
    · rename_i hm
      have hm : ¬ (32 < n ∨ 1048576 < ml) := of_decide_eq_false (by simpa using hm)
      obtain rfl := Option.some.inj hr
      obtain ⟨m, rfl⟩ : ∃ m : Nat, h = (m : Int) := ⟨h.toNat, by omega⟩
      have hp64 : (ps.take 64).length ≤ 64 := by rw [List.length_take]; omega
      have hA := vA ps m ms ml xss n
      have eA : 1 + (ps.take 64).length = ([3] ++ ps.take 64).length := by simp; omega
      rw [eA] at hA
      have l1 := num_len 10 m
      have l2 := num_len 10 ml
      have l3 := bts_len (xs := ms) (n := ml)
      have l4 := num_len 10 n
      refine Runs.piece ok5 mx hA ?_ (by rfl) ?_
      · rw [decide_eq_false (by omega), decide_eq_false (by omega), decide_eq_false (by omega), decide_eq_false (by omega), ← eA, rooms5 (by omega), decide_eq_true rfl]; rfl
      have hB := vB m ms ml xss n ([3] ++ ps.take 64) ([3] ++ ps.take 64).length
      rw [nums_nat (by omega), bts_all, u64c_nat (by omega), apc_ok rfl (by omega), ← List.length_append] at hB
      refine Runs.piece ok5 mx hB rfl (by rfl) ?_
      have e1 : ([3] ++ ps.take 64 ++ num 10 m).length ≤ 75 := by rw [List.length_append, ← eA]; omega
      have hC := vC m ms ml xss n ([3] ++ ps.take 64 ++ num 10 m) ([3] ++ ps.take 64 ++ num 10 m).length
      rw [nums_nat (by omega), bts_all, u64c_nat (by omega), apc_ok rfl (by omega), ← List.length_append] at hC
      refine Runs.piece ok5 mx hC rfl (by rfl) ?_
      have e2 : ([3] ++ ps.take 64 ++ num 10 m ++ num 10 ml).length ≤ 85 := by rw [List.length_append]; omega
      have hD := vD m ms ml xss n ([3] ++ ps.take 64 ++ num 10 m ++ num 10 ml) ([3] ++ ps.take 64 ++ num 10 m ++ num 10 ml).length
      rw [apc_ok rfl (by omega), ← List.length_append] at hD
      refine Runs.piece ok5 mx hD rfl (by rfl) ?_
      have e3 : ([3] ++ ps.take 64 ++ num 10 m ++ num 10 ml ++ bts (ms, ml)).length ≤ 1048700 := by rw [List.length_append]; omega
      have hE := vE m ms ml xss n ([3] ++ ps.take 64 ++ num 10 m ++ num 10 ml ++ bts (ms, ml)) ([3] ++ ps.take 64 ++ num 10 m ++ num 10 ml ++ bts (ms, ml)).length
      rw [nums_nat (by omega), bts_all, u64c_nat (by omega), apc_ok rfl (by omega), ← List.length_append] at hE
      refine Runs.piece ok5 mx hE rfl (by rfl) ?_
      refine Runs.piece ok5 mx (vF m ms ml xss n _ _) rfl (by rfl) ?_
      exact loop6 hn (by omega) n 0 (head5 ps m ms ml n) (by omega) (by unfold head5; rw [List.length_append]; omega)

theorem ok_6 : EntryOk Try.prog S5.gl 6 T5 := by
  refine EntryOk.of_runs (S := S5) (fn := Try.f6) (c := cd Try.f6) (by kernel_rfl) (by kernel_rfl) (by kernel_rfl) (fun vs hl r hl' h => ?_)
  unfold T5 at h
  split at h
  · rename_i ps l h' ms ml xss n
    exact lit_int [1] (rblock_runs ps h' ms ml xss n h) (by kernel_rfl)
  · cases h
noncomputable def S6 : Tab := S5.put 6 1 T5
theorem ok6 : SpecOk Try.prog S6 := ok5.put ok_6
end Go.LB
