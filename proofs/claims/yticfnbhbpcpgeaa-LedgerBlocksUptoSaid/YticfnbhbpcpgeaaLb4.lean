/-
  LedgerBlocks, part 4: ledger.Block.
-/
import Derived.Test.YticfnbhbpcpgeaaLb3
namespace Go.LB
open Go Go.SX Go.Proofs

noncomputable def r5 (n : Nat) (is : List Item) (s : St) : Tree Out := runK S9 Try.prog noLoops n is s
noncomputable def s5 (ps : List Int) (h : Int) (ms : List Int) (ml : Nat) (xss : Xs) (n : Nat) : St := ⟨enterT Try.f5 [.g [.ws .u8 64 ps], .c (.int false .i64 h), .c (.ro B1 ms ml), .c (.ro B2 xss n)], []⟩
noncomputable def st5 (h : Int) (ms : List Int) (ml : Nat) (xss : Xs) (n : Nat) (acc : List Int) (L : Nat) : St :=
  ⟨slotsOf 56 [(1, one (.int false .i64 h)), (2, one (.ro B1 ms ml)), (3, one (.ro B2 xss n)), (10, one (.sl 0 0 L))], [.arr B1 acc 0 []]⟩
noncomputable def K5a : List Item := leftT [true, false, true, false, true, true] (r5 14 [.code (cd Try.f5)] (s5 [] 0 [] 0 [] 0))
noncomputable def K5b : List Item := leftT [true] (r5 2 K5a (st5 0 [] 0 [] 0 [] 0))
noncomputable def K5c : List Item := leftT [true] (r5 2 K5b (st5 0 [] 0 [] 0 [] 0))
noncomputable def K5d : List Item := leftT [true] (r5 2 K5c (st5 0 [] 0 [] 0 [] 0))
noncomputable def K5e : List Item := leftT [] (r5 400 K5d (st5 0 [] 0 [] 0 [] 0))
noncomputable def lp5 (xss : Xs) (n : Nat) (acc : List Int) (L : Nat) (i : Int) : St :=
  ⟨slotsOf 56 [(10, one (.sl 0 0 L)), (42, one (.ro B2 xss n)), (43, one (.int false .i64 n)), (44, one (.int false .i64 i))], [.arr B1 acc 0 []]⟩

theorem pA (ps : List Int) (h : Int) (ms : List Int) (ml : Nat) (xss : Xs) (n : Nat) : pieceT [1, 2, 3, 10] [] [2] [true, false, true, false, true, true] (r5 14 [.code (cd Try.f5)] (s5 ps h ms ml xss n)) =
    some ([decide (h < 1) == false, decide (h > 1048576), decide ((n : Int) > 32) == false, decide ((ml : Int) > 1048576), true,
      decide (1 = 1) && (room (1 + (ps.take 64).length) (Try.prog.bytesOf 5) && room (1 + (ps.take 64).length) 1)], K5a, st5 h ms ml xss n ([3] ++ ps.take 64) (1 + (ps.take 64).length)) := by kernel_rfl
theorem pB (h : Int) (ms : List Int) (ml : Nat) (xss : Xs) (n : Nat) (acc : List Int) (L : Nat) : pieceT [1, 2, 3, 10] [] [2] [true] (r5 2 K5a (st5 h ms ml xss n acc L)) =
    some ([decide (L ≤ 1099511627776 ∧ 0 ≤ IntKind.u64.wrap h ∧ IntKind.u64.wrap h < 18446744073709551616)], K5b, st5 h ms ml xss n (bts (acc.drop 0, L) ++ num 10 (IntKind.u64.wrap h).toNat) (bts (acc.drop 0, L) ++ num 10 (IntKind.u64.wrap h).toNat).length) := by kernel_rfl
theorem pC (h : Int) (ms : List Int) (ml : Nat) (xss : Xs) (n : Nat) (acc : List Int) (L : Nat) : pieceT [1, 2, 3, 10] [] [1] [true] (r5 2 K5b (st5 h ms ml xss n acc L)) =
    some ([decide (L ≤ 1099511627776 ∧ ml ≤ 1099511627776)], K5c, st5 h ms ml xss n (bts (acc.drop 0, L) ++ num 10 ml ++ bts (ms, ml)) (bts (acc.drop 0, L) ++ num 10 ml ++ bts (ms, ml)).length) := by kernel_rfl
theorem pD (h : Int) (ms : List Int) (ml : Nat) (xss : Xs) (n : Nat) (acc : List Int) (L : Nat) : pieceT [1, 2, 3, 10] [] [2] [true] (r5 2 K5c (st5 h ms ml xss n acc L)) =
    some ([decide (L ≤ 1099511627776 ∧ 0 ≤ IntKind.u64.wrap (n : Int) ∧ IntKind.u64.wrap (n : Int) < 18446744073709551616)], K5d, st5 h ms ml xss n (bts (acc.drop 0, L) ++ num 10 (IntKind.u64.wrap (n : Int)).toNat) (bts (acc.drop 0, L) ++ num 10 (IntKind.u64.wrap (n : Int)).toNat).length) := by kernel_rfl
theorem pE (h : Int) (ms : List Int) (ml : Nat) (xss : Xs) (n : Nat) (acc : List Int) (L : Nat) : pieceT [10, 42, 43, 44] [44] [0] [] (r5 400 K5d (st5 h ms ml xss n acc L)) =
    some ([], K5e, lp5 xss n acc L (0 : Nat)) := by kernel_rfl
theorem pF (xss : Xs) (n : Nat) (acc : List Int) (L j : Nat) : pieceT [10, 42, 43, 44] [44] [1] [true, true, false, true] (r5 400 K5e (lp5 xss n acc L j)) =
    some ([decide ((j : Int) < n), decide (0 ≤ (j : Int) ∧ (j : Int) < n), decide (((elt xss j).2 : Int) > 1048576), decide (L ≤ 1099511627776 ∧ (elt xss j).2 ≤ 1099511627776)], K5e,
      lp5 xss n (bts (acc.drop 0, L) ++ num 10 (elt xss j).2 ++ bts (elt xss j)) (bts (acc.drop 0, L) ++ num 10 (elt xss j).2 ++ bts (elt xss j)).length (IntKind.i64.wrap ((j : Int) + 1))) := by kernel_rfl
theorem pG (xss : Xs) (n : Nat) (acc : List Int) (L j : Nat) : endT Try.prog Try.f5 [] [true, true, true] (r5 400 K5e (lp5 xss n acc L j)) =
    some ([decide ((j : Int) < n), decide (0 ≤ (j : Int) ∧ (j : Int) < n), decide (((elt xss j).2 : Int) > 1048576)], .tup [.c .nils, .c (.int true .i64 2)], []) := by kernel_rfl
theorem pH (xss : Xs) (n : Nat) (acc : List Int) (L j : Nat) : endT Try.prog Try.f5 [0] [false] (r5 400 K5e (lp5 xss n acc L j)) =
    some ([decide ((j : Int) < n)], .tup [.c (.sl 0 0 L), .c (.int true .i64 0)], [.arr B1 acc 0 []]) := by kernel_rfl
theorem pI (ps : List Int) (h : Int) (ms : List Int) (ml : Nat) (xss : Xs) (n : Nat) : endT Try.prog Try.f5 [] [false] (r5 400 [.code (cd Try.f5)] (s5 ps h ms ml xss n)) =
    some ([decide (h < 1) == false], .tup [.c .nils, .c (.int true .i64 186)], []) := by kernel_rfl
theorem pJ (ps : List Int) (h : Int) (ms : List Int) (ml : Nat) (xss : Xs) (n : Nat) : endT Try.prog Try.f5 [] [true, true] (r5 400 [.code (cd Try.f5)] (s5 ps h ms ml xss n)) =
    some ([decide (h < 1) == false, decide (h > 1048576)], .tup [.c .nils, .c (.int true .i64 186)], []) := by kernel_rfl
theorem pK (ps : List Int) (h : Int) (ms : List Int) (ml : Nat) (xss : Xs) (n : Nat) : endT Try.prog Try.f5 [] [true, false, false] (r5 400 [.code (cd Try.f5)] (s5 ps h ms ml xss n)) =
    some ([decide (h < 1) == false, decide (h > 1048576), decide ((n : Int) > 32) == false], .tup [.c .nils, .c (.int true .i64 2)], []) := by kernel_rfl
theorem pL (ps : List Int) (h : Int) (ms : List Int) (ml : Nat) (xss : Xs) (n : Nat) : endT Try.prog Try.f5 [] [true, false, true, true] (r5 400 [.code (cd Try.f5)] (s5 ps h ms ml xss n)) =
    some ([decide (h < 1) == false, decide (h > 1048576), decide ((n : Int) > 32) == false, decide ((ml : Int) > 1048576)], .tup [.c .nils, .c (.int true .i64 2)], []) := by kernel_rfl
def lng (p : List Int × Nat) : Bool := decide (1048576 < p.2)
def one5 (p : List Int × Nat) : List Int := num 10 p.2 ++ bts p
def err (e : Int) : SV × Heap := (.tup [.c .nils, .c (.int true .i64 e)], [])
def res5 (rest : Xs) (acc : List Int) : SV × Heap :=
  match rest.any lng with
  | true => err 2
  | false => (.tup [.c (.sl 0 0 (acc ++ rest.flatMap one5).length), .c (.int true .i64 0)], [.arr B1 (acc ++ rest.flatMap one5) 0 []])

theorem bts_drop0 (xs : List Int) : bts (xs.drop 0, xs.length) = xs := bts_all xs
theorem rest_cons {xss : Xs} {n j : Nat} (hn : n ≤ xss.length) (hj : j < n) : (xss.take n).drop j = elt xss j :: (xss.take n).drop (j + 1) := by
  have hlt : j < (xss.take n).length := by rw [List.length_take]; omega
  rw [List.drop_eq_getElem_cons hlt]
  congr 1
  rw [List.getElem_take, elt, List.getD_eq_getElem?_getD, List.getElem?_eq_getElem (by omega)]; rfl
theorem one5_len (p : List Int × Nat) (h : lng p = false) : (one5 p).length ≤ 1048586 := by
  have h1 : ¬ 1048576 < p.2 := of_decide_eq_false h
  have := num_len 10 p.2
  have : (bts p).length ≤ p.2 := bts_len (xs := p.1) (n := p.2)
  unfold one5
  rw [List.length_append]; omega

theorem loop5 {xss : Xs} {n : Nat} (hn : n ≤ xss.length) (hn32 : n ≤ 32) : ∀ d j (acc : List Int), j + d = n → acc.length ≤ 10485760 + 1048586 * j →
    Runs Try.prog S9 Try.f5 0 K5e (lp5 xss n acc acc.length j) (res5 ((xss.take n).drop j) acc).1 (res5 ((xss.take n).drop j) acc).2
  | 0, j, acc, hj, hl => by
    have : (xss.take n).drop j = [] := List.drop_eq_nil_of_le (by rw [List.length_take]; omega)
    rw [this]
    have e : res5 [] acc = (.tup [.c (.sl 0 0 acc.length), .c (.int true .i64 0)], [.arr B1 acc 0 []]) :=
      congrArg (fun l : List Int => ((.tup [.c (.sl 0 0 l.length), .c (.int true .i64 0)], [.arr B1 l 0 []]) : SV × Heap)) (List.append_nil acc)
    rw [e]
    exact Runs.last ok9 mx (pH xss n acc acc.length j) (by rw [decide_eq_false (by omega)]) (by rfl)
  | d + 1, j, acc, hj, hl => by
    rw [rest_cons hn (by omega)]
    cases hlg : lng (elt xss j) with
    | true =>
      have e : res5 (elt xss j :: (xss.take n).drop (j + 1)) acc = err 2 := by unfold res5; rw [List.any_cons, hlg]; rfl
      have : 1048576 < (elt xss j).2 := of_decide_eq_true hlg
      rw [e]
      exact Runs.last ok9 mx (pG xss n acc acc.length j) (by rw [decide_eq_true (by omega), decide_eq_true (by omega), decide_eq_true (by omega)]) (by rfl)
    | false =>
      have hno : ¬ 1048576 < (elt xss j).2 := of_decide_eq_false hlg
      have ho := one5_len _ hlg
      have e : res5 (elt xss j :: (xss.take n).drop (j + 1)) acc = res5 ((xss.take n).drop (j + 1)) (acc ++ one5 (elt xss j)) := by
        unfold res5
        rw [List.any_cons, hlg, Bool.false_or, List.flatMap_cons, List.append_assoc]
      rw [e]
      have hp := pF xss n acc acc.length j
      have hi : IntKind.i64.wrap ((j : Int) + 1) = ((j + 1 : Nat) : Int) := by rw [wrap64 (by omega)]; omega
      rw [bts_drop0, hi, List.append_assoc] at hp
      refine Runs.piece ok9 mx hp ?_ (by rfl) (loop5 hn hn32 d (j + 1) (acc ++ one5 (elt xss j)) (by omega) (by rw [List.length_append]; omega))
      rw [decide_eq_true (by omega), decide_eq_true (by omega), decide_eq_false (by omega), decide_eq_true (by omega)]

/-- what is written ahead of the transactions -/
def head5 (ps : List Int) (h : Nat) (ms : List Int) (ml n : Nat) : List Int := ([3] ++ ps.take 64 ++ num 10 h) ++ num 10 ml ++ bts (ms, ml) ++ num 10 n
/-- what Block yields -/
def t5 (ps : List Int) (h : Int) (ms : List Int) (ml : Nat) (xss : Xs) (n : Nat) : Tree (SV × Heap) :=
  Tree.chk (decide (n ≤ xss.length)) (.br (decide (h < 1 ∨ 1048576 < h)) (.ret (err 186)) (.br (decide (32 < n ∨ 1048576 < ml)) (.ret (err 2)) (.ret (res5 (xss.take n) (head5 ps h.toNat ms ml n)))))
def T5 (vs : List V1) (hl : Heap) : Tree (SV × Heap) :=
  match vs, hl with
  | [.g [.ws .u8 64 ps], .c (.int _ .i64 h), .c (.ro (.int .u8) ms ml), .c (.ro (.sl (.int .u8)) xss n)], [] => t5 ps h ms ml xss n
  | _, _ => .fail

theorem block_runs (ps : List Int) (h : Int) (ms : List Int) (ml : Nat) (xss : Xs) (n : Nat) {r : SV × Heap} (hr : (t5 ps h ms ml xss n).val = some r) : Runs Try.prog S9 Try.f5 0 [.code (cd Try.f5)] (s5 ps h ms ml xss n) r.1 r.2 := by
  unfold t5 at hr
  obtain ⟨h1, hr⟩ := val_chk hr
  have hn := of_decide_eq_true h1
  simp only [Tree.val] at hr
  split at hr
  · rename_i hh
    have hh := of_decide_eq_true hh
    obtain rfl := Option.some.inj hr
    by_cases h0 : h < 1
    · exact Runs.last ok9 mx (pI ps h ms ml xss n) (by rw [decide_eq_true h0]; rfl) (by rfl)
    · exact Runs.last ok9 mx (pJ ps h ms ml xss n) (by rw [decide_eq_false h0, decide_eq_true (by omega)]; rfl) (by rfl)
  · rename_i hh
    have hh : ¬ (h < 1 ∨ 1048576 < h) := of_decide_eq_false (by simpa using hh)
    split at hr
    · rename_i hm
      have hm := of_decide_eq_true hm
      obtain rfl := Option.some.inj hr
      by_cases h0 : 32 < n
      · exact Runs.last ok9 mx (pK ps h ms ml xss n) (by rw [decide_eq_false (by omega), decide_eq_false (by omega), decide_eq_true (by omega)]; rfl) (by rfl)
      · exact Runs.last ok9 mx (pL ps h ms ml xss n) (by rw [decide_eq_false (by omega), decide_eq_false (by omega), decide_eq_false (by omega), decide_eq_true (by omega)]; rfl) (by rfl)
    · rename_i hm
      have hm : ¬ (32 < n ∨ 1048576 < ml) := of_decide_eq_false (by simpa using hm)
      obtain rfl := Option.some.inj hr
      obtain ⟨m, rfl⟩ : ∃ m : Nat, h = (m : Int) := ⟨h.toNat, by omega⟩
      have hp64 : (ps.take 64).length ≤ 64 := by rw [List.length_take]; omega
      have hA := pA ps m ms ml xss n
      have eA : 1 + (ps.take 64).length = ([3] ++ ps.take 64).length := by simp; omega
      rw [eA] at hA
      refine Runs.piece ok9 mx hA ?_ (by rfl) ?_
      · rw [decide_eq_false (by omega), decide_eq_false (by omega), decide_eq_false (by omega), decide_eq_false (by omega), ← eA, rooms5 (by omega), decide_eq_true rfl]; rfl
      have hB := pB m ms ml xss n ([3] ++ ps.take 64) ([3] ++ ps.take 64).length
      rw [bts_drop0, wrapu (by omega), Int.toNat_natCast] at hB
      have l1 := num_len 10 m
      refine Runs.piece ok9 mx hB ?_ (by rfl) ?_
      · rw [← eA, decide_eq_true ⟨by omega, by omega, by omega⟩]
      have hC := pC m ms ml xss n ([3] ++ ps.take 64 ++ num 10 m) ([3] ++ ps.take 64 ++ num 10 m).length
      rw [bts_drop0] at hC
      have e1 : ([3] ++ ps.take 64 ++ num 10 m).length ≤ 75 := by rw [List.length_append, ← eA]; omega
      refine Runs.piece ok9 mx hC ?_ (by rfl) ?_
      · rw [decide_eq_true ⟨by omega, by omega⟩]
      have l2 := num_len 10 ml
      have l3 := bts_len (xs := ms) (n := ml)
      have e2 : ([3] ++ ps.take 64 ++ num 10 m ++ num 10 ml ++ bts (ms, ml)).length ≤ 1048700 := by rw [List.length_append, List.length_append]; omega
      have hD := pD m ms ml xss n ([3] ++ ps.take 64 ++ num 10 m ++ num 10 ml ++ bts (ms, ml)) ([3] ++ ps.take 64 ++ num 10 m ++ num 10 ml ++ bts (ms, ml)).length
      rw [bts_drop0, wrapu (by omega), Int.toNat_natCast] at hD
      refine Runs.piece ok9 mx hD ?_ (by rfl) ?_
      · rw [decide_eq_true ⟨by omega, by omega, by omega⟩]
      have l4 := num_len 10 n
      refine Runs.piece ok9 mx (pE m ms ml xss n _ _) rfl (by rfl) ?_
      have := loop5 hn (by omega) n 0 (head5 ps m ms ml n) (by omega) (by unfold head5; rw [List.length_append]; omega)
      exact this

theorem ok_5 : EntryOk Try.prog S9.gl 5 T5 := by
  refine EntryOk.of_runs (S := S9) (fn := Try.f5) (c := cd Try.f5) (by kernel_rfl) (by kernel_rfl) (by kernel_rfl) (fun vs hl r hl' h => ?_)
  unfold T5 at h
  split at h
  · rename_i ps l h' ms ml xss n
    exact lit_int [1] (block_runs ps h' ms ml xss n h) (by kernel_rfl)
  · cases h
noncomputable def S5 : Tab := S9.put 5 1 T5
theorem ok5 : SpecOk Try.prog S5 := ok9.put ok_5
end Go.LB
