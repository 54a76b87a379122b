/-
  LedgerBlocks, part 6: apart.
-/
import Derived.Test.YticfnbhbpcpgeaaLb5
namespace Go.LB
open Go Go.SX Go.Proofs

theorem loopG {P : Program} {S : Tab} {fn : Func} {m : Nat} {K : List Item} {v : SV} {hl : Heap} {α : Type} {st : Nat → α → St} {I : Nat → α → Prop} {n : Nat}
    (step : ∀ k a, k < n → I k a → ∃ a', I (k + 1) a' ∧ (Runs P S fn m K (st (k + 1) a') v hl → Runs P S fn m K (st k a) v hl))
    (last : ∀ a, I n a → Runs P S fn m K (st n a) v hl) : ∀ d k a, k + d = n → I k a → Runs P S fn m K (st k a) v hl
  | 0, k, a, h, hI => by obtain rfl : k = n := by omega
                         exact last a hI
  | d + 1, k, a, h, hI => by
    obtain ⟨a', hI', hr⟩ := step k a (by omega) hI
    exact hr (loopG step last d (k + 1) a' (by omega) hI')

noncomputable def r8 (is : List Item) (s : St) : Tree Out := runK S6 Try.prog (only [2, 9, 18]) 400 is s
noncomputable def s8 (h : Heap) : St := ⟨enterT Try.f8 [.c (.sla 0 0 3 0 3)], h⟩
noncomputable def a8 (i k : Int) (h : Heap) : St := ⟨slotsOf 82 [(0, one (.sla 0 0 3 0 3)), (3, one (.int true .i64 i)), (4, one (.int false .i64 k))], h⟩
noncomputable def b8 (i k : Int) (m : Cell) (h : Heap) : St := ⟨slotsOf 82 [(0, one (.sla 0 0 3 0 3)), (5, one (.int true .i64 i)), (6, one m), (7, one (.int false .i64 k))], h⟩
noncomputable def c8 (i k : Int) (h : Heap) : St := ⟨slotsOf 82 [(0, one (.sla 0 0 3 0 3)), (8, one (.int true .i64 i)), (9, one (.int false .i64 k))], h⟩
noncomputable def hE : Heap := [.vals [.c (.sl 1 0 0), .c (.sl 2 0 0), .c (.sl 3 0 0)], .arr B1 [] 0 [], .arr B1 [] 0 [], .arr B1 [] 0 []]
noncomputable def K8a : List Item := leftT [] (r8 [.code (cd Try.f8)] (s8 hE))
noncomputable def K8b : List Item := leftT [true, false, true] (r8 K8a (a8 2 0 hE))
noncomputable def K8c : List Item := leftT [false, true, true] (r8 K8b (b8 2 0 (.sl 4 0 0) (hE ++ [.arr B1 [] 0 [3]])))

theorem take_set_succ {c : Int} : ∀ {a : List Int} {k : Nat}, k < a.length → a.take k = List.replicate k c → (a.set k c).take (k + 1) = List.replicate (k + 1) c
  | x :: a, 0, _, _ => rfl
  | x :: a, k + 1, h, e => by
    have e' : x :: a.take k = c :: List.replicate k c := e
    obtain ⟨rfl, e2⟩ := List.cons.inj e'
    show x :: (a.set k x).take (k + 1) = x :: List.replicate (k + 1) x
    rw [take_set_succ (Nat.lt_of_succ_lt_succ h) e2]
theorem getD_rep {c : Int} {n k : Nat} (h : k < n) : (List.replicate n c).getD k 0 = c := by
  rw [List.getD_eq_getElem?_getD, List.getElem?_replicate, if_pos h]; rfl
theorem wsucc {k : Nat} (h : k < 1099511627776) : IntKind.i64.wrap ((k : Int) + 1) = ((k + 1 : Nat) : Int) := by rw [wrap64 (by omega)]; omega
theorem wpred {k : Nat} (h : k < 1099511627776) : IntKind.i64.wrap (((k + 1 : Nat) : Int) - 1) = (k : Int) := by rw [wrap64 (by omega)]; omega

def hA0 (a b c : List Int) (n0 n1 n2 : Nat) : Heap := [.vals [.c (.sl 1 0 n0), .c (.sl 2 0 n1), .c (.sl 3 0 n2)], .arr B1 a 0 [], .arr B1 b 0 [], .arr B1 c 0 []]
def hA1 (a b c : List Int) (n0 n1 n2 : Nat) : Heap := [.vals [.c (.sl 1 0 n0), .c (.sl 2 0 n1), .c (.sl 3 0 n2)], .frz B1 a, .arr B1 b 0 [], .arr B1 c 0 []]
def hA2 (a b c : List Int) (n0 n1 n2 : Nat) : Heap := [.vals [.c (.sl 1 0 n0), .c (.sl 2 0 n1), .c (.sl 3 0 n2)], .frz B1 a, .frz B1 b, .arr B1 c 0 []]
def hA3 (a b c : List Int) (n0 n1 n2 : Nat) : Heap := [.vals [.c (.sl 1 0 n0), .c (.sl 2 0 n1), .c (.sl 3 0 n2)], .frz B1 a, .frz B1 b, .frz B1 c]
theorem As (a b c : List Int) (n0 n1 n2 : Nat) : pieceT [0, 3, 4] [4] [0, 1, 2, 3] [] (r8 [.code (cd Try.f8)] (s8 (hA0 a b c n0 n1 n2))) = some ([], K8a, a8 0 (0 : Nat) (hA0 a b c n0 n1 n2)) := by kernel_rfl
theorem Af0e (a b c : List Int) (n0 n1 n2 : Nat) (k : Nat) : pieceT [0, 3, 4] [4] [0, 1, 2, 3] [true, false] (r8 K8a (a8 0 k (hA0 a b c n0 n1 n2))) = some ([true, decide ((k : Int) < n0)], K8a, a8 1 (0 : Nat) (hA0 a b c n0 n1 n2)) := by kernel_rfl
theorem Af0s (a b c : List Int) (n0 n1 n2 : Nat) (k : Nat) : pieceT [0, 3, 4] [4] [0, 1, 2, 3] [true, true, true, true] (r8 K8a (a8 0 k (hA0 a b c n0 n1 n2))) = some ([true, decide ((k : Int) < n0), true, decide (0 ≤ (k : Int) ∧ (k : Int) < n0)], K8a, a8 0 (IntKind.i64.wrap ((k : Int) + 1)) (hA0 (a.set (0 + (k : Int).toNat) 101) b c n0 n1 n2)) := by kernel_rfl
theorem Af1e (a b c : List Int) (n0 n1 n2 : Nat) (k : Nat) : pieceT [0, 3, 4] [4] [0, 1, 2, 3] [true, false] (r8 K8a (a8 1 k (hA0 a b c n0 n1 n2))) = some ([true, decide ((k : Int) < n1)], K8a, a8 2 (0 : Nat) (hA0 a b c n0 n1 n2)) := by kernel_rfl
theorem Af1s (a b c : List Int) (n0 n1 n2 : Nat) (k : Nat) : pieceT [0, 3, 4] [4] [0, 1, 2, 3] [true, true, true, true] (r8 K8a (a8 1 k (hA0 a b c n0 n1 n2))) = some ([true, decide ((k : Int) < n1), true, decide (0 ≤ (k : Int) ∧ (k : Int) < n1)], K8a, a8 1 (IntKind.i64.wrap ((k : Int) + 1)) (hA0 a (b.set (0 + (k : Int).toNat) 102) c n0 n1 n2)) := by kernel_rfl
theorem Af2e (a b c : List Int) (n0 n1 n2 : Nat) (k : Nat) : pieceT [0, 5, 6, 7] [7] [0, 1, 2, 3] [true, false, true] (r8 K8a (a8 2 k (hA0 a b c n0 n1 n2))) = some ([true, decide ((k : Int) < n2), true], K8b, b8 0 (0 : Nat) (.sl 1 0 n0) (hA0 a b c n0 n1 n2)) := by kernel_rfl
theorem Af2s (a b c : List Int) (n0 n1 n2 : Nat) (k : Nat) : pieceT [0, 3, 4] [4] [0, 1, 2, 3] [true, true, true, true] (r8 K8a (a8 2 k (hA0 a b c n0 n1 n2))) = some ([true, decide ((k : Int) < n2), true, decide (0 ≤ (k : Int) ∧ (k : Int) < n2)], K8a, a8 2 (IntKind.i64.wrap ((k : Int) + 1)) (hA0 a b (c.set (0 + (k : Int).toNat) 103) n0 n1 n2)) := by kernel_rfl
theorem Am0z (a b c : List Int) (n0 n1 n2 : Nat) (k : Nat) : pieceT [0, 5, 6, 7] [7] [0, 1, 2, 3, 5] [true, true] (r8 K8b (b8 0 k (.sl 1 0 n0) (hA0 a b c n0 n1 n2))) = some ([decide ((k : Int) < 64), apc n0 a [7]], K8b, b8 0 (IntKind.i64.wrap ((k : Int) + 1)) (.sl 4 0 (n0 + 1)) ((hA1 a b c n0 n1 n2) ++ [.arr B1 (a ++ [7]) n0 [1]])) := by kernel_rfl
theorem Am0s (a b c : List Int) (n0 n1 n2 : Nat) (d : List Int) (q lo k : Nat) : pieceT [0, 5, 6, 7] [7] [0, 1, 2, 3, 6] [true, true] (r8 K8b (b8 0 k (.sl 4 0 q) ((hA1 a b c n0 n1 n2) ++ [.arr B1 d lo [1]]))) = some ([decide ((k : Int) < 64), apc q d [7]], K8b, b8 0 (IntKind.i64.wrap ((k : Int) + 1)) (.sl 4 0 (q + 1)) ((hA1 a b c n0 n1 n2) ++ [.arr B1 (d ++ [7]) q [1]])) := by kernel_rfl
theorem Am0e (a b c : List Int) (n0 n1 n2 : Nat) (d : List Int) (q lo k : Nat) : pieceT [0, 5, 6, 7] [7] [0, 1, 2, 3] [false, true, true, true] (r8 K8b (b8 0 k (.sl 4 0 q) ((hA1 a b c n0 n1 n2) ++ [.arr B1 d lo [1]]))) = some ([decide ((k : Int) < 64), decide (0 ≤ IntKind.i64.wrap ((q : Int) - 1) ∧ IntKind.i64.wrap ((q : Int) - 1) < q), decide (lo ≤ 0 + (IntKind.i64.wrap ((q : Int) - 1)).toNat), true], K8b, b8 1 (0 : Nat) (.sl 2 0 n1) (hA1 a b c n0 n1 n2)) := by kernel_rfl
theorem Am1z (a b c : List Int) (n0 n1 n2 : Nat) (k : Nat) : pieceT [0, 5, 6, 7] [7] [0, 1, 2, 3, 5] [true, true] (r8 K8b (b8 1 k (.sl 2 0 n1) (hA1 a b c n0 n1 n2))) = some ([decide ((k : Int) < 64), apc n1 b [7]], K8b, b8 1 (IntKind.i64.wrap ((k : Int) + 1)) (.sl 4 0 (n1 + 1)) ((hA2 a b c n0 n1 n2) ++ [.arr B1 (b ++ [7]) n1 [2]])) := by kernel_rfl
theorem Am1s (a b c : List Int) (n0 n1 n2 : Nat) (d : List Int) (q lo k : Nat) : pieceT [0, 5, 6, 7] [7] [0, 1, 2, 3, 6] [true, true] (r8 K8b (b8 1 k (.sl 4 0 q) ((hA2 a b c n0 n1 n2) ++ [.arr B1 d lo [2]]))) = some ([decide ((k : Int) < 64), apc q d [7]], K8b, b8 1 (IntKind.i64.wrap ((k : Int) + 1)) (.sl 4 0 (q + 1)) ((hA2 a b c n0 n1 n2) ++ [.arr B1 (d ++ [7]) q [2]])) := by kernel_rfl
theorem Am1e (a b c : List Int) (n0 n1 n2 : Nat) (d : List Int) (q lo k : Nat) : pieceT [0, 5, 6, 7] [7] [0, 1, 2, 3] [false, true, true, true] (r8 K8b (b8 1 k (.sl 4 0 q) ((hA2 a b c n0 n1 n2) ++ [.arr B1 d lo [2]]))) = some ([decide ((k : Int) < 64), decide (0 ≤ IntKind.i64.wrap ((q : Int) - 1) ∧ IntKind.i64.wrap ((q : Int) - 1) < q), decide (lo ≤ 0 + (IntKind.i64.wrap ((q : Int) - 1)).toNat), true], K8b, b8 2 (0 : Nat) (.sl 3 0 n2) (hA2 a b c n0 n1 n2)) := by kernel_rfl
theorem Am2z (a b c : List Int) (n0 n1 n2 : Nat) (k : Nat) : pieceT [0, 5, 6, 7] [7] [0, 1, 2, 3, 5] [true, true] (r8 K8b (b8 2 k (.sl 3 0 n2) (hA2 a b c n0 n1 n2))) = some ([decide ((k : Int) < 64), apc n2 c [7]], K8b, b8 2 (IntKind.i64.wrap ((k : Int) + 1)) (.sl 4 0 (n2 + 1)) ((hA3 a b c n0 n1 n2) ++ [.arr B1 (c ++ [7]) n2 [3]])) := by kernel_rfl
theorem Am2s (a b c : List Int) (n0 n1 n2 : Nat) (d : List Int) (q lo k : Nat) : pieceT [0, 5, 6, 7] [7] [0, 1, 2, 3, 6] [true, true] (r8 K8b (b8 2 k (.sl 4 0 q) ((hA3 a b c n0 n1 n2) ++ [.arr B1 d lo [3]]))) = some ([decide ((k : Int) < 64), apc q d [7]], K8b, b8 2 (IntKind.i64.wrap ((k : Int) + 1)) (.sl 4 0 (q + 1)) ((hA3 a b c n0 n1 n2) ++ [.arr B1 (d ++ [7]) q [3]])) := by kernel_rfl
theorem Am2e (a b c : List Int) (n0 n1 n2 : Nat) (d : List Int) (q lo k : Nat) : pieceT [0, 8, 9] [9] [0, 1, 2, 3] [false, true, true] (r8 K8b (b8 2 k (.sl 4 0 q) ((hA3 a b c n0 n1 n2) ++ [.arr B1 d lo [3]]))) = some ([decide ((k : Int) < 64), decide (0 ≤ IntKind.i64.wrap ((q : Int) - 1) ∧ IntKind.i64.wrap ((q : Int) - 1) < q), decide (lo ≤ 0 + (IntKind.i64.wrap ((q : Int) - 1)).toNat)], K8c, c8 0 (0 : Nat) (hA3 a b c n0 n1 n2)) := by kernel_rfl
theorem Ar0s (a b c : List Int) (n0 n1 n2 : Nat) (k : Nat) : pieceT [0, 8, 9] [9] [0, 1, 2, 3] [true, true, true, true, false] (r8 K8c (c8 0 k (hA3 a b c n0 n1 n2))) = some ([true, decide ((k : Int) < n0), true, decide (0 ≤ (k : Int) ∧ (k : Int) < n0), a.getD (0 + (k : Int).toNat) 0 != 101], K8c, c8 0 (IntKind.i64.wrap ((k : Int) + 1)) (hA3 a b c n0 n1 n2)) := by kernel_rfl
theorem Ar0e (a b c : List Int) (n0 n1 n2 : Nat) (k : Nat) : pieceT [0, 8, 9] [9] [0, 1, 2, 3] [true, false] (r8 K8c (c8 0 k (hA3 a b c n0 n1 n2))) = some ([true, decide ((k : Int) < n0)], K8c, c8 1 (0 : Nat) (hA3 a b c n0 n1 n2)) := by kernel_rfl
theorem Ar1s (a b c : List Int) (n0 n1 n2 : Nat) (k : Nat) : pieceT [0, 8, 9] [9] [0, 1, 2, 3] [true, true, true, true, false] (r8 K8c (c8 1 k (hA3 a b c n0 n1 n2))) = some ([true, decide ((k : Int) < n1), true, decide (0 ≤ (k : Int) ∧ (k : Int) < n1), b.getD (0 + (k : Int).toNat) 0 != 102], K8c, c8 1 (IntKind.i64.wrap ((k : Int) + 1)) (hA3 a b c n0 n1 n2)) := by kernel_rfl
theorem Ar1e (a b c : List Int) (n0 n1 n2 : Nat) (k : Nat) : pieceT [0, 8, 9] [9] [0, 1, 2, 3] [true, false] (r8 K8c (c8 1 k (hA3 a b c n0 n1 n2))) = some ([true, decide ((k : Int) < n1)], K8c, c8 2 (0 : Nat) (hA3 a b c n0 n1 n2)) := by kernel_rfl
theorem Ar2s (a b c : List Int) (n0 n1 n2 : Nat) (k : Nat) : pieceT [0, 8, 9] [9] [0, 1, 2, 3] [true, true, true, true, false] (r8 K8c (c8 2 k (hA3 a b c n0 n1 n2))) = some ([true, decide ((k : Int) < n2), true, decide (0 ≤ (k : Int) ∧ (k : Int) < n2), c.getD (0 + (k : Int).toNat) 0 != 103], K8c, c8 2 (IntKind.i64.wrap ((k : Int) + 1)) (hA3 a b c n0 n1 n2)) := by kernel_rfl
theorem Ar2e (a b c : List Int) (n0 n1 n2 : Nat) (k : Nat) : endT Try.prog Try.f8 [0, 1, 2, 3] [true, false] (r8 K8c (c8 2 k (hA3 a b c n0 n1 n2))) = some ([true, decide ((k : Int) < n2)], .one (.c (.bool true true)), (hA3 a b c n0 n1 n2)) := by kernel_rfl
theorem AR2 {n0 n1 n2 : Nat} (z0 : n0 ≤ 1099511627700) (z1 : n1 ≤ 1099511627700) (z2 : n2 ≤ 1099511627700) : Runs Try.prog S6 Try.f8 4 K8c (c8 2 (0 : Nat) (hA3 (List.replicate n0 101) (List.replicate n1 102) (List.replicate n2 103) n0 n1 n2)) (.one (.c (.bool true true))) (hA3 (List.replicate n0 101) (List.replicate n1 102) (List.replicate n2 103) n0 n1 n2) := by
  refine loopG (st := fun k (_ : Unit) => c8 2 k (hA3 (List.replicate n0 101) (List.replicate n1 102) (List.replicate n2 103) n0 n1 n2)) (I := fun _ _ => True) (n := n2) (fun k a hk _ => ⟨(), trivial, fun hr => ?_⟩) (fun _ _ => ?_) n2 0 () (by omega) trivial
  · have hp := Ar2s (List.replicate n0 101) (List.replicate n1 102) (List.replicate n2 103) n0 n1 n2 k
    rw [wsucc (by omega), decide_eq_true (by omega), decide_eq_true (by omega), Nat.zero_add, Int.toNat_natCast, getD_rep hk] at hp
    exact Runs.piece ok6 mx hp rfl (by rfl) hr
  · exact Runs.last ok6 mx (Ar2e (List.replicate n0 101) (List.replicate n1 102) (List.replicate n2 103) n0 n1 n2 n2) (by rw [decide_eq_false (by omega)]) (by rfl)
theorem AR1 {n0 n1 n2 : Nat} (z0 : n0 ≤ 1099511627700) (z1 : n1 ≤ 1099511627700) (z2 : n2 ≤ 1099511627700) : Runs Try.prog S6 Try.f8 4 K8c (c8 1 (0 : Nat) (hA3 (List.replicate n0 101) (List.replicate n1 102) (List.replicate n2 103) n0 n1 n2)) (.one (.c (.bool true true))) (hA3 (List.replicate n0 101) (List.replicate n1 102) (List.replicate n2 103) n0 n1 n2) := by
  refine loopG (st := fun k (_ : Unit) => c8 1 k (hA3 (List.replicate n0 101) (List.replicate n1 102) (List.replicate n2 103) n0 n1 n2)) (I := fun _ _ => True) (n := n1) (fun k a hk _ => ⟨(), trivial, fun hr => ?_⟩) (fun _ _ => ?_) n1 0 () (by omega) trivial
  · have hp := Ar1s (List.replicate n0 101) (List.replicate n1 102) (List.replicate n2 103) n0 n1 n2 k
    rw [wsucc (by omega), decide_eq_true (by omega), decide_eq_true (by omega), Nat.zero_add, Int.toNat_natCast, getD_rep hk] at hp
    exact Runs.piece ok6 mx hp rfl (by rfl) hr
  · exact Runs.piece ok6 mx (Ar1e (List.replicate n0 101) (List.replicate n1 102) (List.replicate n2 103) n0 n1 n2 n1) (by rw [decide_eq_false (by omega)]) (by rfl) (AR2 z0 z1 z2)
theorem AR0 {n0 n1 n2 : Nat} (z0 : n0 ≤ 1099511627700) (z1 : n1 ≤ 1099511627700) (z2 : n2 ≤ 1099511627700) : Runs Try.prog S6 Try.f8 4 K8c (c8 0 (0 : Nat) (hA3 (List.replicate n0 101) (List.replicate n1 102) (List.replicate n2 103) n0 n1 n2)) (.one (.c (.bool true true))) (hA3 (List.replicate n0 101) (List.replicate n1 102) (List.replicate n2 103) n0 n1 n2) := by
  refine loopG (st := fun k (_ : Unit) => c8 0 k (hA3 (List.replicate n0 101) (List.replicate n1 102) (List.replicate n2 103) n0 n1 n2)) (I := fun _ _ => True) (n := n0) (fun k a hk _ => ⟨(), trivial, fun hr => ?_⟩) (fun _ _ => ?_) n0 0 () (by omega) trivial
  · have hp := Ar0s (List.replicate n0 101) (List.replicate n1 102) (List.replicate n2 103) n0 n1 n2 k
    rw [wsucc (by omega), decide_eq_true (by omega), decide_eq_true (by omega), Nat.zero_add, Int.toNat_natCast, getD_rep hk] at hp
    exact Runs.piece ok6 mx hp rfl (by rfl) hr
  · exact Runs.piece ok6 mx (Ar0e (List.replicate n0 101) (List.replicate n1 102) (List.replicate n2 103) n0 n1 n2 n0) (by rw [decide_eq_false (by omega)]) (by rfl) (AR1 z0 z1 z2)
theorem AM2 {n0 n1 n2 : Nat} (z0 : n0 ≤ 1099511627700) (z1 : n1 ≤ 1099511627700) (z2 : n2 ≤ 1099511627700) : Runs Try.prog S6 Try.f8 4 K8b (b8 2 (0 : Nat) (.sl 3 0 n2) (hA2 (List.replicate n0 101) (List.replicate n1 102) (List.replicate n2 103) n0 n1 n2)) (.one (.c (.bool true true))) (hA3 (List.replicate n0 101) (List.replicate n1 102) (List.replicate n2 103) n0 n1 n2) := by
  have hz := Am2z (List.replicate n0 101) (List.replicate n1 102) (List.replicate n2 103) n0 n1 n2 0
  rw [wsucc (by omega), decide_eq_true (by omega), apc_ok (by rw [List.length_replicate]) (by show n2 + 1 ≤ _; omega)] at hz
  refine Runs.piece ok6 mx hz rfl (by rfl) ?_
  refine loopG (st := fun k (p : List Int × Nat) => b8 2 k (.sl 4 0 (n2 + k)) ((hA3 (List.replicate n0 101) (List.replicate n1 102) (List.replicate n2 103) n0 n1 n2) ++ [.arr B1 p.1 p.2 [3]])) (I := fun k p => p.1.length = n2 + k ∧ p.2 + 1 = n2 + k) (n := 64) (fun k p hk hI => ⟨(p.1 ++ [7], n2 + k), ⟨by rw [List.length_append, hI.1]; show n2 + k + 1 = _; omega, by show n2 + k + 1 = _; omega⟩, fun hr => ?_⟩) (fun p hI => ?_) 63 1 ((List.replicate n2 103) ++ [7], n2) (by omega) ⟨by rw [List.length_append, List.length_replicate]; rfl, rfl⟩
  · have hp := Am2s (List.replicate n0 101) (List.replicate n1 102) (List.replicate n2 103) n0 n1 n2 p.1 (n2 + k) p.2 k
    rw [wsucc (by omega), decide_eq_true (by omega), apc_ok hI.1.symm (by show n2 + k + 1 ≤ _; omega)] at hp
    exact Runs.piece ok6 mx hp rfl (by rfl) hr
  · have hp := Am2e (List.replicate n0 101) (List.replicate n1 102) (List.replicate n2 103) n0 n1 n2 p.1 (n2 + 64) p.2 64
    rw [show n2 + 64 = (n2 + 63) + 1 from rfl, wpred (by omega), decide_eq_false (by omega), decide_eq_true (by omega), decide_eq_true (by have := hI.2; omega)] at hp
    exact Runs.piece ok6 mx hp rfl (by rfl) (AR0 z0 z1 z2)
theorem AM1 {n0 n1 n2 : Nat} (z0 : n0 ≤ 1099511627700) (z1 : n1 ≤ 1099511627700) (z2 : n2 ≤ 1099511627700) : Runs Try.prog S6 Try.f8 4 K8b (b8 1 (0 : Nat) (.sl 2 0 n1) (hA1 (List.replicate n0 101) (List.replicate n1 102) (List.replicate n2 103) n0 n1 n2)) (.one (.c (.bool true true))) (hA3 (List.replicate n0 101) (List.replicate n1 102) (List.replicate n2 103) n0 n1 n2) := by
  have hz := Am1z (List.replicate n0 101) (List.replicate n1 102) (List.replicate n2 103) n0 n1 n2 0
  rw [wsucc (by omega), decide_eq_true (by omega), apc_ok (by rw [List.length_replicate]) (by show n1 + 1 ≤ _; omega)] at hz
  refine Runs.piece ok6 mx hz rfl (by rfl) ?_
  refine loopG (st := fun k (p : List Int × Nat) => b8 1 k (.sl 4 0 (n1 + k)) ((hA2 (List.replicate n0 101) (List.replicate n1 102) (List.replicate n2 103) n0 n1 n2) ++ [.arr B1 p.1 p.2 [2]])) (I := fun k p => p.1.length = n1 + k ∧ p.2 + 1 = n1 + k) (n := 64) (fun k p hk hI => ⟨(p.1 ++ [7], n1 + k), ⟨by rw [List.length_append, hI.1]; show n1 + k + 1 = _; omega, by show n1 + k + 1 = _; omega⟩, fun hr => ?_⟩) (fun p hI => ?_) 63 1 ((List.replicate n1 102) ++ [7], n1) (by omega) ⟨by rw [List.length_append, List.length_replicate]; rfl, rfl⟩
  · have hp := Am1s (List.replicate n0 101) (List.replicate n1 102) (List.replicate n2 103) n0 n1 n2 p.1 (n1 + k) p.2 k
    rw [wsucc (by omega), decide_eq_true (by omega), apc_ok hI.1.symm (by show n1 + k + 1 ≤ _; omega)] at hp
    exact Runs.piece ok6 mx hp rfl (by rfl) hr
  · have hp := Am1e (List.replicate n0 101) (List.replicate n1 102) (List.replicate n2 103) n0 n1 n2 p.1 (n1 + 64) p.2 64
    rw [show n1 + 64 = (n1 + 63) + 1 from rfl, wpred (by omega), decide_eq_false (by omega), decide_eq_true (by omega), decide_eq_true (by have := hI.2; omega)] at hp
    exact Runs.piece ok6 mx hp rfl (by rfl) (AM2 z0 z1 z2)
theorem AM0 {n0 n1 n2 : Nat} (z0 : n0 ≤ 1099511627700) (z1 : n1 ≤ 1099511627700) (z2 : n2 ≤ 1099511627700) : Runs Try.prog S6 Try.f8 4 K8b (b8 0 (0 : Nat) (.sl 1 0 n0) (hA0 (List.replicate n0 101) (List.replicate n1 102) (List.replicate n2 103) n0 n1 n2)) (.one (.c (.bool true true))) (hA3 (List.replicate n0 101) (List.replicate n1 102) (List.replicate n2 103) n0 n1 n2) := by
  have hz := Am0z (List.replicate n0 101) (List.replicate n1 102) (List.replicate n2 103) n0 n1 n2 0
  rw [wsucc (by omega), decide_eq_true (by omega), apc_ok (by rw [List.length_replicate]) (by show n0 + 1 ≤ _; omega)] at hz
  refine Runs.piece ok6 mx hz rfl (by rfl) ?_
  refine loopG (st := fun k (p : List Int × Nat) => b8 0 k (.sl 4 0 (n0 + k)) ((hA1 (List.replicate n0 101) (List.replicate n1 102) (List.replicate n2 103) n0 n1 n2) ++ [.arr B1 p.1 p.2 [1]])) (I := fun k p => p.1.length = n0 + k ∧ p.2 + 1 = n0 + k) (n := 64) (fun k p hk hI => ⟨(p.1 ++ [7], n0 + k), ⟨by rw [List.length_append, hI.1]; show n0 + k + 1 = _; omega, by show n0 + k + 1 = _; omega⟩, fun hr => ?_⟩) (fun p hI => ?_) 63 1 ((List.replicate n0 101) ++ [7], n0) (by omega) ⟨by rw [List.length_append, List.length_replicate]; rfl, rfl⟩
  · have hp := Am0s (List.replicate n0 101) (List.replicate n1 102) (List.replicate n2 103) n0 n1 n2 p.1 (n0 + k) p.2 k
    rw [wsucc (by omega), decide_eq_true (by omega), apc_ok hI.1.symm (by show n0 + k + 1 ≤ _; omega)] at hp
    exact Runs.piece ok6 mx hp rfl (by rfl) hr
  · have hp := Am0e (List.replicate n0 101) (List.replicate n1 102) (List.replicate n2 103) n0 n1 n2 p.1 (n0 + 64) p.2 64
    rw [show n0 + 64 = (n0 + 63) + 1 from rfl, wpred (by omega), decide_eq_false (by omega), decide_eq_true (by omega), decide_eq_true (by have := hI.2; omega)] at hp
    exact Runs.piece ok6 mx hp rfl (by rfl) (AM1 z0 z1 z2)
theorem AF2 {n0 n1 n2 : Nat} (z0 : n0 ≤ 1099511627700) (z1 : n1 ≤ 1099511627700) (z2 : n2 ≤ 1099511627700) {c : List Int} (e2 : c.length = n2) : Runs Try.prog S6 Try.f8 4 K8a (a8 2 (0 : Nat) (hA0 (List.replicate n0 101) (List.replicate n1 102) c n0 n1 n2)) (.one (.c (.bool true true))) (hA3 (List.replicate n0 101) (List.replicate n1 102) (List.replicate n2 103) n0 n1 n2) := by
  refine loopG (st := fun k (x : List Int) => a8 2 k (hA0 (List.replicate n0 101) (List.replicate n1 102) x n0 n1 n2)) (I := fun k x => x.length = n2 ∧ x.take k = List.replicate k 103) (n := n2) (fun k x hk hI => ⟨x.set k 103, ⟨by rw [List.length_set, hI.1], take_set_succ (by rw [hI.1]; exact hk) hI.2⟩, fun hr => ?_⟩) (fun x hI => ?_) n2 0 c (by omega) ⟨e2, rfl⟩
  · have hp := Af2s (List.replicate n0 101) (List.replicate n1 102) x n0 n1 n2 k
    rw [wsucc (by omega), decide_eq_true (by omega), decide_eq_true (by omega), Nat.zero_add, Int.toNat_natCast] at hp
    exact Runs.piece ok6 mx hp rfl (by rfl) hr
  · obtain rfl : x = (List.replicate n2 103) := by rw [← hI.2, ← hI.1, List.take_length]
    exact Runs.piece ok6 mx (Af2e (List.replicate n0 101) (List.replicate n1 102) (List.replicate n2 103) n0 n1 n2 n2) (by rw [decide_eq_false (by omega)]) (by rfl) (AM0 z0 z1 z2)
theorem AF1 {n0 n1 n2 : Nat} (z0 : n0 ≤ 1099511627700) (z1 : n1 ≤ 1099511627700) (z2 : n2 ≤ 1099511627700) {b c : List Int} (e1 : b.length = n1) (e2 : c.length = n2) : Runs Try.prog S6 Try.f8 4 K8a (a8 1 (0 : Nat) (hA0 (List.replicate n0 101) b c n0 n1 n2)) (.one (.c (.bool true true))) (hA3 (List.replicate n0 101) (List.replicate n1 102) (List.replicate n2 103) n0 n1 n2) := by
  refine loopG (st := fun k (x : List Int) => a8 1 k (hA0 (List.replicate n0 101) x c n0 n1 n2)) (I := fun k x => x.length = n1 ∧ x.take k = List.replicate k 102) (n := n1) (fun k x hk hI => ⟨x.set k 102, ⟨by rw [List.length_set, hI.1], take_set_succ (by rw [hI.1]; exact hk) hI.2⟩, fun hr => ?_⟩) (fun x hI => ?_) n1 0 b (by omega) ⟨e1, rfl⟩
  · have hp := Af1s (List.replicate n0 101) x c n0 n1 n2 k
    rw [wsucc (by omega), decide_eq_true (by omega), decide_eq_true (by omega), Nat.zero_add, Int.toNat_natCast] at hp
    exact Runs.piece ok6 mx hp rfl (by rfl) hr
  · obtain rfl : x = (List.replicate n1 102) := by rw [← hI.2, ← hI.1, List.take_length]
    exact Runs.piece ok6 mx (Af1e (List.replicate n0 101) (List.replicate n1 102) c n0 n1 n2 n1) (by rw [decide_eq_false (by omega)]) (by rfl) (AF2 z0 z1 z2 e2)
theorem AF0 {n0 n1 n2 : Nat} (z0 : n0 ≤ 1099511627700) (z1 : n1 ≤ 1099511627700) (z2 : n2 ≤ 1099511627700) {a b c : List Int} (e0 : a.length = n0) (e1 : b.length = n1) (e2 : c.length = n2) : Runs Try.prog S6 Try.f8 4 K8a (a8 0 (0 : Nat) (hA0 a b c n0 n1 n2)) (.one (.c (.bool true true))) (hA3 (List.replicate n0 101) (List.replicate n1 102) (List.replicate n2 103) n0 n1 n2) := by
  refine loopG (st := fun k (x : List Int) => a8 0 k (hA0 x b c n0 n1 n2)) (I := fun k x => x.length = n0 ∧ x.take k = List.replicate k 101) (n := n0) (fun k x hk hI => ⟨x.set k 101, ⟨by rw [List.length_set, hI.1], take_set_succ (by rw [hI.1]; exact hk) hI.2⟩, fun hr => ?_⟩) (fun x hI => ?_) n0 0 a (by omega) ⟨e0, rfl⟩
  · have hp := Af0s x b c n0 n1 n2 k
    rw [wsucc (by omega), decide_eq_true (by omega), decide_eq_true (by omega), Nat.zero_add, Int.toNat_natCast] at hp
    exact Runs.piece ok6 mx hp rfl (by rfl) hr
  · obtain rfl : x = (List.replicate n0 101) := by rw [← hI.2, ← hI.1, List.take_length]
    exact Runs.piece ok6 mx (Af0e (List.replicate n0 101) b c n0 n1 n2 n0) (by rw [decide_eq_false (by omega)]) (by rfl) (AF1 z0 z1 z2 e1 e2)
theorem Aall {n0 n1 n2 : Nat} (z0 : n0 ≤ 1099511627700) (z1 : n1 ≤ 1099511627700) (z2 : n2 ≤ 1099511627700) {a b c : List Int} (e0 : a.length = n0) (e1 : b.length = n1) (e2 : c.length = n2) : Runs Try.prog S6 Try.f8 4 [.code (cd Try.f8)] (s8 (hA0 a b c n0 n1 n2)) (.one (.c (.bool true true))) (hA3 (List.replicate n0 101) (List.replicate n1 102) (List.replicate n2 103) n0 n1 n2) :=
  Runs.piece ok6 mx (As a b c n0 n1 n2) rfl (by rfl) (AF0 z0 z1 z2 e0 e1 e2)
def hB0 (b : List Int) (n1 : Nat) : Heap := [.vals [.c .nils, .c (.sl 1 0 n1), .c .nils], .arr B1 b 0 []]
def hB1 (b : List Int) (n1 : Nat) : Heap := [.vals [.c .nils, .c (.sl 1 0 n1), .c .nils], .arr B1 b 0 []]
def hB2 (b : List Int) (n1 : Nat) : Heap := [.vals [.c .nils, .c (.sl 1 0 n1), .c .nils], .frz B1 b]
def hB3 (b : List Int) (n1 : Nat) : Heap := [.vals [.c .nils, .c (.sl 1 0 n1), .c .nils], .frz B1 b]
theorem Bs (b : List Int) (n1 : Nat) : pieceT [0, 3, 4] [4] [0, 1] [] (r8 [.code (cd Try.f8)] (s8 (hB0 b n1))) = some ([], K8a, a8 0 (0 : Nat) (hB0 b n1)) := by kernel_rfl
theorem Bf0e (b : List Int) (n1 : Nat) (k : Nat) : pieceT [0, 3, 4] [4] [0, 1] [true, false] (r8 K8a (a8 0 k (hB0 b n1))) = some ([true, decide ((k : Int) < 0)], K8a, a8 1 (0 : Nat) (hB0 b n1)) := by kernel_rfl
theorem Bf1e (b : List Int) (n1 : Nat) (k : Nat) : pieceT [0, 3, 4] [4] [0, 1] [true, false] (r8 K8a (a8 1 k (hB0 b n1))) = some ([true, decide ((k : Int) < n1)], K8a, a8 2 (0 : Nat) (hB0 b n1)) := by kernel_rfl
theorem Bf1s (b : List Int) (n1 : Nat) (k : Nat) : pieceT [0, 3, 4] [4] [0, 1] [true, true, true, true] (r8 K8a (a8 1 k (hB0 b n1))) = some ([true, decide ((k : Int) < n1), true, decide (0 ≤ (k : Int) ∧ (k : Int) < n1)], K8a, a8 1 (IntKind.i64.wrap ((k : Int) + 1)) (hB0 (b.set (0 + (k : Int).toNat) 102) n1)) := by kernel_rfl
theorem Bf2e (b : List Int) (n1 : Nat) (k : Nat) : pieceT [0, 5, 6, 7] [7] [0, 1] [true, false, true] (r8 K8a (a8 2 k (hB0 b n1))) = some ([true, decide ((k : Int) < 0), true], K8b, b8 0 (0 : Nat) (.nils) (hB0 b n1)) := by kernel_rfl
theorem Bm0z (b : List Int) (n1 : Nat) (k : Nat) : pieceT [0, 5, 6, 7] [7] [0, 1, 3] [true, true] (r8 K8b (b8 0 k .nils (hB0 b n1))) = some ([decide ((k : Int) < 64), true], K8b, b8 0 (IntKind.i64.wrap ((k : Int) + 1)) (.sl 2 0 1) ((hB1 b n1) ++ [.arr B1 [(7 : Int)] 0 []])) := by kernel_rfl
theorem Bm0s (b : List Int) (n1 : Nat) (d : List Int) (q k : Nat) : pieceT [0, 5, 6, 7] [7] [0, 1, 4] [true, true] (r8 K8b (b8 0 k (.sl 2 0 q) ((hB1 b n1) ++ [.arr B1 d 0 []]))) = some ([decide ((k : Int) < 64), apc q d [7]], K8b, b8 0 (IntKind.i64.wrap ((k : Int) + 1)) (.sl 2 0 (q + 1)) ((hB1 b n1) ++ [.arr B1 (d ++ [7]) 0 []])) := by kernel_rfl
theorem Bm0e (b : List Int) (n1 : Nat) (d : List Int) (q k : Nat) : pieceT [0, 5, 6, 7] [7] [0, 1] [false, true, true] (r8 K8b (b8 0 k (.sl 2 0 q) ((hB1 b n1) ++ [.arr B1 d 0 []]))) = some ([decide ((k : Int) < 64), decide (0 ≤ IntKind.i64.wrap ((q : Int) - 1) ∧ IntKind.i64.wrap ((q : Int) - 1) < q), true], K8b, b8 1 (0 : Nat) (.sl 1 0 n1) (hB1 b n1)) := by kernel_rfl
theorem Bm1z (b : List Int) (n1 : Nat) (k : Nat) : pieceT [0, 5, 6, 7] [7] [0, 1, 3] [true, true] (r8 K8b (b8 1 k (.sl 1 0 n1) (hB1 b n1))) = some ([decide ((k : Int) < 64), apc n1 b [7]], K8b, b8 1 (IntKind.i64.wrap ((k : Int) + 1)) (.sl 2 0 (n1 + 1)) ((hB2 b n1) ++ [.arr B1 (b ++ [7]) n1 [1]])) := by kernel_rfl
theorem Bm1s (b : List Int) (n1 : Nat) (d : List Int) (q lo k : Nat) : pieceT [0, 5, 6, 7] [7] [0, 1, 4] [true, true] (r8 K8b (b8 1 k (.sl 2 0 q) ((hB2 b n1) ++ [.arr B1 d lo [1]]))) = some ([decide ((k : Int) < 64), apc q d [7]], K8b, b8 1 (IntKind.i64.wrap ((k : Int) + 1)) (.sl 2 0 (q + 1)) ((hB2 b n1) ++ [.arr B1 (d ++ [7]) q [1]])) := by kernel_rfl
theorem Bm1e (b : List Int) (n1 : Nat) (d : List Int) (q lo k : Nat) : pieceT [0, 5, 6, 7] [7] [0, 1] [false, true, true, true] (r8 K8b (b8 1 k (.sl 2 0 q) ((hB2 b n1) ++ [.arr B1 d lo [1]]))) = some ([decide ((k : Int) < 64), decide (0 ≤ IntKind.i64.wrap ((q : Int) - 1) ∧ IntKind.i64.wrap ((q : Int) - 1) < q), decide (lo ≤ 0 + (IntKind.i64.wrap ((q : Int) - 1)).toNat), true], K8b, b8 2 (0 : Nat) .nils (hB2 b n1)) := by kernel_rfl
theorem Bm2z (b : List Int) (n1 : Nat) (k : Nat) : pieceT [0, 5, 6, 7] [7] [0, 1, 3] [true, true] (r8 K8b (b8 2 k .nils (hB2 b n1))) = some ([decide ((k : Int) < 64), true], K8b, b8 2 (IntKind.i64.wrap ((k : Int) + 1)) (.sl 2 0 1) ((hB3 b n1) ++ [.arr B1 [(7 : Int)] 0 []])) := by kernel_rfl
theorem Bm2s (b : List Int) (n1 : Nat) (d : List Int) (q k : Nat) : pieceT [0, 5, 6, 7] [7] [0, 1, 4] [true, true] (r8 K8b (b8 2 k (.sl 2 0 q) ((hB3 b n1) ++ [.arr B1 d 0 []]))) = some ([decide ((k : Int) < 64), apc q d [7]], K8b, b8 2 (IntKind.i64.wrap ((k : Int) + 1)) (.sl 2 0 (q + 1)) ((hB3 b n1) ++ [.arr B1 (d ++ [7]) 0 []])) := by kernel_rfl
theorem Bm2e (b : List Int) (n1 : Nat) (d : List Int) (q k : Nat) : pieceT [0, 8, 9] [9] [0, 1] [false, true] (r8 K8b (b8 2 k (.sl 2 0 q) ((hB3 b n1) ++ [.arr B1 d 0 []]))) = some ([decide ((k : Int) < 64), decide (0 ≤ IntKind.i64.wrap ((q : Int) - 1) ∧ IntKind.i64.wrap ((q : Int) - 1) < q)], K8c, c8 0 (0 : Nat) (hB3 b n1)) := by kernel_rfl
theorem Br0e (b : List Int) (n1 : Nat) (k : Nat) : pieceT [0, 8, 9] [9] [0, 1] [true, false] (r8 K8c (c8 0 k (hB3 b n1))) = some ([true, decide ((k : Int) < 0)], K8c, c8 1 (0 : Nat) (hB3 b n1)) := by kernel_rfl
theorem Br1s (b : List Int) (n1 : Nat) (k : Nat) : pieceT [0, 8, 9] [9] [0, 1] [true, true, true, true, false] (r8 K8c (c8 1 k (hB3 b n1))) = some ([true, decide ((k : Int) < n1), true, decide (0 ≤ (k : Int) ∧ (k : Int) < n1), b.getD (0 + (k : Int).toNat) 0 != 102], K8c, c8 1 (IntKind.i64.wrap ((k : Int) + 1)) (hB3 b n1)) := by kernel_rfl
theorem Br1e (b : List Int) (n1 : Nat) (k : Nat) : pieceT [0, 8, 9] [9] [0, 1] [true, false] (r8 K8c (c8 1 k (hB3 b n1))) = some ([true, decide ((k : Int) < n1)], K8c, c8 2 (0 : Nat) (hB3 b n1)) := by kernel_rfl
theorem Br2e (b : List Int) (n1 : Nat) (k : Nat) : endT Try.prog Try.f8 [0, 1] [true, false] (r8 K8c (c8 2 k (hB3 b n1))) = some ([true, decide ((k : Int) < 0)], .one (.c (.bool true true)), (hB3 b n1)) := by kernel_rfl
theorem BR2 {n1 : Nat} (z1 : n1 ≤ 1099511627700) : Runs Try.prog S6 Try.f8 2 K8c (c8 2 (0 : Nat) (hB3 (List.replicate n1 102) n1)) (.one (.c (.bool true true))) (hB3 (List.replicate n1 102) n1) :=
  Runs.last ok6 mx (Br2e (List.replicate n1 102) n1 0) rfl (by rfl)
theorem BR1 {n1 : Nat} (z1 : n1 ≤ 1099511627700) : Runs Try.prog S6 Try.f8 2 K8c (c8 1 (0 : Nat) (hB3 (List.replicate n1 102) n1)) (.one (.c (.bool true true))) (hB3 (List.replicate n1 102) n1) := by
  refine loopG (st := fun k (_ : Unit) => c8 1 k (hB3 (List.replicate n1 102) n1)) (I := fun _ _ => True) (n := n1) (fun k a hk _ => ⟨(), trivial, fun hr => ?_⟩) (fun _ _ => ?_) n1 0 () (by omega) trivial
  · have hp := Br1s (List.replicate n1 102) n1 k
    rw [wsucc (by omega), decide_eq_true (by omega), decide_eq_true (by omega), Nat.zero_add, Int.toNat_natCast, getD_rep hk] at hp
    exact Runs.piece ok6 mx hp rfl (by rfl) hr
  · exact Runs.piece ok6 mx (Br1e (List.replicate n1 102) n1 n1) (by rw [decide_eq_false (by omega)]) (by rfl) (BR2 z1)
theorem BR0 {n1 : Nat} (z1 : n1 ≤ 1099511627700) : Runs Try.prog S6 Try.f8 2 K8c (c8 0 (0 : Nat) (hB3 (List.replicate n1 102) n1)) (.one (.c (.bool true true))) (hB3 (List.replicate n1 102) n1) :=
  Runs.piece ok6 mx (Br0e (List.replicate n1 102) n1 0) rfl (by rfl) (BR1 z1)
theorem BM2 {n1 : Nat} (z1 : n1 ≤ 1099511627700) : Runs Try.prog S6 Try.f8 2 K8b (b8 2 (0 : Nat) .nils (hB2 (List.replicate n1 102) n1)) (.one (.c (.bool true true))) (hB3 (List.replicate n1 102) n1) := by
  have hz := Bm2z (List.replicate n1 102) n1 0
  rw [wsucc (by omega), decide_eq_true (by omega)] at hz
  refine Runs.piece ok6 mx hz rfl (by rfl) ?_
  refine loopG (st := fun k (p : List Int) => b8 2 k (.sl 2 0 k) ((hB3 (List.replicate n1 102) n1) ++ [.arr B1 p 0 []])) (I := fun k p => p.length = k) (n := 64) (fun k p hk hI => ⟨p ++ [7], by rw [List.length_append, hI]; rfl, fun hr => ?_⟩) (fun p hI => ?_) 63 1 [7] (by omega) rfl
  · have hp := Bm2s (List.replicate n1 102) n1 p k k
    rw [wsucc (by omega), decide_eq_true (by omega), apc_ok hI.symm (by show k + 1 ≤ _; omega)] at hp
    exact Runs.piece ok6 mx hp rfl (by rfl) hr
  · have hp := Bm2e (List.replicate n1 102) n1 p 64 64
    rw [show (64 : Nat) = 63 + 1 from rfl, wpred (by omega), decide_eq_false (by omega), decide_eq_true (by omega)] at hp
    exact Runs.piece ok6 mx hp rfl (by rfl) (BR0 z1)
theorem BM1 {n1 : Nat} (z1 : n1 ≤ 1099511627700) : Runs Try.prog S6 Try.f8 2 K8b (b8 1 (0 : Nat) (.sl 1 0 n1) (hB1 (List.replicate n1 102) n1)) (.one (.c (.bool true true))) (hB3 (List.replicate n1 102) n1) := by
  have hz := Bm1z (List.replicate n1 102) n1 0
  rw [wsucc (by omega), decide_eq_true (by omega), apc_ok (by rw [List.length_replicate]) (by show n1 + 1 ≤ _; omega)] at hz
  refine Runs.piece ok6 mx hz rfl (by rfl) ?_
  refine loopG (st := fun k (p : List Int × Nat) => b8 1 k (.sl 2 0 (n1 + k)) ((hB2 (List.replicate n1 102) n1) ++ [.arr B1 p.1 p.2 [1]])) (I := fun k p => p.1.length = n1 + k ∧ p.2 + 1 = n1 + k) (n := 64) (fun k p hk hI => ⟨(p.1 ++ [7], n1 + k), ⟨by rw [List.length_append, hI.1]; show n1 + k + 1 = _; omega, by show n1 + k + 1 = _; omega⟩, fun hr => ?_⟩) (fun p hI => ?_) 63 1 ((List.replicate n1 102) ++ [7], n1) (by omega) ⟨by rw [List.length_append, List.length_replicate]; rfl, rfl⟩
  · have hp := Bm1s (List.replicate n1 102) n1 p.1 (n1 + k) p.2 k
    rw [wsucc (by omega), decide_eq_true (by omega), apc_ok hI.1.symm (by show n1 + k + 1 ≤ _; omega)] at hp
    exact Runs.piece ok6 mx hp rfl (by rfl) hr
  · have hp := Bm1e (List.replicate n1 102) n1 p.1 (n1 + 64) p.2 64
    rw [show n1 + 64 = (n1 + 63) + 1 from rfl, wpred (by omega), decide_eq_false (by omega), decide_eq_true (by omega), decide_eq_true (by have := hI.2; omega)] at hp
    exact Runs.piece ok6 mx hp rfl (by rfl) (BM2 z1)
theorem BM0 {n1 : Nat} (z1 : n1 ≤ 1099511627700) : Runs Try.prog S6 Try.f8 2 K8b (b8 0 (0 : Nat) .nils (hB0 (List.replicate n1 102) n1)) (.one (.c (.bool true true))) (hB3 (List.replicate n1 102) n1) := by
  have hz := Bm0z (List.replicate n1 102) n1 0
  rw [wsucc (by omega), decide_eq_true (by omega)] at hz
  refine Runs.piece ok6 mx hz rfl (by rfl) ?_
  refine loopG (st := fun k (p : List Int) => b8 0 k (.sl 2 0 k) ((hB1 (List.replicate n1 102) n1) ++ [.arr B1 p 0 []])) (I := fun k p => p.length = k) (n := 64) (fun k p hk hI => ⟨p ++ [7], by rw [List.length_append, hI]; rfl, fun hr => ?_⟩) (fun p hI => ?_) 63 1 [7] (by omega) rfl
  · have hp := Bm0s (List.replicate n1 102) n1 p k k
    rw [wsucc (by omega), decide_eq_true (by omega), apc_ok hI.symm (by show k + 1 ≤ _; omega)] at hp
    exact Runs.piece ok6 mx hp rfl (by rfl) hr
  · have hp := Bm0e (List.replicate n1 102) n1 p 64 64
    rw [show (64 : Nat) = 63 + 1 from rfl, wpred (by omega), decide_eq_false (by omega), decide_eq_true (by omega)] at hp
    exact Runs.piece ok6 mx hp rfl (by rfl) (BM1 z1)
theorem BF2 {n1 : Nat} (z1 : n1 ≤ 1099511627700)  : Runs Try.prog S6 Try.f8 2 K8a (a8 2 (0 : Nat) (hB0 (List.replicate n1 102) n1)) (.one (.c (.bool true true))) (hB3 (List.replicate n1 102) n1) := by
  exact Runs.piece ok6 mx (Bf2e (List.replicate n1 102) n1 0) rfl (by rfl) (BM0 z1)
theorem BF1 {n1 : Nat} (z1 : n1 ≤ 1099511627700) {b : List Int} (e1 : b.length = n1) : Runs Try.prog S6 Try.f8 2 K8a (a8 1 (0 : Nat) (hB0 b n1)) (.one (.c (.bool true true))) (hB3 (List.replicate n1 102) n1) := by
  refine loopG (st := fun k (x : List Int) => a8 1 k (hB0 x n1)) (I := fun k x => x.length = n1 ∧ x.take k = List.replicate k 102) (n := n1) (fun k x hk hI => ⟨x.set k 102, ⟨by rw [List.length_set, hI.1], take_set_succ (by rw [hI.1]; exact hk) hI.2⟩, fun hr => ?_⟩) (fun x hI => ?_) n1 0 b (by omega) ⟨e1, rfl⟩
  · have hp := Bf1s x n1 k
    rw [wsucc (by omega), decide_eq_true (by omega), decide_eq_true (by omega), Nat.zero_add, Int.toNat_natCast] at hp
    exact Runs.piece ok6 mx hp rfl (by rfl) hr
  · obtain rfl : x = (List.replicate n1 102) := by rw [← hI.2, ← hI.1, List.take_length]
    exact Runs.piece ok6 mx (Bf1e (List.replicate n1 102) n1 n1) (by rw [decide_eq_false (by omega)]) (by rfl) (BF2 z1 )
theorem BF0 {n1 : Nat} (z1 : n1 ≤ 1099511627700) {b : List Int} (e1 : b.length = n1) : Runs Try.prog S6 Try.f8 2 K8a (a8 0 (0 : Nat) (hB0 b n1)) (.one (.c (.bool true true))) (hB3 (List.replicate n1 102) n1) := by
  exact Runs.piece ok6 mx (Bf0e b n1 0) rfl (by rfl) (BF1 z1 e1)
theorem Ball {n1 : Nat} (z1 : n1 ≤ 1099511627700) {b : List Int} (e1 : b.length = n1) : Runs Try.prog S6 Try.f8 2 [.code (cd Try.f8)] (s8 (hB0 b n1)) (.one (.c (.bool true true))) (hB3 (List.replicate n1 102) n1) :=
  Runs.piece ok6 mx (Bs b n1) rfl (by rfl) (BF0 z1 e1)

def T8 (vs : List V1) (hl : Heap) : Tree (SV × Heap) :=
  match vs, hl with
  | [.c (.sla 0 0 3 0 3)], [.vals [.c (.sl 1 0 n0), .c (.sl 2 0 n1), .c (.sl 3 0 n2)], .arr (.int .u8) a 0 [], .arr (.int .u8) b 0 [], .arr (.int .u8) c 0 []] =>
    Tree.chk (decide (List.length a = n0 ∧ List.length b = n1 ∧ List.length c = n2 ∧ n0 ≤ 1099511627700 ∧ n1 ≤ 1099511627700 ∧ n2 ≤ 1099511627700))
      (.ret (.one (.c (.bool true true)), hA3 (List.replicate n0 101) (List.replicate n1 102) (List.replicate n2 103) n0 n1 n2))
  | [.c (.sla 0 0 3 0 3)], [.vals [.c .nils, .c (.sl 1 0 n1), .c .nils], .arr (.int .u8) b 0 []] =>
    Tree.chk (decide (List.length b = n1 ∧ n1 ≤ 1099511627700)) (.ret (.one (.c (.bool true true)), hB3 (List.replicate n1 102) n1))
  | _, _ => .fail
theorem ok_8 : EntryOk Try.prog S6.gl 8 T8 := by
  refine EntryOk.of_runs (S := S6) (fn := Try.f8) (c := cd Try.f8) (by kernel_rfl) (by kernel_rfl) (by kernel_rfl) (fun vs hl r hl' h => ?_)
  unfold T8 at h
  split at h
  · obtain ⟨h1, h2⟩ := val_chk h
    obtain ⟨e0, e1, e2, z0, z1, z2⟩ := of_decide_eq_true h1
    obtain h3 := Option.some.inj h2
    obtain ⟨rfl, rfl⟩ := Prod.mk.inj h3
    exact Aall z0 z1 z2 e0 e1 e2
  · obtain ⟨h1, h2⟩ := val_chk h
    obtain ⟨e1, z1⟩ := of_decide_eq_true h1
    obtain h3 := Option.some.inj h2
    obtain ⟨rfl, rfl⟩ := Prod.mk.inj h3
    exact Ball z1 e1
  · cases h
noncomputable def S8 : Tab := S6.put 8 0 T8
theorem ok8 : SpecOk Try.prog S8 := ok6.put ok_8
end Go.LB
