/-
  LedgerBlocks, part 2: numbers as bytes.
-/
import Derived.Test.YticfnbhbpcpgeaaLb1
namespace Go.LB
open Go Go.SX Go.Proofs

/-- a number's bytes, seven bits each -/
def num : Nat → Nat → List Int
  | 0, _ => []
  | f + 1, n => if 127 < n then ((n % 128 + 128 : Nat) : Int) :: num f (n / 128) else [(n : Int)]

theorem num_len : ∀ (f n : Nat), (num f n).length ≤ f
  | 0, _ => Nat.le_refl _
  | f + 1, n => by
    unfold num
    split
    · have := num_len f (n / 128); simp; omega
    · simp
theorem num_byte : ∀ (f n : Nat), ∀ x ∈ num f n, 0 ≤ x ∧ x < 256
  | 0, _, x, h => by cases h
  | f + 1, n, x, h => by
    unfold num at h
    split at h
    · rcases List.mem_cons.1 h with rfl | h
      · omega
      · exact num_byte f (n / 128) x h
    · rename_i hn
      simp only [List.mem_singleton] at h
      omega

set_option maxRecDepth 100000 in
theorem or128 (n : Nat) : IntKind.u8.wrap ((BitVec.ofInt IntKind.u8.bits (IntKind.u8.wrap (n : Int)) ||| BitVec.ofInt IntKind.u8.bits 128).toNat : Int) = ((n % 128 + 128 : Nat) : Int) := by
  have key : ∀ m : Fin 256, IntKind.u8.wrap ((BitVec.ofInt 8 ((m.val : Nat) : Int) ||| BitVec.ofInt 8 128).toNat : Int) = ((m.val % 128 + 128 : Nat) : Int) := by decide
  have h := key ⟨n % 256, Nat.mod_lt _ (by omega)⟩
  have hw : IntKind.u8.wrap (n : Int) = ((n % 256 : Nat) : Int) := by rw [IntKind.wrap_u8]; omega
  rw [hw]
  have hm : n % 256 % 128 = n % 128 := by omega
  simp only at h
  rw [hm] at h
  exact h
theorem rem128 (n : Nat) : IntKind.u8.wrap (IntKind.u8.wrap (Int.tmod (n : Int) 128) + 128) = ((n % 128 + 128 : Nat) : Int) := by
  rw [IntKind.wrap_u8, IntKind.wrap_u8, Int.tmod_eq_emod_of_nonneg (by omega)]
  omega
theorem shr7 (n : Nat) : Int.fdiv (n : Int) (2 ^ min (Int.toNat 7) IntKind.u64.bits) = ((n / 128 : Nat) : Int) := by
  have : (2 : Int) ^ min (Int.toNat 7) IntKind.u64.bits = 128 := by decide
  rw [this, Int.fdiv_eq_ediv_of_nonneg _ (by omega)]
  omega
theorem quo128 (n : Nat) (h : n < 18446744073709551616) : IntKind.u64.wrap (Int.tdiv (n : Int) 128) = ((n / 128 : Nat) : Int) := by
  rw [Int.tdiv_eq_ediv_of_nonneg (by omega)]
  have : IntKind.u64.wrap ((n : Int) / 128) = ((n : Int) / 128) % 18446744073709551616 := by simp [IntKind.wrap, IntKind.bits, IntKind.signed]
  rw [this]
  omega
theorem low7 (n : Nat) (h : n ≤ 127) : IntKind.u8.wrap (n : Int) = (n : Int) := by rw [IntKind.wrap_u8]; omega

/-! ### AppendNumber -/
noncomputable def r10 (is : List Item) (s : St) : Tree Out := runK S13 Try.prog noLoops 400 is s
noncomputable def s10 (xs : List Int) (len : Nat) (n : Nat) : St := ⟨enterT Try.f10 [.c (.ro B1 xs len), .c (.int false .u64 n)], []⟩
noncomputable def K10 : List Item := leftT [true] (r10 [.code (cd Try.f10)] (s10 [] 0 0))
noncomputable def st10 (acc : List Int) (n : Int) : St := ⟨slotsOf 24 [(1, one (.int false .u64 n)), (5, one (.sl 0 0 acc.length))], [.arr B1 acc 0 []]⟩

theorem q1 (xs : List Int) (len n : Nat) : pieceT [1, 5] [] [1] [true] (r10 [.code (cd Try.f10)] (s10 xs len n)) =
    some ([decide (0 < 2 ∧ 2 ≤ ([(xs, len), ([], 0)] : Xs).length ∧ 2 ≤ 1099511627776 ∧ tot [(xs, len), ([], 0)] 2 ≤ 1099511627776)], K10, st10 (cat [(xs, len), ([], 0)] 2) n) := by kernel_rfl
theorem q2 (acc : List Int) (n : Nat) : pieceT [1, 5] [] [3] [true, true] (r10 K10 (st10 acc n)) =
    some ([decide ((n : Int) > 127), decide (acc.length = acc.length) && (room (acc.length + 1) (Try.prog.bytesOf 5) && room (acc.length + 1) 1)], K10,
      ⟨slotsOf 24 [(1, one (.int false .u64 (Int.fdiv (n : Int) (2 ^ min (Int.toNat 7) IntKind.u64.bits)))), (5, one (.sl 0 0 (acc.length + 1)))],
        [.arr B1 (acc ++ [IntKind.u8.wrap ((BitVec.ofInt IntKind.u8.bits (IntKind.u8.wrap (n : Int)) ||| BitVec.ofInt IntKind.u8.bits 128).toNat : Int)]) 0 []]⟩) := by kernel_rfl
theorem q3 (acc : List Int) (n : Nat) : endT Try.prog Try.f10 [3] [false, true] (r10 K10 (st10 acc n)) =
    some ([decide ((n : Int) > 127), decide (acc.length = acc.length) && (room (acc.length + 1) (Try.prog.bytesOf 5) && room (acc.length + 1) 1)], .one (.c (.sl 0 0 (acc.length + 1))), [.arr B1 (acc ++ [IntKind.u8.wrap (n : Int)]) 0 []]) := by kernel_rfl

theorem number_loop : ∀ (f n : Nat) (acc : List Int), n < 128 ^ (f + 1) → acc.length + f ≤ 1099511627800 →
    Runs Try.prog S13 Try.f10 0 K10 (st10 acc n) (.one (.c (.sl 0 0 (acc ++ num (f + 1) n).length))) [.arr B1 (acc ++ num (f + 1) n) 0 []] := by
  intro f
  induction f with
  | zero =>
    intro n acc h hl
    have hn : ¬ 127 < n := by omega
    unfold num
    rw [if_neg hn]
    have hp := q3 acc n
    rw [low7 n (by omega)] at hp
    have e : (acc ++ [(n : Int)]).length = acc.length + 1 := by simp
    rw [e]
    refine Runs.last ok13 mx hp ?_ (by rfl)
    rw [decide_eq_false (by omega), decide_eq_true rfl, rooms5 (by omega)]; rfl
  | succ f ih =>
    intro n acc h hl
    unfold num
    by_cases hn : 127 < n
    · rw [if_pos hn]
      have hp := q2 acc n
      rw [or128, shr7] at hp
      have hd : n / 128 < 128 ^ (f + 1) := by
        rw [Nat.div_lt_iff_lt_mul (by omega)]
        rw [Nat.pow_succ] at h
        exact h
      have ih := ih (n / 128) (acc ++ [((n % 128 + 128 : Nat) : Int)]) hd (by simp; omega)
      rw [List.append_assoc] at ih
      refine Runs.piece ok13 mx hp ?_ (by rfl) ?_
      · rw [decide_eq_true (by omega), decide_eq_true rfl, rooms5 (by omega)]; rfl
      · have e : st10 (acc ++ [((n % 128 + 128 : Nat) : Int)]) ((n / 128 : Nat) : Int) = ⟨slotsOf 24 [(1, one (.int false .u64 ((n / 128 : Nat) : Int))), (5, one (.sl 0 0 (acc.length + 1)))], [.arr B1 (acc ++ [((n % 128 + 128 : Nat) : Int)]) 0 []]⟩ := by
          unfold st10; rw [List.length_append]; rfl
        rw [← e]
        exact ih
    · rw [if_neg hn]
      have hp := q3 acc n
      rw [low7 n (by omega)] at hp
      have e : (acc ++ [(n : Int)]).length = acc.length + 1 := by simp
      rw [e]
      refine Runs.last ok13 mx hp ?_ (by rfl)
      rw [decide_eq_false (by omega), decide_eq_true rfl, rooms5 (by omega)]; rfl

/-- what AppendNumber yields, of bytes that are only read -/
def T10 (vs : List V1) (hl : Heap) : Tree (SV × Heap) :=
  match vs, hl with
  | [.c (.ro (.int .u8) xs len), .c (.int _ .u64 n)], [] => Tree.chk (decide (len ≤ 1099511627776 ∧ 0 ≤ n ∧ n < 18446744073709551616))
      (.ret (.one (.c (.sl 0 0 (bts (xs, len) ++ num 10 n.toNat).length)), [.arr B1 (bts (xs, len) ++ num 10 n.toNat) 0 []]))
  | _, _ => .fail

theorem number_runs (xs : List Int) (len n : Nat) (hlen : len ≤ 1099511627776) (hn : n < 18446744073709551616) :
    Runs Try.prog S13 Try.f10 0 [.code (cd Try.f10)] (s10 xs len n) (.one (.c (.sl 0 0 (bts (xs, len) ++ num 10 n).length))) [.arr B1 (bts (xs, len) ++ num 10 n) 0 []] := by
  have hc : cat [(xs, len), ([], 0)] 2 = bts (xs, len) := by simp [cat, bts]
  have ht : tot [(xs, len), ([], 0)] 2 = len := by simp [tot]
  have hb : (bts (xs, len)).length ≤ len := by simp [bts]; omega
  refine Runs.piece ok13 mx (q1 xs len n) ?_ (by rfl) ?_
  · rw [decide_eq_true ⟨by omega, by simp, by omega, by omega⟩]
  · rw [hc]
    exact number_loop 9 n (bts (xs, len)) (by omega) (by omega)

theorem lit_int {P : Program} {S : Tab} {fn : Func} {m : Nat} {is : List Item} {s s' : St} {v : SV} {hl : Heap} (l : List Nat) (h : Runs P S fn m is s' v hl) (e : s.unlit l = s') : Runs P S fn m is s v hl := Runs.unlit l (e ▸ h)

theorem number_ok : EntryOk Try.prog S13.gl 10 T10 := by
  refine EntryOk.of_runs (S := S13) (fn := Try.f10) (c := cd Try.f10) (by kernel_rfl) (by kernel_rfl) (by kernel_rfl) (fun vs hl r hl' h => ?_)
  unfold T10 at h
  split at h
  · rename_i xs len l n
    obtain ⟨h1, h2⟩ := val_chk h
    obtain ⟨h0, hn0, hn1⟩ := of_decide_eq_true h1
    have := val_ret h2
    simp only [Prod.mk.injEq] at this
    obtain ⟨rfl, rfl⟩ := this
    obtain ⟨m, rfl⟩ : ∃ m : Nat, n = (m : Int) := ⟨n.toNat, by omega⟩
    have := number_runs xs len m h0 (by omega)
    refine lit_int [1] this ?_
    kernel_rfl
  · cases h
noncomputable def S10 : Tab := S13.put 10 1 T10
theorem ok10 : SpecOk Try.prog S10 := ok13.put number_ok

/-! ### Number -/
noncomputable def r12 (is : List Item) (s : St) : Tree Out := runK S10 Try.prog noLoops 400 is s
noncomputable def s12 (n : Nat) : St := ⟨enterT Try.f12 [.c (.int false .u64 n)], []⟩
noncomputable def K12 : List Item := leftT [] (r12 [.code (cd Try.f12)] (s12 0))
noncomputable def st12 (acc : List Int) (n : Int) : St := ⟨slotsOf 20 [(0, one (.int false .u64 n)), (3, one (.sl 0 0 acc.length))], [.arr B1 acc 0 []]⟩
noncomputable def st12n (n : Int) : St := ⟨slotsOf 20 [(0, one (.int false .u64 n)), (3, one .nils)], []⟩

theorem w1 (n : Nat) : pieceT [0, 3] [] [] [] (r12 [.code (cd Try.f12)] (s12 n)) = some ([], K12, st12n n) := by kernel_rfl
theorem w2 (n : Nat) : pieceT [0, 3] [] [2] [true, true] (r12 K12 (st12n n)) =
    some ([decide ((n : Int) > 127), true], K12, st12 [IntKind.u8.wrap (IntKind.u8.wrap (Int.tmod (n : Int) 128) + 128)] (IntKind.u64.wrap (Int.tdiv (n : Int) 128))) := by kernel_rfl
theorem w3 (acc : List Int) (n : Nat) : pieceT [0, 3] [] [3] [true, true] (r12 K12 (st12 acc n)) =
    some ([decide ((n : Int) > 127), decide (acc.length = acc.length) && (room (acc.length + 1) (Try.prog.bytesOf 5) && room (acc.length + 1) 1)], K12,
      ⟨slotsOf 20 [(0, one (.int false .u64 (IntKind.u64.wrap (Int.tdiv (n : Int) 128)))), (3, one (.sl 0 0 (acc.length + 1)))],
        [.arr B1 (acc ++ [IntKind.u8.wrap (IntKind.u8.wrap (Int.tmod (n : Int) 128) + 128)]) 0 []]⟩) := by kernel_rfl
theorem w4 (acc : List Int) (n : Nat) : endT Try.prog Try.f12 [3] [false, true] (r12 K12 (st12 acc n)) =
    some ([decide ((n : Int) > 127), decide (acc.length = acc.length) && (room (acc.length + 1) (Try.prog.bytesOf 5) && room (acc.length + 1) 1)], .one (.c (.sl 0 0 (acc.length + 1))), [.arr B1 (acc ++ [IntKind.u8.wrap (n : Int)]) 0 []]) := by kernel_rfl
theorem w5 (n : Nat) : endT Try.prog Try.f12 [2] [false, true] (r12 K12 (st12n n)) =
    some ([decide ((n : Int) > 127), true], .one (.c (.sl 0 0 1)), [.arr B1 [IntKind.u8.wrap (n : Int)] 0 []]) := by kernel_rfl

theorem ref_loop : ∀ (f n : Nat) (acc : List Int), n < 128 ^ (f + 1) → n < 18446744073709551616 → acc.length + f ≤ 1099511627800 →
    Runs Try.prog S10 Try.f12 0 K12 (st12 acc n) (.one (.c (.sl 0 0 (acc ++ num (f + 1) n).length))) [.arr B1 (acc ++ num (f + 1) n) 0 []] := by
  intro f
  induction f with
  | zero =>
    intro n acc h h64 hl
    have hn : ¬ 127 < n := by omega
    unfold num
    rw [if_neg hn]
    have hp := w4 acc n
    rw [low7 n (by omega)] at hp
    have e : (acc ++ [(n : Int)]).length = acc.length + 1 := by simp
    rw [e]
    refine Runs.last ok10 mx hp ?_ (by rfl)
    rw [decide_eq_false (by omega), decide_eq_true rfl, rooms5 (by omega)]; rfl
  | succ f ih =>
    intro n acc h h64 hl
    unfold num
    by_cases hn : 127 < n
    · rw [if_pos hn]
      have hp := w3 acc n
      rw [rem128, quo128 n h64] at hp
      have hd : n / 128 < 128 ^ (f + 1) := by
        rw [Nat.div_lt_iff_lt_mul (by omega)]
        rw [Nat.pow_succ] at h
        exact h
      have ih := ih (n / 128) (acc ++ [((n % 128 + 128 : Nat) : Int)]) hd (by omega) (by simp; omega)
      rw [List.append_assoc] at ih
      refine Runs.piece ok10 mx hp ?_ (by rfl) ?_
      · rw [decide_eq_true (by omega), decide_eq_true rfl, rooms5 (by omega)]; rfl
      · have e : st12 (acc ++ [((n % 128 + 128 : Nat) : Int)]) ((n / 128 : Nat) : Int) = ⟨slotsOf 20 [(0, one (.int false .u64 ((n / 128 : Nat) : Int))), (3, one (.sl 0 0 (acc.length + 1)))], [.arr B1 (acc ++ [((n % 128 + 128 : Nat) : Int)]) 0 []]⟩ := by
          unfold st12; rw [List.length_append]; rfl
        rw [← e]
        exact ih
    · rw [if_neg hn]
      have hp := w4 acc n
      rw [low7 n (by omega)] at hp
      have e : (acc ++ [(n : Int)]).length = acc.length + 1 := by simp
      rw [e]
      refine Runs.last ok10 mx hp ?_ (by rfl)
      rw [decide_eq_false (by omega), decide_eq_true rfl, rooms5 (by omega)]; rfl

theorem ref_runs (n : Nat) (hn : n < 18446744073709551616) : Runs Try.prog S10 Try.f12 0 [.code (cd Try.f12)] (s12 n) (.one (.c (.sl 0 0 (num 10 n).length))) [.arr B1 (num 10 n) 0 []] := by
  refine Runs.piece ok10 mx (w1 n) rfl (by rfl) ?_
  by_cases h : 127 < n
  · have hp := w2 n
    rw [rem128, quo128 n hn] at hp
    refine Runs.piece ok10 mx hp ?_ (by rfl) ?_
    · rw [decide_eq_true (by omega)]
    · have := ref_loop 8 (n / 128) [((n % 128 + 128 : Nat) : Int)] (by omega) (by omega) (by simp)
      have e : num 10 n = ((n % 128 + 128 : Nat) : Int) :: num 9 (n / 128) := by rw [num, if_pos h]
      rw [e]
      exact this
  · have hp := w5 n
    rw [low7 n (by omega)] at hp
    have e : num 10 n = [(n : Int)] := by rw [num, if_neg h]
    rw [e]
    refine Runs.last ok10 mx hp ?_ (by rfl)
    rw [decide_eq_false (by omega)]

def T12 (vs : List V1) (hl : Heap) : Tree (SV × Heap) :=
  match vs, hl with
  | [.c (.int _ .u64 n)], [] => Tree.chk (decide (0 ≤ n ∧ n < 18446744073709551616)) (.ret (.one (.c (.sl 0 0 (num 10 n.toNat).length)), [.arr B1 (num 10 n.toNat) 0 []]))
  | _, _ => .fail

theorem ref_ok : EntryOk Try.prog S10.gl 12 T12 := by
  refine EntryOk.of_runs (S := S10) (fn := Try.f12) (c := cd Try.f12) (by kernel_rfl) (by kernel_rfl) (by kernel_rfl) (fun vs hl r hl' h => ?_)
  unfold T12 at h
  split at h
  · rename_i l n
    obtain ⟨h1, h2⟩ := val_chk h
    obtain ⟨hn0, hn1⟩ := of_decide_eq_true h1
    have := val_ret h2
    simp only [Prod.mk.injEq] at this
    obtain ⟨rfl, rfl⟩ := this
    obtain ⟨m, rfl⟩ : ∃ m : Nat, n = (m : Int) := ⟨n.toNat, by omega⟩
    refine lit_int [0] (ref_runs m (by omega)) ?_
    kernel_rfl
  · cases h
noncomputable def S12 : Tab := S10.put 12 1 T12
theorem ok12 : SpecOk Try.prog S12 := ok10.put ref_ok
end Go.LB
