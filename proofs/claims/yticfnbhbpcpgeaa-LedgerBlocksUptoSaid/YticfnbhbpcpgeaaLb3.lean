/-
  LedgerBlocks, part 3: the small functions.
-/
import Derived.Test.YticfnbhbpcpgeaaLb2
namespace Go.LB
open Go Go.SX Go.Proofs

theorem entry_sub {P : Program} {G : GlobT} {f : FuncId} {T T' : List V1 → Heap → Tree (SV × Heap)} (h : EntryOk P G f T') (hs : ∀ vs hl r, (T vs hl).val = some r → (T' vs hl).val = some r) : EntryOk P G f T :=
  fun vs hl r hl' hr => h vs hl r hl' (hs vs hl (r, hl') hr)

theorem bts_len {xs : List Int} {n : Nat} : (bts (xs, n)).length ≤ n := by unfold bts; rw [List.length_take]; exact Nat.min_le_left _ _
theorem bts_all (xs : List Int) : bts (xs, xs.length) = xs := List.take_length
theorem bts_len' {xs : List Int} {n : Nat} (h : n ≤ xs.length) : (bts (xs, n)).length = n := by
  show (List.take n xs).length = n
  rw [List.length_take]; omega
theorem wrapu {n : Nat} (h : n < 18446744073709551616) : IntKind.u64.wrap (n : Int) = n := by
  have : IntKind.u64.wrap (n : Int) = (n : Int) % 18446744073709551616 := by simp [IntKind.wrap, IntKind.bits, IntKind.signed]
  rw [this]; omega

/-! AppendBytes -/
def T11 (vs : List V1) (hl : Heap) : Tree (SV × Heap) :=
  match vs, hl with
  | [.c (.ro (.int .u8) xs n), .c (.ro (.int .u8) ys m)], [] => Tree.chk (decide (n ≤ 1099511627776 ∧ m ≤ 1099511627776))
      (.ret (.one (.c (.sl 0 0 (bts (xs, n) ++ num 10 m ++ bts (ys, m)).length)), [.arr B1 (bts (xs, n) ++ num 10 m ++ bts (ys, m)) 0 []]))
  | _, _ => .fail
theorem b11 (xs ys : List Int) (n m : Nat) : (bodyT S12 Try.prog noLoops Try.f11 (cd Try.f11) [.c (.ro B1 xs n), .c (.ro B1 ys m)] []).path [true, true] =
    some ([decide (n ≤ 1099511627776 ∧ 0 ≤ IntKind.u64.wrap (m : Int) ∧ IntKind.u64.wrap (m : Int) < 18446744073709551616),
      decide ((bts (xs, n) ++ num 10 (IntKind.u64.wrap (m : Int)).toNat).length = (bts (xs, n) ++ num 10 (IntKind.u64.wrap (m : Int)).toNat).length) &&
      (room ((bts (xs, n) ++ num 10 (IntKind.u64.wrap (m : Int)).toNat).length + (bts (ys, m)).length) (Try.prog.bytesOf 5) && room ((bts (xs, n) ++ num 10 (IntKind.u64.wrap (m : Int)).toNat).length + (bts (ys, m)).length) 1)],
      .one (.c (.sl 0 0 ((bts (xs, n) ++ num 10 (IntKind.u64.wrap (m : Int)).toNat).length + (bts (ys, m)).length))), [.arr B1 (bts (xs, n) ++ num 10 (IntKind.u64.wrap (m : Int)).toNat ++ bts (ys, m)) 0 []]) := by kernel_rfl
theorem ok_11 : EntryOk Try.prog S12.gl 11 T11 := by
  refine entry_sub (bodyT_ok ok12 mx (un := noLoops) (fn := Try.f11) (c := cd Try.f11) (by kernel_rfl) (by kernel_rfl) (by kernel_rfl)) (fun vs hl r h => ?_)
  unfold T11 at h
  split at h
  · rename_i xs n ys m
    obtain ⟨h1, h2⟩ := val_chk h
    obtain ⟨hn, hm⟩ := of_decide_eq_true h1
    obtain rfl := val_ret h2
    have hp := b11 xs ys n m
    rw [wrapu (by omega), Int.toNat_natCast, ← List.length_append] at hp
    have hb : (bts (xs, n) ++ num 10 m ++ bts (ys, m)).length ≤ n + 10 + m := by
      have := bts_len (xs := xs) (n := n)
      have := bts_len (xs := ys) (n := m)
      have := num_len 10 m
      simp only [List.length_append]; omega
    refine Tree.path_val (cs := [true, true]) (hp.trans ?_)
    rw [decide_eq_true ⟨hn, by omega, by omega⟩, decide_eq_true rfl, rooms5 (by omega)]; rfl
  · cases h
noncomputable def S11 : Tab := S12.put 11 1 T11
theorem ok11 : SpecOk Try.prog S11 := ok12.put ok_11

/-! bytes: the same? -/
def T7 (vs : List V1) (hl : Heap) : Tree (SV × Heap) :=
  match vs, hl with
  | [.c (.ro (.int .u8) xs n), .c (.ro (.int .u8) ys m)], [] => Tree.chk (decide (bts (xs, n) = bts (ys, m))) (.ret (.one (.c (.bool false true)), []))
  | _, _ => .fail
theorem b7 (xs ys : List Int) (n m : Nat) : (bodyT S11 Try.prog noLoops Try.f7 (cd Try.f7) [.c (.ro B1 xs n), .c (.ro B1 ys m)] []).path [] =
    some ([], .one (.c (.bool false ((strOf (bts (xs, n))).toList == (strOf (bts (ys, m))).toList))), []) := by kernel_rfl
theorem ok_7 : EntryOk Try.prog S11.gl 7 T7 := by
  refine entry_sub (bodyT_ok ok11 mx (un := noLoops) (fn := Try.f7) (c := cd Try.f7) (by kernel_rfl) (by kernel_rfl) (by kernel_rfl)) (fun vs hl r h => ?_)
  unfold T7 at h
  split at h
  · rename_i xs n ys m
    obtain ⟨h1, h2⟩ := val_chk h
    have he := of_decide_eq_true h1
    obtain rfl := val_ret h2
    have hp := b7 xs ys n m
    refine Tree.path_val (cs := []) (hp.trans ?_)
    rw [he, beq_self_eq_true]
  · cases h
noncomputable def S7 : Tab := S11.put 7 0 T7
theorem ok7 : SpecOk Try.prog S7 := ok11.put ok_7

/-! room -/
def marks : List Int := [211, 212, 213]
def T4 (vs : List V1) (hl : Heap) : Tree (SV × Heap) :=
  match vs, hl with
  | [.c (.ro (.int .u8) xs n)], [] => Tree.chk (decide (n ≤ 1099511627776)) (.ret (.one (.c (.sl 0 0 (bts (xs, n) ++ marks).length)), [.arr B1 (bts (xs, n) ++ marks) 0 []]))
  | _, _ => .fail
theorem b4 (xs : List Int) (n : Nat) : (bodyT S7 Try.prog noLoops Try.f4 (cd Try.f4) [.c (.ro B1 xs n)] []).path [true, true] =
    some ([decide (0 = 0) && (room (0 + (bts (xs, n)).length) (Try.prog.bytesOf 5) && room (0 + (bts (xs, n)).length) 1),
      decide (0 + (bts (xs, n)).length = (bts (xs, n)).length) && (room (0 + (bts (xs, n)).length + 3) (Try.prog.bytesOf 5) && room (0 + (bts (xs, n)).length + 3) 1)],
      .one (.c (.sl 0 0 (0 + (bts (xs, n)).length + 3))), [.arr B1 (bts (xs, n) ++ marks) 0 []]) := by kernel_rfl
theorem ok_4 : EntryOk Try.prog S7.gl 4 T4 := by
  refine entry_sub (bodyT_ok ok7 mx (un := noLoops) (fn := Try.f4) (c := cd Try.f4) (by kernel_rfl) (by kernel_rfl) (by kernel_rfl)) (fun vs hl r h => ?_)
  unfold T4 at h
  split at h
  · rename_i xs n
    obtain ⟨h1, h2⟩ := val_chk h
    have hn := of_decide_eq_true h1
    obtain rfl := val_ret h2
    have hp := b4 xs n
    have hb := bts_len (xs := xs) (n := n)
    rw [Nat.zero_add] at hp
    have e : (bts (xs, n) ++ marks).length = (bts (xs, n)).length + 3 := by rw [List.length_append]; rfl
    rw [e]
    refine Tree.path_val (cs := [true, true]) (hp.trans ?_)
    rw [rooms5 (by omega), rooms5 (by omega), decide_eq_true rfl, decide_eq_true rfl]; rfl
  · cases h
noncomputable def S4 : Tab := S7.put 4 1 T4
theorem ok4 : SpecOk Try.prog S4 := ok7.put ok_4

/-! stays -/
def t9 (xs : List Int) (n : Nat) (ys : List Int) (m : Nat) : Bool := decide (xs = bts (ys, m) ++ marks ∧ n = m + 3 ∧ (bts (ys, m)).length = m ∧ m ≤ 1099511627776)
def T9 (vs : List V1) (hl : Heap) : Tree (SV × Heap) :=
  match vs, hl with
  | [.c (.ro (.int .u8) xs n), .c (.ro (.int .u8) ys m)], [] => Tree.chk (t9 xs n ys m) (.ret (.one (.c (.bool false true)), []))
  | _, _ => .fail
theorem b9 (xs ys : List Int) (n m : Nat) : (bodyT S4 Try.prog noLoops Try.f9 (cd Try.f9) [.c (.ro B1 xs n), .c (.ro B1 ys m)] []).path [true, true, true, true, true, true, true, true] =
    some ([decide (0 ≤ (m : Int)) && decide (0 ≤ (m : Int).toNat ∧ (m : Int).toNat ≤ xs.length), decide (bts (xs.drop 0, (m : Int).toNat - 0) = bts (ys, m)), true, decide (0 ≤ (m : Int) ∧ (m : Int) < n), (xs.getD m 0 == 211) == true,
      decide (0 ≤ IntKind.i64.wrap ((m : Int) + 1) ∧ IntKind.i64.wrap ((m : Int) + 1) < n), (xs.getD (IntKind.i64.wrap ((m : Int) + 1)).toNat 0 == 212) == true, decide (0 ≤ IntKind.i64.wrap ((m : Int) + 2) ∧ IntKind.i64.wrap ((m : Int) + 2) < n)],
      .one (.c (.bool false (xs.getD (IntKind.i64.wrap ((m : Int) + 2)).toNat 0 == 213))), []) := by kernel_rfl
theorem c9 {xs : List Int} {n : Nat} {ys : List Int} {m : Nat} (h : t9 xs n ys m = true) : (bodyT S4 Try.prog noLoops Try.f9 (cd Try.f9) [.c (.ro B1 xs n), .c (.ro B1 ys m)] []).val = some (.one (.c (.bool false true)), []) := by
  obtain ⟨rfl, rfl, hm, h40⟩ := of_decide_eq_true h
  have hp := b9 (bts (ys, m) ++ marks) ys (m + 3) m
  have g : ∀ k, k < 3 → (bts (ys, m) ++ marks).getD (m + k) 0 = marks.getD k 0 := fun k hk => by
    rw [List.getD_eq_getElem?_getD, List.getElem?_append_right (by omega), hm, show m + k - m = k from by omega, ← List.getD_eq_getElem?_getD]
  have hl : (bts (ys, m) ++ marks).length = m + 3 := by rw [List.length_append, hm]; rfl
  have w1 : IntKind.i64.wrap ((m : Int) + 1) = ((m + 1 : Nat) : Int) := by rw [wrap64 (by omega)]; omega
  have w2 : IntKind.i64.wrap ((m : Int) + 2) = ((m + 2 : Nat) : Int) := by rw [wrap64 (by omega)]; omega
  have ht : bts ((bts (ys, m) ++ marks).drop 0, m - 0) = bts (ys, m) := by
    show List.take (m - 0) (List.drop 0 (bts (ys, m) ++ marks)) = _
    rw [List.drop_zero, Nat.sub_zero, List.take_append_of_le_length (by omega), List.take_of_length_le (by omega)]
  have g0 := g 0 (by omega)
  have g1 := g 1 (by omega)
  have g2 := g 2 (by omega)
  rw [Nat.add_zero] at g0
  rw [w1, w2, Int.toNat_natCast, Int.toNat_natCast, Int.toNat_natCast, ht, g0, g1, g2, hl] at hp
  refine Tree.path_val (cs := [true, true, true, true, true, true, true, true]) (hp.trans ?_)
  rw [decide_eq_true (by omega), decide_eq_true (show 0 ≤ m ∧ m ≤ m + 3 from by omega), decide_eq_true rfl, decide_eq_true (by omega), decide_eq_true (by omega), decide_eq_true (by omega)]
  rfl
theorem ok_9 : EntryOk Try.prog S4.gl 9 T9 := by
  refine entry_sub (bodyT_ok ok4 mx (un := noLoops) (fn := Try.f9) (c := cd Try.f9) (by kernel_rfl) (by kernel_rfl) (by kernel_rfl)) (fun vs hl r h => ?_)
  unfold T9 at h
  split at h
  · obtain ⟨h1, h2⟩ := val_chk h
    obtain rfl := val_ret h2
    exact c9 h1
  · cases h
noncomputable def S9 : Tab := S4.put 9 0 T9
theorem ok9 : SpecOk Try.prog S9 := ok4.put ok_9
end Go.LB
