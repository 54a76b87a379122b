/-
  Contracts of the program's scalars, part 6: scalars out of bytes.
-/
import Derived.Test.YticfnbhbpcpgeaaDoorSc5
namespace Go.Sc
open Go Go.SX Go.Proofs

def TfromBytes (vs : List V1) (hl : Heap) : Tree (SV × Heap) :=
  match vs, hl with
  | [.g [.ws .u8 32 bs]], [] => .ret (.one (ws (limbs (dg 256 bs))), [])
  | _, _ => .fail
theorem b_fromBytes (bs : List Int) : (bodyT C7 Tryd.prog allLoops Tryd.f101 (cd Tryd.f101) [.g [.ws .u8 32 bs]] []).path [] =
    some ([], .one (ws [lb bs 0 8, lb bs 8 8, lb bs 16 8, lb bs 24 8]), []) := by kernel_rfl
theorem ok_fromBytes : EntryOk Tryd.prog G0 101 TfromBytes := by
  refine EntryOk.sub (bodyT_ok okC7 mx (un := allLoops) (fn := Tryd.f101) (c := cd Tryd.f101) (by kernel_rfl) (by kernel_rfl) (by kernel_rfl)) (fun vs hl r ok h => ?_)
  unfold TfromBytes at h
  split at h
  · rename_i bs
    obtain rfl := val_ret h
    have hp := b_fromBytes bs
    rw [limbs_bytes (fun x hx => inB.mp (ok.1.1.2 x hx)) ok.1.1.1] at hp
    exact Tree.path_val hp
  · cases h
noncomputable def C8 : Tab := C7.put 101 0 TfromBytes
theorem okC8 : SpecOk Tryd.prog C8 := okC7.put ok_fromBytes
def TReduce (vs : List V1) (hl : Heap) : Tree (SV × Heap) :=
  match vs, hl with
  | [.g [.ws .u8 32 bs]], [] => .ret (.one (ws (limbs (dg 256 bs % ell))), [])
  | _, _ => .fail
theorem b_Reduce (bs : List Int) : (bodyT C8 Tryd.prog allLoops Tryd.f87 (cd Tryd.f87) [.g [.ws .u8 32 bs]] []).path [] =
    some ([], .one (ws (limbs (val (limbs (dg 256 bs)) % ell))), []) := by kernel_rfl
theorem ok_Reduce : EntryOk Tryd.prog G0 87 TReduce := by
  refine EntryOk.sub (bodyT_ok okC8 mx (un := allLoops) (fn := Tryd.f87) (c := cd Tryd.f87) (by kernel_rfl) (by kernel_rfl) (by kernel_rfl)) (fun vs hl r ok h => ?_)
  unfold TReduce at h
  split at h
  · rename_i bs
    obtain rfl := val_ret h
    have hp := b_Reduce bs
    rw [val_limbs (dg32 (fun x hx => inB.mp (ok.1.1.2 x hx)) ok.1.1.1)] at hp
    exact Tree.path_val hp
  · cases h
noncomputable def C9 : Tab := C8.put 87 0 TReduce
theorem okC9 : SpecOk Tryd.prog C9 := okC8.put ok_Reduce

/-! ### Wide -/
def TWide (vs : List V1) (hl : Heap) : Tree (SV × Heap) :=
  match vs, hl with
  | [.g [.ws .u8 64 bs]], [] => .ret (.one (ws (limbs (dg 256 bs % ell))), [])
  | _, _ => .fail
def cp32 (x : List Int) : List Int := splice (List.replicate 32 0) 0 (x.take (min x.length 32))
theorem cp32_eq {x : List Int} (h : x.length = 32) : cp32 x = x := by
  unfold cp32 splice
  have h1 : x.take (min x.length 32) = x := List.take_of_length_le (by omega)
  have h2 : (List.replicate 32 (0 : Int)).drop (0 + x.length) = [] := List.drop_eq_nil_of_le (by rw [List.length_replicate, h]; decide)
  rw [h1, h2, List.take_zero, List.nil_append, List.append_nil]
theorem b_Wide (bs : List Int) : (bodyT C9 Tryd.prog allLoops Tryd.f65 (cd Tryd.f65) [.g [.ws .u8 64 bs]] []).path [true, true, true, true, true] =
    some ([true, true, true, true, decide (val (limbs (dg 256 (cp32 ((bs.drop 32).take 32)) % ell)) < ell)],
      .one (ws (limbs ((val (limbs (dg 256 (cp32 ((bs.drop 0).take 32)) % ell)) + val (limbs (redc (val (limbs (dg 256 (cp32 ((bs.drop 32).take 32)) % ell))) (val tab2)))) % ell))), []) := by kernel_rfl
theorem redc_r2 (x : Int) : redc x 1627715501170711445284395025044413883736156588369414752970002579683115011841 = x * 115792089237316195423570985008687907853269984665640564039457584007913129639936 % ell := by
  unfold redc
  rw [Int.mul_assoc, r2_eq, Int.mul_add, Int.mul_left_comm, Int.add_mul_emod_self_left]
theorem wide_eq {bs : List Int} (h : bs.length = 64) : (dg 256 (bs.take 32) % ell + redc (dg 256 (bs.drop 32) % ell) 1627715501170711445284395025044413883736156588369414752970002579683115011841) % ell = dg 256 bs % ell := by
  rw [split64 h, redc_r2, emod_mul, ← Int.add_emod, Int.mul_comm (dg 256 (bs.drop 32))]
theorem ok_Wide : EntryOk Tryd.prog G0 65 TWide := by
  refine EntryOk.sub (bodyT_ok okC9 mx (un := allLoops) (fn := Tryd.f65) (c := cd Tryd.f65) (by kernel_rfl) (by kernel_rfl) (by kernel_rfl)) (fun vs hl r ok h => ?_)
  unfold TWide at h
  split at h
  · rename_i bs
    obtain rfl := val_ret h
    have hl : bs.length = 64 := ok.1.1.1
    have hp := b_Wide bs
    have e1 : (bs.drop 0).take 32 = bs.take 32 := by rw [List.drop_zero]
    have e2 : (bs.drop 32).take 32 = bs.drop 32 := List.take_of_length_le (by rw [List.length_drop]; omega)
    rw [e1, e2, cp32_eq (x := bs.drop 32) (by rw [List.length_drop]; omega), cp32_eq (x := bs.take 32) (by rw [List.length_take]; omega), val_mod, val_mod, (redc_bound _ _).1, val_tab2, wide_eq hl, decide_eq_true (mod_bound _).2] at hp
    exact Tree.path_val hp
  · cases h
noncomputable def C10 : Tab := C9.put 65 0 TWide
theorem okC10 : SpecOk Tryd.prog C10 := okC9.put ok_Wide

/-! ### Tape -/
/-- the i-th scalar of a stream -/
def chunk (xs : List Int) (i : Nat) : List Int := limbs (dg 256 ((xs.drop (64 * i)).take 64) % ell)
def tapeL (xs : List Int) (n : Nat) : List (List Int) := (List.range n).map (chunk xs)
def tTape (xs : List Int) (len : Nat) (n : Int) : Tree (SV × Heap) :=
  .br (decide (n < 0 ∨ 4096 < n)) (.ret (.tup [.c .nils, .c (.int true .i64 1)], [])) (.br (decide ((len : Int) < 64 * n)) (.ret (.tup [.c .nils, .c (.int true .i64 5)], []))
    (.ret (.tup [.c (.sl 0 0 n.toNat), .c (.int true .i64 0)], [.arr WS (tapeL xs n.toNat) 0 []])))
def TTape (vs : List V1) (hl : Heap) : Tree (SV × Heap) :=
  match vs, hl with
  | [.c (.ro (.int .u8) xs len), .c (.int _ .i64 n)], [] => Tree.chk (decide (len ≤ 1099511627776)) (tTape xs len n)
  | _, _ => .fail
abbrev B1 : DTy := .int .u8
noncomputable def rT (k : List Item) (s : St) : Tree Out := runK C10 Tryd.prog noLoops 400 k s
noncomputable def sT (xs : List Int) (len : Nat) (n : Int) : St := ⟨enterT Tryd.f45 [.c (.ro B1 xs len), .c (.int false .i64 n)], []⟩
noncomputable def KT : List Item := leftT [true, false, false, true] (rT [.code (cd Tryd.f45)] (sT [] 0 0))
noncomputable def stT (xs : List Int) (len n : Nat) (ys : List (List Int)) (i : Int) : St := ⟨slotsOf 38 [(0, one (.ro B1 xs len)), (6, one (.sl 0 0 n)), (22, one (.int false .i64 n)), (23, one (.int false .i64 i))], [.arr WS ys 0 []]⟩
theorem t_a (xs : List Int) (len : Nat) (n : Int) : endT Tryd.prog Tryd.f45 [] [false] (rT [.code (cd Tryd.f45)] (sT xs len n)) =
    some ([decide (n < 0) == false], .tup [.c .nils, .c (.int true .i64 1)], []) := by kernel_rfl
theorem t_b (xs : List Int) (len : Nat) (n : Int) : endT Tryd.prog Tryd.f45 [] [true, true] (rT [.code (cd Tryd.f45)] (sT xs len n)) =
    some ([decide (n < 0) == false, decide (n > 4096)], .tup [.c .nils, .c (.int true .i64 1)], []) := by kernel_rfl
theorem t_c (xs : List Int) (len : Nat) (n : Int) : endT Tryd.prog Tryd.f45 [] [true, false, true] (rT [.code (cd Tryd.f45)] (sT xs len n)) =
    some ([decide (n < 0) == false, decide (n > 4096), decide ((len : Int) < IntKind.i64.wrap (64 * n))], .tup [.c .nils, .c (.int true .i64 5)], []) := by kernel_rfl
theorem t_d (xs : List Int) (len : Nat) (n : Int) : pieceT [0, 6, 22, 23] [23] [0] [true, false, false, true] (rT [.code (cd Tryd.f45)] (sT xs len n)) =
    some ([decide (n < 0) == false, decide (n > 4096), decide ((len : Int) < IntKind.i64.wrap (64 * n)), decide (0 ≤ n ∧ n ≤ n ∧ n ≤ 281474976710656 ∧ (Tryd.prog.bytesOf 28 : Int) * n ≤ 281474976710656)],
      KT, stT xs len n.toNat (List.replicate n.toNat [0, 0, 0, 0]) (0 : Nat)) := by kernel_rfl
theorem t_e (xs : List Int) (len n : Nat) (ys : List (List Int)) (i : Nat) : pieceT [0, 6, 22, 23] [23] [0] [true, true, true, true] (rT KT (stT xs len n ys i)) =
    some ([decide ((i : Int) < n), decide (0 ≤ IntKind.i64.wrap (64 * (i : Int))) && true && decide ((IntKind.i64.wrap (64 * (i : Int))).toNat ≤ len ∧ len ≤ xs.length), decide (64 ≤ len - (IntKind.i64.wrap (64 * (i : Int))).toNat), decide (0 ≤ (i : Int) ∧ (i : Int) < n)],
      KT, stT xs len n (ys.set (0 + i) (limbs (dg 256 ((xs.drop (IntKind.i64.wrap (64 * (i : Int))).toNat).take 64) % ell))) (IntKind.i64.wrap ((i : Int) + 1))) := by kernel_rfl
theorem t_f (xs : List Int) (len n : Nat) (ys : List (List Int)) (i : Nat) : endT Tryd.prog Tryd.f45 [0] [false] (rT KT (stT xs len n ys i)) =
    some ([decide ((i : Int) < n)], .tup [.c (.sl 0 0 n), .c (.int true .i64 0)], [.arr WS ys 0 []]) := by kernel_rfl
theorem bytes_S : Tryd.prog.bytesOf 28 = 32 := by kernel_rfl
theorem wrap64 {x : Int} (h : -9223372036854775808 ≤ x ∧ x < 9223372036854775808) : IntKind.i64.wrap x = x := by rw [IntKind.wrap_i64]; omega
theorem wsucc {k : Nat} (h : k < 1099511627776) : IntKind.i64.wrap ((k : Int) + 1) = ((k + 1 : Nat) : Int) := by rw [wrap64 (by omega)]; omega
theorem tapeL_succ {xs : List Int} {n k : Nat} {z : List Int} (h : k < n) : (tapeL xs k ++ List.replicate (n - k) z).set k (chunk xs k) = tapeL xs (k + 1) ++ List.replicate (n - (k + 1)) z := by
  have e : n - k = (n - (k + 1)) + 1 := by omega
  have hl : (tapeL xs k).length = k := by unfold tapeL; rw [List.length_map, List.length_range]
  rw [e, List.replicate_succ, List.set_append_right _ _ (by omega), hl, Nat.sub_self]
  unfold tapeL
  rw [List.range_succ, List.map_append, List.append_assoc]; rfl
theorem Tape_runs {xs : List Int} {len : Nat} {n : Int} (hx : len ≤ xs.length) (hb : len ≤ 1099511627776) {r : SV × Heap} (hr : (tTape xs len n).val = some r) : Runs Tryd.prog C10 Tryd.f45 0 [.code (cd Tryd.f45)] (sT xs len n) r.1 r.2 := by
  unfold tTape at hr
  simp only [Tree.val] at hr
  split at hr
  · rename_i h1
    have h1 := of_decide_eq_true h1
    obtain rfl := Option.some.inj hr
    by_cases h0 : n < 0
    · exact Runs.last okC10 mx (t_a xs len n) (by rw [decide_eq_true h0]; rfl) (by rfl)
    · exact Runs.last okC10 mx (t_b xs len n) (by rw [decide_eq_false h0, decide_eq_true (by omega)]; rfl) (by rfl)
  · rename_i h1
    have h1 : ¬ (n < 0 ∨ 4096 < n) := of_decide_eq_false (by simpa using h1)
    split at hr
    · rename_i h2
      have h2 := of_decide_eq_true h2
      obtain rfl := Option.some.inj hr
      exact Runs.last okC10 mx (t_c xs len n) (by rw [wrap64 (by omega), decide_eq_false (by omega), decide_eq_false (by omega), decide_eq_true h2]; rfl) (by rfl)
    · rename_i h2
      have h2 : ¬ ((len : Int) < 64 * n) := of_decide_eq_false (by simpa using h2)
      obtain rfl := Option.some.inj hr
      obtain ⟨m, rfl⟩ : ∃ m : Nat, n = (m : Int) := ⟨n.toNat, by omega⟩
      have hd := t_d xs len m
      rw [wrap64 (by omega), bytes_S, decide_eq_false (by omega), decide_eq_false (by omega), decide_eq_false h2, decide_eq_true (by omega), Int.toNat_natCast] at hd
      refine Runs.piece okC10 mx hd rfl (by rfl) ?_
      rw [Int.toNat_natCast]
      refine loopG (st := fun k (ys : List (List Int)) => stT xs len m ys k) (I := fun k ys => ys = tapeL xs k ++ List.replicate (m - k) [0, 0, 0, 0]) (n := m) (fun k ys hk hI => ⟨ys.set k (chunk xs k), by rw [hI, tapeL_succ hk], fun hr => ?_⟩) (fun ys hI => ?_) m 0 (List.replicate m [0, 0, 0, 0]) (by omega) rfl
      · have he := t_e xs len m ys k
        have e1 : IntKind.i64.wrap (64 * (k : Int)) = ((64 * k : Nat) : Int) := by rw [wrap64 (by omega)]; omega
        rw [e1, Int.toNat_natCast, wsucc (by omega), Nat.zero_add, decide_eq_true (by omega), decide_eq_true (by omega), decide_eq_true (by omega), decide_eq_true (by omega), decide_eq_true (by omega)] at he
        exact Runs.piece okC10 mx he rfl (by rfl) hr
      · have hf := t_f xs len m ys m
        rw [decide_eq_false (by omega)] at hf
        obtain rfl : ys = tapeL xs m := by rw [hI, Nat.sub_self]; exact List.append_nil _
        exact Runs.last okC10 mx hf rfl (by rfl)
theorem lit_int {P : Program} {S : Tab} {fn : Func} {m : Nat} {k : List Item} {s s' : St} {v : SV} {hl : Heap} (l : List Nat) (h : Runs P S fn m k s' v hl) (e : s.unlit l = s') : Runs P S fn m k s v hl := Runs.unlit l (e ▸ h)
set_option maxRecDepth 4000 in
theorem ok_Tape : EntryOk Tryd.prog G0 45 TTape := by
  refine EntryOk.runs (S := C10) (fn := Tryd.f45) (c := cd Tryd.f45) (by kernel_rfl) (by kernel_rfl) (by kernel_rfl) (fun vs hl r hl' ok h => ?_)
  unfold TTape at h
  split at h
  · rename_i xs len l n
    obtain ⟨h1, h2⟩ := val_chk h
    exact lit_int [1] (Tape_runs (xs := xs) ok.1.1 (of_decide_eq_true h1) h2) (by kernel_rfl)
  · cases h
noncomputable def C11 : Tab := C10.put 45 1 TTape
theorem okC11 : SpecOk Tryd.prog C11 := okC10.put ok_Tape
end Go.Sc
