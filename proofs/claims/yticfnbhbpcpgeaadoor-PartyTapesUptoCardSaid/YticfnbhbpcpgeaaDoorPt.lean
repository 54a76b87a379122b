/-
  PartyTapes, part 1: num, nums, least, is, sameNums.
  PartyTapes, part 2: Whole, the program's.
  PartyTapes, part 3: Whole, the document's.
  PartyTapes, part 4: twin, tape, stays.
  PartyTapes, part 5: apart. (Written by tools/apart.py.)
  PartyTapes, part 6: the law's own pieces.
  PartyTapes, part 7: tapes whose lists are kept outside of the state.
  PartyTapes, part 8: the first loop.
  PartyTapes, part 9: the first loop, and its end.
  PartyTapes, part 10: the pieces in which the lists are written over, and the end.
  PartyTapes, part 11: behind the first loop; what is asked before the lists are written over.
  PartyTapes, part 12: the lists are taken back, to be written over.
  PartyTapes, part 13: a pair of lists is taken up, written over and laid down.
  PartyTapes, part 14: taken up, laid down.
  PartyTapes, part 15: the lists are written over, one after another.
  PartyTapes, part 16: the end; the law's body.
-/
import Derived.Test.YticfnbhbpcpgeaaDoorPm
import Derived.Test.YticfnbhbpcpgeaaDoorSx34
import Derived.Test.YticfnbhbpcpgeaaDoorSx35
import Derived.Test.YticfnbhbpcpgeaaDoorSx36
namespace Go.Sc
open Go Go.SX Go.Proofs

theorem num14_b (xs : List Int) : (bodyT E16 Tryd.prog allLoops Tryd.f31 (cd Tryd.f31) [ws xs] []).path [] = some ([], .one (ws (limbs (val xs % ell))), []) := by kernel_rfl
theorem ok_num14 : EntryOk Tryd.prog G0 31 TLeast := by
  refine EntryOk.sub (bodyT_ok okE16 mx (un := allLoops) (fn := Tryd.f31) (c := cd Tryd.f31) (by kernel_rfl) (by kernel_rfl) (by kernel_rfl)) (fun vs hl r ok h => ?_)
  unfold TLeast at h
  split at h
  · rename_i xs
    obtain rfl := val_ret h
    exact Tree.path_val (num14_b xs)
  · cases h
theorem is14_b (xs ys : List Int) : (bodyT E16 Tryd.prog allLoops Tryd.f11 (cd Tryd.f11) [ws xs, ws ys] []).path [] = some ([], .one (.c (.bool false (xs == ys && true))), []) := by kernel_rfl
theorem ok_is14 : EntryOk Tryd.prog G0 11 Tis := by
  refine EntryOk.sub (bodyT_ok okE16 mx (un := allLoops) (fn := Tryd.f11) (c := cd Tryd.f11) (by kernel_rfl) (by kernel_rfl) (by kernel_rfl)) (fun vs hl r ok h => ?_)
  unfold Tis at h
  split at h
  · rename_i xs ys
    obtain rfl := val_ret h
    exact Tree.path_val (is14_b xs ys)
  · cases h
noncomputable def P1 : Tab := (E16.put 31 0 TLeast).put 11 0 Tis
theorem okP1 : SpecOk Tryd.prog P1 := (okE16.put ok_num14).put ok_is14

/-! ### nums -/
def one' (x : Cell) : SV := .one (.c x)
def lim (xs : List Int) : List Int := limbs (val xs % ell)
namespace Nu
noncomputable def r (k : List Item) (s : St) : Tree Out := runK P1 Tryd.prog noLoops 400 k s
noncomputable def s0 (xs : List (List Int)) (n : Nat) : St := ⟨enterT Tryd.f32 [.c (.ro WS xs n)], []⟩
noncomputable def K : List Item := leftT [] (r [.code (cd Tryd.f32)] (s0 [] 0))
def dS : DTy := .ws .u64 4
noncomputable def st (xs : List (List Int)) (n : Nat) (ys : List (List Int)) (m : Nat) (i : Int) : St := ⟨slotsOf 20 [(0, one (.ro WS xs n)), (3, one (.sl 0 0 m)), (4, one (.int false .i64 i))], [.arr WS ys 0 []]⟩
noncomputable def st0 (xs : List (List Int)) (n : Nat) (i : Int) : St := ⟨slotsOf 20 [(0, one (.ro WS xs n)), (3, one .nils), (4, one (.int false .i64 i))], []⟩
theorem a (xs : List (List Int)) (n : Nat) : pieceT [0, 3, 4] [4] [] [] (r [.code (cd Tryd.f32)] (s0 xs n)) = some ([], K, st0 xs n (0 : Nat)) := by kernel_rfl
theorem a' (xs : List (List Int)) (n : Nat) : (⟨setT (st0 xs n (0 : Nat)).t 3 (ownS (st0 xs n (0 : Nat)).h.length (getT (st0 xs n (0 : Nat)).t 3)).1, (st0 xs n (0 : Nat)).h ++ List.replicate ((ownS (st0 xs n (0 : Nat)).h.length (getT (st0 xs n (0 : Nat)).t 3)).2 - (st0 xs n (0 : Nat)).h.length) (.arr WS [] 0 [])⟩ : St) = st xs n [] 0 (0 : Nat) := by kernel_rfl
noncomputable def rmN (m : Nat) : Bool := SX.room (m + 1) (Tryd.prog.bytesOf 28) && SX.room (m + 1) 1
theorem b (xs ys : List (List Int)) (n m i : Nat) : pieceT [0, 3, 4] [4] [2] [true, true, true] (r K (st xs n ys m i)) =
    some ([decide ((i : Int) < n), decide (0 ≤ (i : Int) ∧ (i : Int) < n), decide (m = ys.length) && rmN m], K, st xs n (ys ++ [lim (xs.getD i z4)]) (m + 1) (iw ((i : Int) + 1))) := by kernel_rfl
theorem c (xs ys : List (List Int)) (n m i : Nat) : endT Tryd.prog Tryd.f32 [0] [false] (r K (st xs n ys m i)) =
    some ([decide ((i : Int) < n)], one' (.sl 0 0 m), [.arr WS ys 0 []]) := by kernel_rfl
end Nu
theorem rmN_ok {m : Nat} (h : m < 1048576) : Nu.rmN m = true := by
  unfold Nu.rmN; exact roomS (by omega)
theorem take_succ_getD {α : Type} {xs : List α} {k : Nat} {z : α} (h : k < xs.length) : xs.take (k + 1) = xs.take k ++ [xs.getD k z] := by
  rw [List.take_add_one, List.getElem?_eq_getElem h, List.getD_eq_getElem?_getD, List.getElem?_eq_getElem h]; rfl
theorem nums_runs {xs : List (List Int)} {n : Nat} (hx : n ≤ xs.length) (hn : n ≤ 1048576) : Runs Tryd.prog P1 Tryd.f32 0 [.code (cd Tryd.f32)] (Nu.s0 xs n) (one' (.sl 0 0 n)) [.arr WS ((xs.take n).map lim) 0 []] := by
  refine Runs.piece okP1 mx (Nu.a xs n) rfl (by rfl) ?_
  refine Runs.nilSlot 3 WS (by decide) ?_
  rw [Nu.a']
  refine loopG (st := fun k (ys : List (List Int)) => Nu.st xs n ys k k) (I := fun k ys => ys = (xs.take k).map lim) (n := n) (fun k ys hk hI => ⟨(xs.take (k + 1)).map lim, rfl, fun hr => ?_⟩) (fun ys hI => ?_) n 0 [] (by omega) rfl
  · subst hI
    have hb := Nu.b xs ((xs.take k).map lim) n k k
    rw [iwk (by omega), decide_eq_true (by omega), decide_eq_true (by omega), rmN_ok (by omega), decide_eq_true (by rw [List.length_map, List.length_take]; omega)] at hb
    refine Runs.piece okP1 mx hb rfl (by rfl) ?_
    rw [take_succ_getD (z := z4) (by omega), List.map_append] at hr
    exact hr
  · subst hI
    exact Runs.last okP1 mx (Nu.c xs _ n n n) (by rw [decide_eq_false (by omega)]) (by rfl)
def TNums (vs : List V1) (hl : Heap) : Tree (SV × Heap) :=
  match vs, hl with
  | [.c (.ro (.ws .u64 4) xs n)], [] => Tree.chk (decide (n ≤ 1048576)) (.ret (one' (.sl 0 0 n), [.arr (.ws .u64 4) ((List.take n xs).map lim) 0 []]))
  | _, _ => .fail
theorem ok_nums0 : EntryOk Tryd.prog G0 32 TNums := by
  refine EntryOk.runs (S := P1) (fn := Tryd.f32) (c := cd Tryd.f32) (by kernel_rfl) (by kernel_rfl) (by kernel_rfl) (fun vs hl r hl' ok h => ?_)
  unfold TNums at h
  split at h
  · rename_i xs n
    obtain ⟨h1, h2⟩ := val_chk h
    obtain ⟨rfl, rfl⟩ := Prod.mk.inj (val_ret h2)
    exact nums_runs ok.1.1 (of_decide_eq_true h1)
  · cases h
theorem ok_nums : EntryOk Tryd.prog G0 32 (fun vs hl => TNums (normL [some WS] vs) hl) := ok_nums0.norm [some WS] rfl

/-! ### least -/
namespace Le
noncomputable def r (k : List Item) (s : St) : Tree Out := runK P1 Tryd.prog noLoops 400 k s
noncomputable def s0 (xs : List (List Int)) (n : Nat) : St := ⟨enterT Tryd.f33 [.c (.ro WS xs n)], []⟩
noncomputable def K : List Item := leftT [true] (r [.code (cd Tryd.f33)] (s0 [] 0))
noncomputable def st (xs : List (List Int)) (n : Nat) (ys : List (List Int)) (m : Nat) (i : Int) : St := ⟨slotsOf 22 [(3, one (.sl 0 0 m)), (9, one (.ro WS xs n)), (10, one (.int false .i64 n)), (11, one (.int false .i64 i))], [.arr WS ys 0 []]⟩
noncomputable def mkB (n : Nat) : Bool := decide ((0 : Int) ≤ 0 ∧ (0 : Int) ≤ n ∧ (n : Int) ≤ 281474976710656 ∧ ((Tryd.prog.bytesOf 28 : Nat) : Int) * n ≤ 281474976710656)
theorem a (xs : List (List Int)) (n : Nat) : pieceT [3, 9, 10, 11] [11] [0] [true] (r [.code (cd Tryd.f33)] (s0 xs n)) = some ([mkB n], K, st xs n (List.replicate n z4) 0 (0 : Nat)) := by kernel_rfl
theorem b (xs ys : List (List Int)) (n m i : Nat) : pieceT [3, 9, 10, 11] [11] [3] [true, true, true] (r K (st xs n ys m i)) =
    some ([decide ((i : Int) < n), decide (0 ≤ (i : Int) ∧ (i : Int) < n), decide (m = ys.length) && Nu.rmN m], K, st xs n (ys ++ [lim (xs.getD i z4)]) (m + 1) (iw ((i : Int) + 1))) := by kernel_rfl
theorem b' (xs ys : List (List Int)) (n m i : Nat) : pieceT [3, 9, 10, 11] [11] [3] [true, true, false, true] (r K (st xs n ys m i)) =
    some ([decide ((i : Int) < n), decide (0 ≤ (i : Int) ∧ (i : Int) < n), decide (m = ys.length) && Nu.rmN m, true && (decide (m ≤ ys.length) && Nu.rmN m)], K, st xs n (ys.take m ++ [lim (xs.getD i z4)]) (m + 1) (iw ((i : Int) + 1))) := by kernel_rfl
theorem c (xs ys : List (List Int)) (n m i : Nat) : endT Tryd.prog Tryd.f33 [0] [false] (r K (st xs n ys m i)) =
    some ([decide ((i : Int) < n)], one' (.sl 0 0 m), [.arr WS ys 0 []]) := by kernel_rfl
end Le
theorem least_runs {xs : List (List Int)} {n : Nat} (hx : n ≤ xs.length) (hn : n ≤ 1048576) : Runs Tryd.prog P1 Tryd.f33 0 [.code (cd Tryd.f33)] (Le.s0 xs n) (one' (.sl 0 0 n)) [.arr WS ((xs.take n).map lim) 0 []] := by
  refine Runs.piece okP1 mx (Le.a xs n) (by unfold Le.mkB; rw [bytes_S, decide_eq_true (by omega)]) (by rfl) ?_
  refine loopG (st := fun k (ys : List (List Int)) => Le.st xs n ys k k) (I := fun k ys => ys.take k = (xs.take k).map lim ∧ (ys.length = k ∨ (k = 0 ∧ ys.length = n))) (n := n) (fun k ys hk hI => ⟨(xs.take (k + 1)).map lim, ⟨by rw [List.take_of_length_le (by rw [List.length_map, List.length_take]; omega)], .inl (by rw [List.length_map, List.length_take]; omega)⟩, fun hr => ?_⟩) (fun ys hI => ?_) n 0 (List.replicate n z4) (by omega) ⟨rfl, .inr ⟨rfl, List.length_replicate⟩⟩
  · obtain ⟨h1, h2⟩ := hI
    by_cases hf : k = ys.length
    · rw [List.take_of_length_le (by omega)] at h1
      subst h1
      have hb := Le.b xs ((xs.take k).map lim) n k k
      rw [iwk (by omega), decide_eq_true (by omega), decide_eq_true (by omega), rmN_ok (by omega), decide_eq_true hf] at hb
      refine Runs.piece okP1 mx hb rfl (by rfl) ?_
      rw [take_succ_getD (z := z4) (by omega), List.map_append] at hr
      exact hr
    · have hb := Le.b' xs ys n k k
      rw [iwk (by omega), decide_eq_true (by omega), decide_eq_true (by omega), rmN_ok (by omega), decide_eq_false hf, decide_eq_true (show k ≤ ys.length by omega), h1] at hb
      refine Runs.piece okP1 mx hb rfl (by rfl) ?_
      rw [take_succ_getD (z := z4) (by omega), List.map_append] at hr
      exact hr
  · obtain ⟨h1, h2⟩ := hI
    obtain rfl : ys = (xs.take n).map lim := by rw [← h1, List.take_of_length_le (by omega)]
    exact Runs.last okP1 mx (Le.c xs _ n n n) (by rw [decide_eq_false (by omega)]) (by rfl)
theorem ok_least0 : EntryOk Tryd.prog G0 33 TNums := by
  refine EntryOk.runs (S := P1) (fn := Tryd.f33) (c := cd Tryd.f33) (by kernel_rfl) (by kernel_rfl) (by kernel_rfl) (fun vs hl r hl' ok h => ?_)
  unfold TNums at h
  split at h
  · rename_i xs n
    obtain ⟨h1, h2⟩ := val_chk h
    obtain ⟨rfl, rfl⟩ := Prod.mk.inj (val_ret h2)
    exact least_runs ok.1.1 (of_decide_eq_true h1)
  · cases h
theorem ok_least : EntryOk Tryd.prog G0 33 (fun vs hl => TNums (normL [some WS] vs) hl) := ok_least0.norm [some WS] rfl

/-! ### sameNums -/
namespace Sn
noncomputable def r (k : List Item) (s : St) : Tree Out := runK P1 Tryd.prog noLoops 400 k s
noncomputable def s0 (xs ys : List (List Int)) (n m : Nat) : St := ⟨enterT Tryd.f12 [.c (.ro WS xs n), .c (.ro WS ys m)], []⟩
noncomputable def K : List Item := leftT [false] (r [.code (cd Tryd.f12)] (s0 [] [] 0 0))
noncomputable def st (xs ys : List (List Int)) (n m : Nat) (i : Int) : St := ⟨slotsOf 27 [(0, one (.ro WS xs n)), (1, one (.ro WS ys m)), (5, one (.int false .i64 i))], []⟩
theorem a (xs ys : List (List Int)) (n m : Nat) : pieceT [0, 1, 5] [5] [] [false] (r [.code (cd Tryd.f12)] (s0 xs ys n m)) =
    some ([(n : Int) != m], K, st xs ys n m (0 : Nat)) := by kernel_rfl
theorem b (xs ys : List (List Int)) (n m i : Nat) : pieceT [0, 1, 5] [5] [] [true, true, true, false] (r K (st xs ys n m i)) =
    some ([decide ((i : Int) < n), decide (0 ≤ (i : Int) ∧ (i : Int) < n), decide (0 ≤ (i : Int) ∧ (i : Int) < m), !(xs.getD i z4 == ys.getD i z4 && true)], K, st xs ys n m (iw ((i : Int) + 1))) := by kernel_rfl
theorem c (xs ys : List (List Int)) (n m i : Nat) : endT Tryd.prog Tryd.f12 [] [false] (r K (st xs ys n m i)) =
    some ([decide ((i : Int) < n)], .one (.c (.bool true true)), []) := by kernel_rfl
end Sn
theorem sn14_runs {xs ys : List (List Int)} {n : Nat} (hb : n ≤ 1048576) (h : xs.take n = ys.take n) : Runs Tryd.prog P1 Tryd.f12 0 [.code (cd Tryd.f12)] (Sn.s0 xs ys n n) (.one (.c (.bool true true))) [] := by
  have ha := Sn.a xs ys n n
  rw [bne_self_eq_false] at ha
  refine Runs.piece okP1 mx ha rfl (by rfl) ?_
  refine loopG (st := fun k (_ : Unit) => Sn.st xs ys n n k) (I := fun _ _ => True) (n := n) (fun k a hk _ => ⟨(), trivial, fun hr => ?_⟩) (fun _ _ => ?_) n 0 () (by omega) trivial
  · have hb := Sn.b xs ys n n k
    rw [iwk (by omega), decide_eq_true (by omega), decide_eq_true (by omega), getD_take h hk, beq_self_eq_true] at hb
    exact Runs.piece okP1 mx hb rfl (by rfl) hr
  · exact Runs.last okP1 mx (Sn.c xs ys n n n) (by rw [decide_eq_false (by omega)]) (by rfl)
def TsameN14 (vs : List V1) (hl : Heap) : Tree (SV × Heap) :=
  match vs, hl with
  | [.c (.ro (.ws .u64 4) xs n), .c (.ro (.ws .u64 4) ys m)], [] => Tree.chk (snB xs ys n m) (.ret (.one (.c (.bool false true)), []))
  | _, _ => .fail
theorem ok_sameN14 : EntryOk Tryd.prog G0 12 TsameN14 := by
  refine EntryOk.runs (S := P1) (fn := Tryd.f12) (c := cd Tryd.f12) (by kernel_rfl) (by kernel_rfl) (by kernel_rfl) (fun vs hl r hl' ok h => ?_)
  unfold TsameN14 at h
  split at h
  · rename_i xs n ys m
    obtain ⟨h1, h2⟩ := val_chk h
    obtain ⟨rfl, h3, h4, h5⟩ := of_decide_eq_true h1
    obtain ⟨rfl, rfl⟩ := Prod.mk.inj (val_ret h2)
    exact (sn14_runs h3 h5).resU
  · cases h
noncomputable def P2 : Tab := ((P1.put 32 1 (fun vs hl => TNums (normL [some WS] vs) hl)).put 33 1 (fun vs hl => TNums (normL [some WS] vs) hl)).put 12 0 TsameN14
theorem okP2 : SpecOk Tryd.prog P2 := ((okP1.put ok_nums).put ok_least).put ok_sameN14
end Go.Sc

namespace Go.Sc
open Go Go.SX Go.Proofs

abbrev TP : DTy := .pair WS (.pair WS (.pair WS (.pair WS (.pair (.sl WS) (.pair (.sl WS) .unit)))))
abbrev TD : Type := List Int × (List Int × (List Int × (List Int × ((List (List Int) × Nat) × ((List (List Int) × Nat) × Unit)))))
def dfT : TD := (z4, z4, z4, z4, ([], 0), ([], 0), ())
/-- a tape's numbers and lists -/
structure T6 where
  a : List Int
  r : List Int
  t1 : List Int
  t2 : List Int
  l : List (List Int)
  rr : List (List Int)
def z6 : T6 := ⟨z4, z4, z4, z4, [], []⟩
def add (x y : List Int) : List Int := limbs ((val x + val y) % ell)
def T6.add (s x : T6) : T6 := ⟨Sc.add s.a x.a, Sc.add s.r x.r, Sc.add s.t1 x.t1, Sc.add s.t2 x.t2, s.l ++ x.l, s.rr ++ x.rr⟩
def T6.fit (b : Int) (x : T6) : Bool := !(((x.l.length : Int) != b) || ((x.rr.length : Int) != b))
def WF (b c : Int) (l : List T6) : T6 × Int :=
  match alw b c with
  | false => (z6, 130)
  | true => match ((l.length : Int) != c) with
    | true => (z6, 2)
    | false => match l.all (T6.fit b) with
      | true => (l.foldl T6.add z6, 0)
      | false => (z6, 2)
def nP (x : TD) : T6 := ⟨lim x.1, lim x.2.1, lim x.2.2.1, lim x.2.2.2.1, (x.2.2.2.2.1.1.take x.2.2.2.2.1.2).map lim, (x.2.2.2.2.2.1.1.take x.2.2.2.2.2.1.2).map lim⟩
def nR (x : TD) : T6 := ⟨x.1, x.2.1, x.2.2.1, x.2.2.2.1, x.2.2.2.2.1.1.take x.2.2.2.2.1.2, x.2.2.2.2.2.1.1.take x.2.2.2.2.2.1.2⟩
def t6C (x : T6) (l r : Cell) : List FCell := [.ws .u64 4 x.a, .ws .u64 4 x.r, .ws .u64 4 x.t1, .ws .u64 4 x.t2, .c l, .c r]

namespace Wp
noncomputable def r (k : List Item) (s : St) : Tree Out := runK P2 Tryd.prog noLoops 400 k s
noncomputable def s0 (b c : Int) (xs : List TD) (n : Nat) : St := ⟨enterT Tryd.f8 [pr b c, .c (.ro TP xs n)], []⟩
noncomputable def K : List Item := leftT [false, false] (r [.code (cd Tryd.f8)] (s0 0 0 [] 0))
noncomputable def st0 (b c : Int) (xs : List TD) (n : Nat) (i : Int) : St := ⟨slotsOf 80 [(2, pt 0), (4, pt 1), (5, one (.int false .i64 0)), (6, pt 2), (19, one (.ro TP xs n)), (20, one (.int false .i64 n)), (21, one (.int false .i64 i))],
  [.vals [.c (.int false .i64 b), .c (.int false .i64 c)], .vals (t6C z6 .nils .nils), .vals (t6C z6 .nils .nils)]⟩
noncomputable def st (b c : Int) (xs : List TD) (n : Nat) (x : T6) (l m : Nat) (i : Int) : St := ⟨slotsOf 80 [(2, pt 0), (4, pt 1), (5, one (.int false .i64 0)), (6, pt 2), (19, one (.ro TP xs n)), (20, one (.int false .i64 n)), (21, one (.int false .i64 i))],
  [.vals [.c (.int false .i64 b), .c (.int false .i64 c)], .vals (t6C z6 .nils .nils), .vals (t6C x (.sl 3 0 l) (.sl 4 0 m)), .arr WS x.l 0 [], .arr WS x.rr 0 []]⟩
theorem a (b c : Int) (xs : List TD) (n : Nat) : pieceT [2, 4, 5, 6, 19, 20, 21] [5, 21] [0, 1, 2] [false, false] (r [.code (cd Tryd.f8)] (s0 b c xs n)) = some ([!alw b c, (n : Int) != c], K, st0 b c xs n (0 : Nat)) := by kernel_rfl
theorem a' (b c : Int) (xs : List TD) (n : Nat) : (⟨(st0 b c xs n (0 : Nat)).t, setB (st0 b c xs n (0 : Nat)).h 2 (.vals (ownF (st0 b c xs n (0 : Nat)).h.length (t6C z6 .nils .nils)).1) ++ List.replicate ((ownF (st0 b c xs n (0 : Nat)).h.length (t6C z6 .nils .nils)).2 - (st0 b c xs n (0 : Nat)).h.length) (.arr WS [] 0 [])⟩ : St) = st b c xs n z6 0 0 (0 : Nat) := by kernel_rfl
def res (x : T6) (e : Int) (l r : Cell) : SV := .tup [.g (t6C x l r), .c (.int true .i64 e)]
theorem e1 (b c : Int) (xs : List TD) (n : Nat) : endT Tryd.prog Tryd.f8 [] [true] (r [.code (cd Tryd.f8)] (s0 b c xs n)) = some ([!alw b c], res z6 130 .nils .nils, []) := by kernel_rfl
theorem e2 (b c : Int) (xs : List TD) (n : Nat) : endT Tryd.prog Tryd.f8 [] [false, true] (r [.code (cd Tryd.f8)] (s0 b c xs n)) = some ([!alw b c, (n : Int) != c], res z6 2 .nils .nils, []) := by kernel_rfl
def lst (ys : List (List Int)) (n : Nat) : List (List Int) := List.take n (List.drop 0 (List.map lim (List.take n ys)))
def stp (x : T6) (y : TD) : T6 := ⟨add x.a y.1, add x.r y.2.1, add x.t1 y.2.2.1, add x.t2 y.2.2.2.1, x.l ++ lst y.2.2.2.2.1.1 y.2.2.2.2.1.2, x.rr ++ lst y.2.2.2.2.2.1.1 y.2.2.2.2.2.1.2⟩
noncomputable def rm2 (n : Nat) : Bool := SX.room n (Tryd.prog.bytesOf 28) && SX.room n 1
theorem b (b c : Int) (xs : List TD) (n : Nat) (x : T6) (l m i : Nat) : pieceT [2, 4, 5, 6, 19, 20, 21] [5, 21] [0, 1, 2, 7, 9] [true, true, true, false, true, true, true, true] (r K (st b c xs n x l m i)) =
    some ([decide ((i : Int) < n), decide (0 ≤ (i : Int) ∧ (i : Int) < n), (((xs.getD i dfT).2.2.2.2.1.2 : Int) != b) == false, (((xs.getD i dfT).2.2.2.2.2.1.2 : Int) != b),
      decide ((xs.getD i dfT).2.2.2.2.1.2 ≤ 1048576), decide (l = x.l.length) && rm2 (l + (lst (xs.getD i dfT).2.2.2.2.1.1 (xs.getD i dfT).2.2.2.2.1.2).length),
      decide ((xs.getD i dfT).2.2.2.2.2.1.2 ≤ 1048576), decide (m = x.rr.length) && rm2 (m + (lst (xs.getD i dfT).2.2.2.2.2.1.1 (xs.getD i dfT).2.2.2.2.2.1.2).length)],
      K, st b c xs n (stp x (xs.getD i dfT)) (l + (lst (xs.getD i dfT).2.2.2.2.1.1 (xs.getD i dfT).2.2.2.2.1.2).length) (m + (lst (xs.getD i dfT).2.2.2.2.2.1.1 (xs.getD i dfT).2.2.2.2.2.1.2).length) (iw ((i : Int) + 1))) := by kernel_rfl
theorem e3 (b c : Int) (xs : List TD) (n : Nat) (x : T6) (l m i : Nat) : endT Tryd.prog Tryd.f8 [] [true, true, false] (r K (st b c xs n x l m i)) =
    some ([decide ((i : Int) < n), decide (0 ≤ (i : Int) ∧ (i : Int) < n), (((xs.getD i dfT).2.2.2.2.1.2 : Int) != b) == false], res z6 2 .nils .nils, []) := by kernel_rfl
theorem e4 (b c : Int) (xs : List TD) (n : Nat) (x : T6) (l m i : Nat) : endT Tryd.prog Tryd.f8 [] [true, true, true, true] (r K (st b c xs n x l m i)) =
    some ([decide ((i : Int) < n), decide (0 ≤ (i : Int) ∧ (i : Int) < n), (((xs.getD i dfT).2.2.2.2.1.2 : Int) != b) == false, (((xs.getD i dfT).2.2.2.2.2.1.2 : Int) != b)], res z6 2 .nils .nils, []) := by kernel_rfl
theorem e5 (b c : Int) (xs : List TD) (n : Nat) (x : T6) (l m i : Nat) : endT Tryd.prog Tryd.f8 [3, 4] [false] (r K (st b c xs n x l m i)) =
    some ([decide ((i : Int) < n)], res x 0 (.sl 0 0 l) (.sl 1 0 m), [.arr WS x.l 0 [], .arr WS x.rr 0 []]) := by kernel_rfl
end Wp
def wR (x : T6) (e : Int) : SV := .tup [.g (t6C x (.sl 0 0 x.l.length) (.sl 1 0 x.rr.length)), .c (.int false .i64 e)]
def wH (x : T6) : Heap := [.arr WS x.l 0 [], .arr WS x.rr 0 []]
theorem add_lim (x y : List Int) : add x (lim y) = add x y := by
  unfold add lim
  rw [val_mod]
  rw [Int.add_emod, Int.emod_emod_of_dvd _ (Int.dvd_refl _), ← Int.add_emod]
theorem lst_eq (ys : List (List Int)) (n : Nat) : Wp.lst ys n = (ys.take n).map lim := by
  unfold Wp.lst
  rw [List.drop_zero, List.take_of_length_le (by rw [List.length_map, List.length_take]; omega)]
theorem stp_add (x : T6) (y : TD) : Wp.stp x y = x.add (nP y) := by
  unfold Wp.stp T6.add nP
  simp only [add_lim, lst_eq]
theorem rm2_ok {n : Nat} (h : n ≤ 1048576) : Wp.rm2 n = true := by
  unfold Wp.rm2; exact roomS h
def okTape (y : TD) : Prop := y.2.2.2.2.1.2 ≤ y.2.2.2.2.1.1.length ∧ y.2.2.2.2.2.1.2 ≤ y.2.2.2.2.2.1.1.length
theorem okTape_of {y : TD} (h : okD TP y) : okTape y := ⟨h.2.2.2.2.1.1, h.2.2.2.2.2.1.1⟩
theorem fit_nP {y : TD} (h : okTape y) (b : Int) : (nP y).fit b = !((((y.2.2.2.2.1.2 : Nat) : Int) != b) || (((y.2.2.2.2.2.1.2 : Nat) : Int) != b)) := by
  unfold T6.fit nP
  simp only [List.length_map, List.length_take]
  rw [Nat.min_eq_left h.1, Nat.min_eq_left h.2]
theorem fold_fit {B : Nat} : ∀ (l : List T6) (x : T6), (∀ y ∈ l, y.fit (B : Int) = true) → (l.foldl T6.add x).l.length = x.l.length + l.length * B ∧ (l.foldl T6.add x).rr.length = x.rr.length + l.length * B
  | [], x, _ => by simp
  | y :: l, x, h => by
    have hy := h y List.mem_cons_self
    obtain ⟨h1, h2⟩ := fold_fit (B := B) l (x.add y) (fun z hz => h z (List.mem_cons_of_mem _ hz))
    have e : y.l.length = B ∧ y.rr.length = B := by
      unfold T6.fit at hy
      simp only [Bool.not_eq_true', Bool.or_eq_false_iff, bne_eq_false_iff_eq] at hy
      omega
    rw [List.foldl_cons, h1, h2]
    unfold T6.add
    simp only [List.length_append, List.length_cons, Nat.add_mul]
    omega
theorem whole_fail {b c : Int} {xs : List TD} {n : Nat} {is : List Item} {s : St} {e : Int} (h : Runs Tryd.prog P2 Tryd.f8 0 is s (Wp.res z6 e .nils .nils) []) : Runs Tryd.prog P2 Tryd.f8 0 is s (wR z6 e) (wH z6) :=
  (Runs.nilRes WS (by decide) h).resU
theorem mem_getD {α : Type} {xs : List α} {i : Nat} {z : α} (h : i < xs.length) : xs.getD i z ∈ xs := by
  rw [List.getD_eq_getElem?_getD, List.getElem?_eq_getElem h]; exact List.getElem_mem _
theorem mem_take_getD {α : Type} {xs : List α} {i n : Nat} {z : α} (h : i < xs.length) (hn : i < n) : xs.getD i z ∈ xs.take n := by
  rw [List.getD_eq_getElem?_getD, List.getElem?_eq_getElem h]
  exact List.mem_take_iff_getElem.2 ⟨i, by omega, rfl⟩
/-- so far as all fits -/
theorem whole_loop {B C : Nat} {xs : List TD} {n j : Nat} {v : SV} {hl : Heap} (b2 : B ≤ 64) (hnC : n ≤ 16) (hx : n ≤ xs.length) (ho : ∀ y ∈ xs, okTape y) (hj : j ≤ n) (hf : ∀ i, i < j → (nP (xs.getD i dfT)).fit B = true)
    (h : ∀ x : T6, x = ((xs.take j).map nP).foldl T6.add z6 → Runs Tryd.prog P2 Tryd.f8 0 Wp.K (Wp.st B C xs n x x.l.length x.rr.length j) v hl) : Runs Tryd.prog P2 Tryd.f8 0 Wp.K (Wp.st B C xs n z6 0 0 (0 : Nat)) v hl := by
  refine loopG (st := fun k (x : T6) => Wp.st B C xs n x x.l.length x.rr.length k) (I := fun k x => x = ((xs.take k).map nP).foldl T6.add z6) (n := j) (fun k x hk hI => ⟨_, rfl, fun hr => ?_⟩) (fun x hI => h x hI) j 0 z6 (by omega) rfl
  have htk := take_succ_getD (z := dfT) (show k < xs.length by omega)
  have hm := ho _ (mem_getD (z := dfT) (show k < xs.length by omega))
  have hfk := hf k hk
  have hfit := hfk
  rw [fit_nP hm] at hfit
  simp only [Bool.not_eq_true', Bool.or_eq_false_iff, bne_eq_false_iff_eq] at hfit
  have hall : ∀ y ∈ (xs.take k).map nP, y.fit B = true := fun y hy => by
    obtain ⟨z, hz, rfl⟩ := List.mem_map.1 hy
    obtain ⟨i, hi, rfl⟩ := List.mem_take_iff_getElem.1 hz
    have := hf i (by omega)
    rwa [List.getD_eq_getElem?_getD, List.getElem?_eq_getElem (by omega)] at this
  obtain ⟨f1, f2⟩ := fold_fit (B := B) _ z6 hall
  rw [← hI] at f1 f2
  have hkB : k * B ≤ 16 * 64 := Nat.mul_le_mul (by omega) b2
  rw [List.length_map, List.length_take, Nat.min_eq_left (by omega)] at f1 f2
  have z0 : z6.l.length = 0 := rfl
  have z0' : z6.rr.length = 0 := rfl
  have hb := Wp.b B C xs n x x.l.length x.rr.length k
  have g1 : (Wp.lst (xs.getD k dfT).2.2.2.2.1.1 (xs.getD k dfT).2.2.2.2.1.2).length ≤ 64 := by rw [lst_eq, List.length_map, List.length_take]; omega
  have g2 : (Wp.lst (xs.getD k dfT).2.2.2.2.2.1.1 (xs.getD k dfT).2.2.2.2.2.1.2).length ≤ 64 := by rw [lst_eq, List.length_map, List.length_take]; omega
  rw [iwk (by omega), decide_eq_true (show (k : Int) < n by omega), decide_eq_true (show 0 ≤ (k : Int) ∧ (k : Int) < n by omega), decide_eq_true (show (xs.getD k dfT).2.2.2.2.1.2 ≤ 1048576 by omega), decide_eq_true (show (xs.getD k dfT).2.2.2.2.2.1.2 ≤ 1048576 by omega),
    rm2_ok (by omega), rm2_ok (by omega), decide_eq_true rfl, decide_eq_true rfl, hfit.1, hfit.2, bne_self_eq_false] at hb
  refine Runs.piece okP2 mx hb rfl (by rfl) ?_
  rw [htk, List.map_append, List.foldl_append, ← hI] at hr
  have e := stp_add x (xs.getD k dfT)
  have e1 : x.l.length + (Wp.lst (xs.getD k dfT).2.2.2.2.1.1 (xs.getD k dfT).2.2.2.2.1.2).length = (x.add (nP (xs.getD k dfT))).l.length := by
    rw [← e]; exact List.length_append.symm
  have e2 : x.rr.length + (Wp.lst (xs.getD k dfT).2.2.2.2.2.1.1 (xs.getD k dfT).2.2.2.2.2.1.2).length = (x.add (nP (xs.getD k dfT))).rr.length := by
    rw [← e]; exact List.length_append.symm
  rw [e, e1, e2]
  exact hr
theorem whole_runs {b c : Int} {xs : List TD} {n : Nat} (hx : n ≤ xs.length) (ho : ∀ y ∈ xs, okTape y) :
    Runs Tryd.prog P2 Tryd.f8 0 [.code (cd Tryd.f8)] (Wp.s0 b c xs n) (wR (WF b c ((xs.take n).map nP)).1 (WF b c ((xs.take n).map nP)).2) (wH (WF b c ((xs.take n).map nP)).1) := by
  have hlen : ((xs.take n).map nP).length = n := by rw [List.length_map, List.length_take]; omega
  unfold WF
  cases ha : alw b c with
  | false => exact whole_fail (b := b) (c := c) (xs := xs) (n := n) (Runs.last okP2 mx (Wp.e1 b c xs n) (by rw [ha]; rfl) (by rfl))
  | true =>
    rw [hlen]
    cases hc : ((n : Int) != c) with
    | true => exact whole_fail (b := b) (c := c) (xs := xs) (n := n) (Runs.last okP2 mx (Wp.e2 b c xs n) (by rw [ha, hc]; rfl) (by rfl))
    | false =>
      obtain ⟨B, C, rfl, rfl, b1, b2, b3, b4⟩ := alw_nat ha
      have hn : n = C := by simp only [bne_eq_false_iff_eq] at hc; omega
      refine Runs.piece okP2 mx (Wp.a B C xs n) (by rw [ha, hc]; rfl) (by rfl) ?_
      refine Runs.nilVals 2 WS (by decide) (fs := t6C z6 .nils .nils) rfl ?_
      rw [Wp.a']
      by_cases hall : ∀ i, i < n → (nP (xs.getD i dfT)).fit B = true
      · have : ((xs.take n).map nP).all (T6.fit B) = true := by
          rw [List.all_eq_true]
          intro y hy
          obtain ⟨z, hz, rfl⟩ := List.mem_map.1 hy
          obtain ⟨i, hi, rfl⟩ := List.mem_take_iff_getElem.1 hz
          have := hall i (by omega)
          rwa [List.getD_eq_getElem?_getD, List.getElem?_eq_getElem (by omega)] at this
        rw [this]
        refine whole_loop b2 (by omega) hx ho (Nat.le_refl n) hall (fun x hxe => ?_)
        subst hxe
        exact (Runs.last okP2 mx (Wp.e5 B C xs n _ _ _ n) (by rw [decide_eq_false (by omega)]) (by rfl)).resU
      · have hex : ∃ j, j < n ∧ (nP (xs.getD j dfT)).fit B = false ∧ ∀ i, i < j → (nP (xs.getD i dfT)).fit B = true := by
          have : ∀ m, m ≤ n → (∀ i, i < m → (nP (xs.getD i dfT)).fit B = true) ∨ ∃ j, j < m ∧ (nP (xs.getD j dfT)).fit B = false ∧ ∀ i, i < j → (nP (xs.getD i dfT)).fit B = true := by
            intro m
            induction m with
            | zero => exact fun _ => .inl fun i hi => absurd hi (Nat.not_lt_zero _)
            | succ m ih =>
              intro hm
              rcases ih (by omega) with h | ⟨j, h1, h2⟩
              · cases hf : (nP (xs.getD m dfT)).fit B with
                | true =>
                  refine .inl fun i hi => ?_
                  by_cases e : i = m
                  · rw [e]; exact hf
                  · exact h i (by omega)
                | false => exact .inr ⟨m, by omega, hf, h⟩
              · exact .inr ⟨j, by omega, h2⟩
          exact (this n (Nat.le_refl _)).resolve_left hall
        obtain ⟨j, hj, hbad, hgood⟩ := hex
        have : ((xs.take n).map nP).all (T6.fit B) = false := by
          rw [List.all_eq_false]
          exact ⟨_, List.mem_map.2 ⟨_, mem_take_getD (z := dfT) (by omega) hj, rfl⟩, by rw [hbad]; simp⟩
        rw [this]
        refine whole_loop b2 (by omega) hx ho (Nat.le_of_lt hj) hgood (fun x hxe => ?_)
        have hm := ho _ (mem_getD (z := dfT) (show j < xs.length by omega))
        rw [fit_nP hm] at hbad
        refine whole_fail (b := B) (c := C) (xs := xs) (n := n) ?_
        by_cases h1 : (((xs.getD j dfT).2.2.2.2.1.2 : Nat) : Int) = B
        · have h2 : ((((xs.getD j dfT).2.2.2.2.2.1.2 : Nat) : Int) != B) = true := by
            cases h3 : ((((xs.getD j dfT).2.2.2.2.2.1.2 : Nat) : Int) != B) with
            | true => rfl
            | false => rw [h3, h1] at hbad; simp at hbad
          exact Runs.last okP2 mx (Wp.e4 B C xs n x _ _ j) (by rw [decide_eq_true (by omega), decide_eq_true (by omega), h1, h2, bne_self_eq_false]; rfl) (by rfl)
        · exact Runs.last okP2 mx (Wp.e3 B C xs n x _ _ j) (by rw [decide_eq_true (by omega), decide_eq_true (by omega), bne_iff_ne.2 h1]; rfl) (by rfl)
def TWholeP (vs : List V1) (hl : Heap) : Tree (SV × Heap) :=
  match vs, hl with
  | [.g [.c (.int _ .i64 b), .c (.int _ .i64 c)], .c (.ro (.pair (.ws .u64 4) (.pair (.ws .u64 4) (.pair (.ws .u64 4) (.pair (.ws .u64 4) (.pair (.sl (.ws .u64 4)) (.pair (.sl (.ws .u64 4)) .unit)))))) xs n)], [] =>
    .ret (wR (WF b c ((List.take n (α := TD) xs).map nP)).1 (WF b c ((List.take n (α := TD) xs).map nP)).2, wH (WF b c ((List.take n (α := TD) xs).map nP)).1)
  | _, _ => .fail
theorem ok_WholeP0 : EntryOk Tryd.prog G0 8 TWholeP := by
  refine EntryOk.unlitHRuns (S := P2) (fn := Tryd.f8) (c := cd Tryd.f8) (by kernel_rfl) (by kernel_rfl) (by kernel_rfl) (fun vs hl r hl' ok okh h => ?_)
  unfold TWholeP at h
  split at h
  · rename_i l b l' c xs n
    obtain ⟨rfl, rfl⟩ := Prod.mk.inj (val_ret h)
    exact whole_runs ok.2.1.1 (fun y hy => okTape_of (ok.2.1.2 y hy))
  · cases h
theorem ok_WholeP : EntryOk Tryd.prog G0 8 (fun vs hl => TWholeP (normL [none, some TP] vs) hl) := ok_WholeP0.norm [none, some TP] rfl
--HERE
end Go.Sc

namespace Go.Sc
open Go Go.SX Go.Proofs

noncomputable def P3 : Tab := P2.put 8 2 (fun vs hl => TWholeP (normL [none, some TP] vs) hl)
theorem okP3 : SpecOk Tryd.prog P3 := okP2.put ok_WholeP
namespace Wr
noncomputable def r (k : List Item) (s : St) : Tree Out := runK P3 Tryd.prog noLoops 400 k s
noncomputable def s0 (b c : Int) (xs : List TD) (n : Nat) : St := ⟨enterT Tryd.f9 [pr b c, .c (.ro TP xs n)], []⟩
noncomputable def K : List Item := leftT [false, false] (r [.code (cd Tryd.f9)] (s0 0 0 [] 0))
noncomputable def st0 (b c : Int) (xs : List TD) (n : Nat) (i : Int) : St := ⟨slotsOf 81 [(1, one (.ro TP xs n)), (2, pt 0), (4, pt 1), (5, one (.int false .i64 0)), (6, pt 2), (7, one (.int false .i64 i))],
  [.vals [.c (.int false .i64 b), .c (.int false .i64 c)], .vals (t6C z6 .nils .nils), .vals (t6C z6 .nils .nils)]⟩
noncomputable def st (b c : Int) (xs : List TD) (n : Nat) (x : T6) (l m : Nat) (i : Int) : St := ⟨slotsOf 81 [(1, one (.ro TP xs n)), (2, pt 0), (4, pt 1), (5, one (.int false .i64 0)), (6, pt 2), (7, one (.int false .i64 i))],
  [.vals [.c (.int false .i64 b), .c (.int false .i64 c)], .vals (t6C z6 .nils .nils), .vals (t6C x (.sl 3 0 l) (.sl 4 0 m)), .arr WS x.l 0 [], .arr WS x.rr 0 []]⟩
theorem a (b c : Int) (xs : List TD) (n : Nat) : pieceT [1, 2, 4, 5, 6, 7] [5, 7] [0, 1, 2] [false, false] (r [.code (cd Tryd.f9)] (s0 b c xs n)) = some ([!alw b c, (n : Int) != c], K, st0 b c xs n (0 : Nat)) := by kernel_rfl
theorem a' (b c : Int) (xs : List TD) (n : Nat) : (⟨(st0 b c xs n (0 : Nat)).t, setB (st0 b c xs n (0 : Nat)).h 2 (.vals (ownF (st0 b c xs n (0 : Nat)).h.length (t6C z6 .nils .nils)).1) ++ List.replicate ((ownF (st0 b c xs n (0 : Nat)).h.length (t6C z6 .nils .nils)).2 - (st0 b c xs n (0 : Nat)).h.length) (.arr WS [] 0 [])⟩ : St) = st b c xs n z6 0 0 (0 : Nat) := by kernel_rfl
theorem e1 (b c : Int) (xs : List TD) (n : Nat) : endT Tryd.prog Tryd.f9 [] [true] (r [.code (cd Tryd.f9)] (s0 b c xs n)) = some ([!alw b c], Wp.res z6 130 .nils .nils, []) := by kernel_rfl
theorem e2 (b c : Int) (xs : List TD) (n : Nat) : endT Tryd.prog Tryd.f9 [] [false, true] (r [.code (cd Tryd.f9)] (s0 b c xs n)) = some ([!alw b c, (n : Int) != c], Wp.res z6 2 .nils .nils, []) := by kernel_rfl
def lst (ys : List (List Int)) (n : Nat) : List (List Int) := List.take n ys
def stp (x : T6) (y : TD) : T6 := ⟨add x.a y.1, add x.r y.2.1, add x.t1 y.2.2.1, add x.t2 y.2.2.2.1, x.l ++ lst y.2.2.2.2.1.1 y.2.2.2.2.1.2, x.rr ++ lst y.2.2.2.2.2.1.1 y.2.2.2.2.2.1.2⟩
theorem b (b c : Int) (xs : List TD) (n : Nat) (x : T6) (l m i : Nat) : pieceT [1, 2, 4, 5, 6, 7] [5, 7] [0, 1, 2, 6, 7] [true, true, true, false, true, true, true, true, true, true] (r K (st b c xs n x l m i)) =
    some ([decide ((i : Int) < n), decide (0 ≤ (i : Int) ∧ (i : Int) < n), (((xs.getD i dfT).2.2.2.2.1.2 : Int) != b) == false, (((xs.getD i dfT).2.2.2.2.2.1.2 : Int) != b),
      decide (val x.a < ell ∧ val (xs.getD i dfT).1 < ell), decide (val x.r < ell ∧ val (xs.getD i dfT).2.1 < ell), decide (val x.t1 < ell ∧ val (xs.getD i dfT).2.2.1 < ell), decide (val x.t2 < ell ∧ val (xs.getD i dfT).2.2.2.1 < ell),
      decide (l = x.l.length) && Wp.rm2 (l + (lst (xs.getD i dfT).2.2.2.2.1.1 (xs.getD i dfT).2.2.2.2.1.2).length),
      decide (m = x.rr.length) && Wp.rm2 (m + (lst (xs.getD i dfT).2.2.2.2.2.1.1 (xs.getD i dfT).2.2.2.2.2.1.2).length)],
      K, st b c xs n (stp x (xs.getD i dfT)) (l + (lst (xs.getD i dfT).2.2.2.2.1.1 (xs.getD i dfT).2.2.2.2.1.2).length) (m + (lst (xs.getD i dfT).2.2.2.2.2.1.1 (xs.getD i dfT).2.2.2.2.2.1.2).length) (iw ((i : Int) + 1))) := by kernel_rfl
theorem e3 (b c : Int) (xs : List TD) (n : Nat) (x : T6) (l m i : Nat) : endT Tryd.prog Tryd.f9 [] [true, true, false] (r K (st b c xs n x l m i)) =
    some ([decide ((i : Int) < n), decide (0 ≤ (i : Int) ∧ (i : Int) < n), (((xs.getD i dfT).2.2.2.2.1.2 : Int) != b) == false], Wp.res z6 2 .nils .nils, []) := by kernel_rfl
theorem e4 (b c : Int) (xs : List TD) (n : Nat) (x : T6) (l m i : Nat) : endT Tryd.prog Tryd.f9 [] [true, true, true, true] (r K (st b c xs n x l m i)) =
    some ([decide ((i : Int) < n), decide (0 ≤ (i : Int) ∧ (i : Int) < n), (((xs.getD i dfT).2.2.2.2.1.2 : Int) != b) == false, (((xs.getD i dfT).2.2.2.2.2.1.2 : Int) != b)], Wp.res z6 2 .nils .nils, []) := by kernel_rfl
theorem e5 (b c : Int) (xs : List TD) (n : Nat) (x : T6) (l m i : Nat) : endT Tryd.prog Tryd.f9 [3, 4] [false] (r K (st b c xs n x l m i)) =
    some ([decide ((i : Int) < n)], Wp.res x 0 (.sl 0 0 l) (.sl 1 0 m), [.arr WS x.l 0 [], .arr WS x.rr 0 []]) := by kernel_rfl
end Wr
theorem rstp_add (x : T6) (y : TD) : Wr.stp x y = x.add (nR y) := rfl
theorem fit_nR {y : TD} (h : okTape y) (b : Int) : (nR y).fit b = !((((y.2.2.2.2.1.2 : Nat) : Int) != b) || (((y.2.2.2.2.2.1.2 : Nat) : Int) != b)) := by
  unfold T6.fit nR
  simp only [List.length_take]
  rw [Nat.min_eq_left h.1, Nat.min_eq_left h.2]
def T6.red (x : T6) : Prop := val x.a < ell ∧ val x.r < ell ∧ val x.t1 < ell ∧ val x.t2 < ell
instance (x : T6) : Decidable x.red := by unfold T6.red; infer_instance
theorem add_red (x y : List Int) : val (add x y) < ell := by unfold add; rw [val_mod]; exact (mod_bound _).2
theorem fold_red : ∀ (l : List T6) (x : T6), x.red → (l.foldl T6.add x).red
  | [], _, h => h
  | y :: l, x, _ => fold_red l (x.add y) ⟨add_red _ _, add_red _ _, add_red _ _, add_red _ _⟩
theorem z6_red : z6.red := by unfold T6.red; decide
theorem rwhole_fail {b c : Int} {xs : List TD} {n : Nat} {is : List Item} {s : St} {e : Int} (h : Runs Tryd.prog P3 Tryd.f9 0 is s (Wp.res z6 e .nils .nils) []) : Runs Tryd.prog P3 Tryd.f9 0 is s (wR z6 e) (wH z6) :=
  (Runs.nilRes WS (by decide) h).resU
/-- so far as all fits -/
theorem rwhole_loop {B C : Nat} {xs : List TD} {n j : Nat} {v : SV} {hl : Heap} (b2 : B ≤ 64) (hnC : n ≤ 16) (hx : n ≤ xs.length) (ho : ∀ y ∈ xs, okTape y) (hr6 : ∀ i, i < n → (nR (xs.getD i dfT)).red) (hj : j ≤ n) (hf : ∀ i, i < j → (nR (xs.getD i dfT)).fit B = true)
    (h : ∀ x : T6, x = ((xs.take j).map nR).foldl T6.add z6 → Runs Tryd.prog P3 Tryd.f9 0 Wr.K (Wr.st B C xs n x x.l.length x.rr.length j) v hl) : Runs Tryd.prog P3 Tryd.f9 0 Wr.K (Wr.st B C xs n z6 0 0 (0 : Nat)) v hl := by
  refine loopG (st := fun k (x : T6) => Wr.st B C xs n x x.l.length x.rr.length k) (I := fun k x => x = ((xs.take k).map nR).foldl T6.add z6) (n := j) (fun k x hk hI => ⟨_, rfl, fun hr => ?_⟩) (fun x hI => h x hI) j 0 z6 (by omega) rfl
  have htk := take_succ_getD (z := dfT) (show k < xs.length by omega)
  have hm := ho _ (mem_getD (z := dfT) (show k < xs.length by omega))
  have hfk := hf k hk
  have hfit := hfk
  rw [fit_nR hm] at hfit
  simp only [Bool.not_eq_true', Bool.or_eq_false_iff, bne_eq_false_iff_eq] at hfit
  have hall : ∀ y ∈ (xs.take k).map nR, y.fit B = true := fun y hy => by
    obtain ⟨z, hz, rfl⟩ := List.mem_map.1 hy
    obtain ⟨i, hi, rfl⟩ := List.mem_take_iff_getElem.1 hz
    have := hf i (by omega)
    rwa [List.getD_eq_getElem?_getD, List.getElem?_eq_getElem (by omega)] at this
  obtain ⟨f1, f2⟩ := fold_fit (B := B) _ z6 hall
  rw [← hI] at f1 f2
  have hkB : k * B ≤ 16 * 64 := Nat.mul_le_mul (by omega) b2
  rw [List.length_map, List.length_take, Nat.min_eq_left (by omega)] at f1 f2
  have hxr : x.red := by rw [hI]; exact fold_red _ _ z6_red
  have hyr := hr6 k (by omega)
  have z0 : z6.l.length = 0 := rfl
  have z0' : z6.rr.length = 0 := rfl
  have hb := Wr.b B C xs n x x.l.length x.rr.length k
  have g1 : (Wr.lst (xs.getD k dfT).2.2.2.2.1.1 (xs.getD k dfT).2.2.2.2.1.2).length ≤ 64 := by unfold Wr.lst; rw [ List.length_take]; omega
  have g2 : (Wr.lst (xs.getD k dfT).2.2.2.2.2.1.1 (xs.getD k dfT).2.2.2.2.2.1.2).length ≤ 64 := by unfold Wr.lst; rw [ List.length_take]; omega
  rw [iwk (by omega), decide_eq_true (show (k : Int) < n by omega), decide_eq_true (show 0 ≤ (k : Int) ∧ (k : Int) < n by omega), 
    decide_eq_true ⟨hxr.1, hyr.1⟩, decide_eq_true ⟨hxr.2.1, hyr.2.1⟩, decide_eq_true ⟨hxr.2.2.1, hyr.2.2.1⟩, decide_eq_true ⟨hxr.2.2.2, hyr.2.2.2⟩, rm2_ok (by omega), rm2_ok (by omega), decide_eq_true rfl, decide_eq_true rfl, hfit.1, hfit.2, bne_self_eq_false] at hb
  refine Runs.piece okP3 mx hb rfl (by rfl) ?_
  rw [htk, List.map_append, List.foldl_append, ← hI] at hr
  have e := rstp_add x (xs.getD k dfT)
  have e1 : x.l.length + (Wr.lst (xs.getD k dfT).2.2.2.2.1.1 (xs.getD k dfT).2.2.2.2.1.2).length = (x.add (nR (xs.getD k dfT))).l.length := by
    rw [← e]; exact List.length_append.symm
  have e2 : x.rr.length + (Wr.lst (xs.getD k dfT).2.2.2.2.2.1.1 (xs.getD k dfT).2.2.2.2.2.1.2).length = (x.add (nR (xs.getD k dfT))).rr.length := by
    rw [← e]; exact List.length_append.symm
  rw [e, e1, e2]
  exact hr
theorem rwhole_runs {b c : Int} {xs : List TD} {n : Nat} (hx : n ≤ xs.length) (ho : ∀ y ∈ xs, okTape y) (hr6 : ∀ i, i < n → (nR (xs.getD i dfT)).red) :
    Runs Tryd.prog P3 Tryd.f9 0 [.code (cd Tryd.f9)] (Wr.s0 b c xs n) (wR (WF b c ((xs.take n).map nR)).1 (WF b c ((xs.take n).map nR)).2) (wH (WF b c ((xs.take n).map nR)).1) := by
  have hlen : ((xs.take n).map nR).length = n := by rw [List.length_map, List.length_take]; omega
  unfold WF
  cases ha : alw b c with
  | false => exact rwhole_fail (b := b) (c := c) (xs := xs) (n := n) (Runs.last okP3 mx (Wr.e1 b c xs n) (by rw [ha]; rfl) (by rfl))
  | true =>
    rw [hlen]
    cases hc : ((n : Int) != c) with
    | true => exact rwhole_fail (b := b) (c := c) (xs := xs) (n := n) (Runs.last okP3 mx (Wr.e2 b c xs n) (by rw [ha, hc]; rfl) (by rfl))
    | false =>
      obtain ⟨B, C, rfl, rfl, b1, b2, b3, b4⟩ := alw_nat ha
      have hn : n = C := by simp only [bne_eq_false_iff_eq] at hc; omega
      refine Runs.piece okP3 mx (Wr.a B C xs n) (by rw [ha, hc]; rfl) (by rfl) ?_
      refine Runs.nilVals 2 WS (by decide) (fs := t6C z6 .nils .nils) rfl ?_
      rw [Wr.a']
      by_cases hall : ∀ i, i < n → (nR (xs.getD i dfT)).fit B = true
      · have : ((xs.take n).map nR).all (T6.fit B) = true := by
          rw [List.all_eq_true]
          intro y hy
          obtain ⟨z, hz, rfl⟩ := List.mem_map.1 hy
          obtain ⟨i, hi, rfl⟩ := List.mem_take_iff_getElem.1 hz
          have := hall i (by omega)
          rwa [List.getD_eq_getElem?_getD, List.getElem?_eq_getElem (by omega)] at this
        rw [this]
        refine rwhole_loop b2 (by omega) hx ho hr6 (Nat.le_refl n) hall (fun x hxe => ?_)
        subst hxe
        exact (Runs.last okP3 mx (Wr.e5 B C xs n _ _ _ n) (by rw [decide_eq_false (by omega)]) (by rfl)).resU
      · have hex : ∃ j, j < n ∧ (nR (xs.getD j dfT)).fit B = false ∧ ∀ i, i < j → (nR (xs.getD i dfT)).fit B = true := by
          have : ∀ m, m ≤ n → (∀ i, i < m → (nR (xs.getD i dfT)).fit B = true) ∨ ∃ j, j < m ∧ (nR (xs.getD j dfT)).fit B = false ∧ ∀ i, i < j → (nR (xs.getD i dfT)).fit B = true := by
            intro m
            induction m with
            | zero => exact fun _ => .inl fun i hi => absurd hi (Nat.not_lt_zero _)
            | succ m ih =>
              intro hm
              rcases ih (by omega) with h | ⟨j, h1, h2⟩
              · cases hf : (nR (xs.getD m dfT)).fit B with
                | true =>
                  refine .inl fun i hi => ?_
                  by_cases e : i = m
                  · rw [e]; exact hf
                  · exact h i (by omega)
                | false => exact .inr ⟨m, by omega, hf, h⟩
              · exact .inr ⟨j, by omega, h2⟩
          exact (this n (Nat.le_refl _)).resolve_left hall
        obtain ⟨j, hj, hbad, hgood⟩ := hex
        have : ((xs.take n).map nR).all (T6.fit B) = false := by
          rw [List.all_eq_false]
          exact ⟨_, List.mem_map.2 ⟨_, mem_take_getD (z := dfT) (by omega) hj, rfl⟩, by rw [hbad]; simp⟩
        rw [this]
        refine rwhole_loop b2 (by omega) hx ho hr6 (Nat.le_of_lt hj) hgood (fun x hxe => ?_)
        have hm := ho _ (mem_getD (z := dfT) (show j < xs.length by omega))
        rw [fit_nR hm] at hbad
        refine rwhole_fail (b := B) (c := C) (xs := xs) (n := n) ?_
        by_cases h1 : (((xs.getD j dfT).2.2.2.2.1.2 : Nat) : Int) = B
        · have h2 : ((((xs.getD j dfT).2.2.2.2.2.1.2 : Nat) : Int) != B) = true := by
            cases h3 : ((((xs.getD j dfT).2.2.2.2.2.1.2 : Nat) : Int) != B) with
            | true => rfl
            | false => rw [h3, h1] at hbad; simp at hbad
          exact Runs.last okP3 mx (Wr.e4 B C xs n x _ _ j) (by rw [decide_eq_true (by omega), decide_eq_true (by omega), h1, h2, bne_self_eq_false]; rfl) (by rfl)
        · exact Runs.last okP3 mx (Wr.e3 B C xs n x _ _ j) (by rw [decide_eq_true (by omega), decide_eq_true (by omega), bne_iff_ne.2 h1]; rfl) (by rfl)
def TWholeR (vs : List V1) (hl : Heap) : Tree (SV × Heap) :=
  match vs, hl with
  | [.g [.c (.int _ .i64 b), .c (.int _ .i64 c)], .c (.ro (.pair (.ws .u64 4) (.pair (.ws .u64 4) (.pair (.ws .u64 4) (.pair (.ws .u64 4) (.pair (.sl (.ws .u64 4)) (.pair (.sl (.ws .u64 4)) .unit)))))) xs n)], [] =>
    Tree.chk (decide (∀ i, i < n → (nR (List.getD (α := TD) xs i dfT)).red)) (.ret (wR (WF b c ((List.take n (α := TD) xs).map nR)).1 (WF b c ((List.take n (α := TD) xs).map nR)).2, wH (WF b c ((List.take n (α := TD) xs).map nR)).1))
  | _, _ => .fail
theorem ok_WholeR0 : EntryOk Tryd.prog G0 9 TWholeR := by
  refine EntryOk.unlitHRuns (S := P3) (fn := Tryd.f9) (c := cd Tryd.f9) (by kernel_rfl) (by kernel_rfl) (by kernel_rfl) (fun vs hl r hl' ok okh h => ?_)
  unfold TWholeR at h
  split at h
  · rename_i l b l' c xs n
    obtain ⟨h1, h2⟩ := val_chk h
    obtain ⟨rfl, rfl⟩ := Prod.mk.inj (val_ret h2)
    exact rwhole_runs ok.2.1.1 (fun y hy => okTape_of (ok.2.1.2 y hy)) (of_decide_eq_true h1)
  · cases h
theorem ok_WholeR : EntryOk Tryd.prog G0 9 (fun vs hl => TWholeR (normL [none, some TP] vs) hl) := ok_WholeR0.norm [none, some TP] rfl
noncomputable def P4 : Tab := P3.put 9 2 (fun vs hl => TWholeR (normL [none, some TP] vs) hl)
theorem okP4 : SpecOk Tryd.prog P4 := okP3.put ok_WholeR
--HERE
end Go.Sc

namespace Go.Sc
open Go Go.SX Go.Proofs

def gT (x : T6) (n m : Nat) : V1 := .g (t6C x (.ro WS x.l n) (.ro WS x.rr m))
def m77 : List Int := [77, 0, 0, 0]
def m78 : List Int := [78, 0, 0, 0]
noncomputable def tw1 (l : List (List Int)) (n : Nat) : Bool := true && Wp.rm2 (0 + (l.take n).length)
noncomputable def tw2 (l : List (List Int)) (n : Nat) : Bool := decide (0 + (l.take n).length = ([] ++ l.take n).length) && Wp.rm2 (0 + (l.take n).length + 1)
def twi (l : List (List Int)) (n : Nat) : Int := iw (((0 + (l.take n).length + 1 : Nat) : Int) - 1)
def tw3 (l : List (List Int)) (n : Nat) (m : List Int) : Bool := true && decide (0 ≤ twi l n) && decide (0 ≤ (twi l n).toNat ∧ 0 + (twi l n).toNat ≤ ([] ++ l.take n ++ [m]).length)
theorem twin_b (x : T6) (n m : Nat) : (bodyT P4 Tryd.prog allLoops Tryd.f6 (cd Tryd.f6) [gT x n m] []).path [true, true, true, true, true, true] =
    some ([tw1 x.l n, tw2 x.l n, tw1 x.rr m, tw2 x.rr m, tw3 x.l n m77, tw3 x.rr m m78],
      .one (.g (t6C x (.sl 0 0 ((twi x.l n).toNat - 0)) (.sl 1 0 ((twi x.rr m).toNat - 0)))), [.arr WS ([] ++ x.l.take n ++ [m77]) 0 [], .arr WS ([] ++ x.rr.take m ++ [m78]) 0 []]) := by kernel_rfl
theorem tw_ok {l : List (List Int)} {n : Nat} {m : List Int} (h : n ≤ l.length) (hn : n ≤ 1048575) : tw1 l n = true ∧ tw2 l n = true ∧ tw3 l n m = true ∧ (twi l n).toNat - 0 = n := by
  have e : (l.take n).length = n := by rw [List.length_take]; omega
  have ei : twi l n = n := by
    unfold twi
    rw [e, show (((0 + n + 1 : Nat) : Int) - 1) = (n : Int) from by omega]
    exact wrap64 (by omega)
  refine ⟨?_, ?_, ?_, by rw [ei]; omega⟩
  · unfold tw1; rw [e, rm2_ok (by omega)]; rfl
  · unfold tw2; rw [List.nil_append, e, rm2_ok (by omega), decide_eq_true (by omega)]; rfl
  · unfold tw3
    rw [ei, decide_eq_true (by omega), decide_eq_true (by rw [List.nil_append, List.length_append, e, Int.toNat_natCast]; simp)]; rfl
def Ttwin (vs : List V1) (hl : Heap) : Tree (SV × Heap) :=
  match vs, hl with
  | [.g [.ws .u64 4 a, .ws .u64 4 r, .ws .u64 4 t1, .ws .u64 4 t2, .c (.ro (.ws .u64 4) l n), .c (.ro (.ws .u64 4) rr m)]], [] =>
    Tree.chk (decide (n ≤ 1048575 ∧ m ≤ 1048575 ∧ n ≤ l.length ∧ m ≤ rr.length)) (.ret (.one (.g (t6C ⟨a, r, t1, t2, [], []⟩ (.sl 0 0 n) (.sl 1 0 m))), [.arr WS (show List (List Int) from List.take (α := List Int) n l ++ [m77]) 0 [], .arr WS (show List (List Int) from List.take (α := List Int) m rr ++ [m78]) 0 []]))
  | _, _ => .fail
theorem ok_twin : EntryOk Tryd.prog G0 6 Ttwin := by
  refine EntryOk.sub (bodyT_ok okP4 mx (un := allLoops) (fn := Tryd.f6) (c := cd Tryd.f6) (by kernel_rfl) (by kernel_rfl) (by kernel_rfl)) (fun vs hl rs ok h => ?_)
  unfold Ttwin at h
  split at h
  · rename_i a r t1 t2 l n rr m
    obtain ⟨h1, h2⟩ := val_chk h
    obtain ⟨h3, h4, h5, h6⟩ := of_decide_eq_true h1
    obtain rfl := val_ret h2
    have hp := twin_b ⟨a, r, t1, t2, l, rr⟩ n m
    obtain ⟨g1, g2, g3, g4⟩ := tw_ok (m := m77) h5 h3
    obtain ⟨k1, k2, k3, k4⟩ := tw_ok (m := m78) h6 h4
    rw [g1, g2, g3, g4, k1, k2, k3, k4, List.nil_append, List.nil_append] at hp
    exact Tree.path_val hp
  · cases h
theorem tape_b (x : T6) (n m : Nat) : (bodyT P4 Tryd.prog allLoops Tryd.f7 (cd Tryd.f7) [gT x n m] []).path [true, true] =
    some ([decide (n ≤ 1048576), decide (m ≤ 1048576)], .one (.g (t6C ⟨lim x.a, lim x.r, lim x.t1, lim x.t2, [], []⟩ (.sl 0 0 n) (.sl 1 0 m))), [.arr WS ((x.l.take n).map lim) 0 [], .arr WS ((x.rr.take m).map lim) 0 []]) := by kernel_rfl
def Ttape14 (vs : List V1) (hl : Heap) : Tree (SV × Heap) :=
  match vs, hl with
  | [.g [.ws .u64 4 a, .ws .u64 4 r, .ws .u64 4 t1, .ws .u64 4 t2, .c (.ro (.ws .u64 4) l n), .c (.ro (.ws .u64 4) rr m)]], [] =>
    Tree.chk (decide (n ≤ 1048576 ∧ m ≤ 1048576)) (.ret (.one (.g (t6C ⟨lim a, lim r, lim t1, lim t2, [], []⟩ (.sl 0 0 n) (.sl 1 0 m))), [.arr WS ((List.take n l).map lim) 0 [], .arr WS ((List.take m rr).map lim) 0 []]))
  | _, _ => .fail
theorem ok_tape14 : EntryOk Tryd.prog G0 7 Ttape14 := by
  refine EntryOk.sub (bodyT_ok okP4 mx (un := allLoops) (fn := Tryd.f7) (c := cd Tryd.f7) (by kernel_rfl) (by kernel_rfl) (by kernel_rfl)) (fun vs hl rs ok h => ?_)
  unfold Ttape14 at h
  split at h
  · rename_i a r t1 t2 l n rr m
    obtain ⟨h1, h2⟩ := val_chk h
    obtain ⟨h3, h4⟩ := of_decide_eq_true h1
    obtain rfl := val_ret h2
    have hp := tape_b ⟨a, r, t1, t2, l, rr⟩ n m
    rw [decide_eq_true h3, decide_eq_true h4] at hp
    exact Tree.path_val hp
  · cases h

/-! ### stays -/
namespace Sy
noncomputable def r (k : List Item) (s : St) : Tree Out := runK P4 Tryd.prog noLoops 400 k s
noncomputable def s0 (x : T6) (n m : Nat) (y : T6) (n' m' : Nat) : St := ⟨enterT Tryd.f10 [gT x n m, gT y n' m'], []⟩
noncomputable def K1 : List Item := leftT [true, true] (r [.code (cd Tryd.f10)] (s0 z6 0 0 z6 0 0))
def hS (x : T6) (n m : Nat) : Blk := .vals (t6C x (.ro WS x.l n) (.ro WS x.rr m))
def syI (n : Nat) : Int := iw ((n : Int) + 1)
def sy1 (l : List (List Int)) (n : Nat) : Bool := true && decide (0 ≤ syI n) && decide (0 ≤ (syI n).toNat ∧ (syI n).toNat ≤ l.length)
noncomputable def st1 (x : T6) (n m : Nat) (y : T6) (n' m' p q : Nat) (i : Int) : St := ⟨slotsOf 75 [(2, pt 0), (3, pt 1), (5, one (.ro WS x.l p)), (6, one (.ro WS x.rr q)), (7, one (.int false .i64 i))], [hS x n m, hS y n' m']⟩
theorem a (x y : T6) (n m n' m' : Nat) : pieceT [2, 3, 5, 6, 7] [7] [0, 1] [true, true] (r [.code (cd Tryd.f10)] (s0 x n m y n' m')) =
    some ([sy1 x.l n, sy1 x.rr m], K1, st1 x n m y n' m' ((syI n).toNat - 0) ((syI m).toNat - 0) (0 : Nat)) := by kernel_rfl
theorem b (x y : T6) (n m n' m' p q i : Nat) : pieceT [2, 3, 5, 6, 7] [7] [0, 1] [true, true, true, false] (r K1 (st1 x n m y n' m' p q i)) =
    some ([decide ((i : Int) < n'), decide (0 ≤ (i : Int) ∧ (i : Int) < p), decide (0 ≤ (i : Int) ∧ (i : Int) < n'), !(x.l.getD i z4 == y.l.getD i z4 && true)], K1, st1 x n m y n' m' p q (iw ((i : Int) + 1))) := by kernel_rfl
noncomputable def K2 : List Item := leftT [false] (r K1 (st1 z6 0 0 z6 0 0 0 0 0))
noncomputable def st2 (x : T6) (n m : Nat) (y : T6) (n' m' p q : Nat) (i : Int) : St := ⟨slotsOf 75 [(2, pt 0), (3, pt 1), (5, one (.ro WS x.l p)), (6, one (.ro WS x.rr q)), (8, one (.int false .i64 i))], [hS x n m, hS y n' m']⟩
theorem c (x y : T6) (n m n' m' p q i : Nat) : pieceT [2, 3, 5, 6, 8] [8] [0, 1] [false] (r K1 (st1 x n m y n' m' p q i)) =
    some ([decide ((i : Int) < n')], K2, st2 x n m y n' m' p q (0 : Nat)) := by kernel_rfl
theorem d (x y : T6) (n m n' m' p q i : Nat) : pieceT [2, 3, 5, 6, 8] [8] [0, 1] [true, true, true, false] (r K2 (st2 x n m y n' m' p q i)) =
    some ([decide ((i : Int) < m'), decide (0 ≤ (i : Int) ∧ (i : Int) < q), decide (0 ≤ (i : Int) ∧ (i : Int) < m'), !(x.rr.getD i z4 == y.rr.getD i z4 && true)], K2, st2 x n m y n' m' p q (iw ((i : Int) + 1))) := by kernel_rfl
theorem e (x y : T6) (n m n' m' p q i : Nat) : endT Tryd.prog Tryd.f10 [] [false, true, true, true] (r K2 (st2 x n m y n' m' p q i)) =
    some ([decide ((i : Int) < m'), decide (0 ≤ (n' : Int) ∧ (n' : Int) < p), (x.l.getD n' z4 == m77 && true) == true, decide (0 ≤ (m' : Int) ∧ (m' : Int) < q)], .one (.c (.bool false (x.rr.getD m' z4 == m78 && true))), []) := by kernel_rfl
end Sy
def staB (l : List (List Int)) (n : Nat) (l' : List (List Int)) (n' : Nat) (mk : List Int) : Bool := decide (n = n' ∧ n ≤ 1048575 ∧ n + 1 ≤ l.length ∧ l.take n = l'.take n ∧ l.getD n z4 = mk)
theorem stays_runs {x y : T6} {n m : Nat} (h1 : n ≤ 1048575 ∧ n + 1 ≤ x.l.length ∧ x.l.take n = y.l.take n ∧ x.l.getD n z4 = m77) (h2 : m ≤ 1048575 ∧ m + 1 ≤ x.rr.length ∧ x.rr.take m = y.rr.take m ∧ x.rr.getD m z4 = m78) :
    Runs Tryd.prog P4 Tryd.f10 0 [.code (cd Tryd.f10)] (Sy.s0 x n m y n m) (.one (.c (.bool false true))) [] := by
  obtain ⟨a1, a2, a3, a4⟩ := h1
  obtain ⟨b1, b2, b3, b4⟩ := h2
  have en : Sy.syI n = ((n + 1 : Nat) : Int) := iwk (by omega)
  have em : Sy.syI m = ((m + 1 : Nat) : Int) := iwk (by omega)
  have ha := Sy.a x y n m n m
  have c1 : Sy.sy1 x.l n = true := by unfold Sy.sy1; rw [en, decide_eq_true (by omega), decide_eq_true (by omega)]; rfl
  have c2 : Sy.sy1 x.rr m = true := by unfold Sy.sy1; rw [em, decide_eq_true (by omega), decide_eq_true (by omega)]; rfl
  rw [c1, c2, en, em, Int.toNat_natCast, Int.toNat_natCast, Nat.sub_zero, Nat.sub_zero] at ha
  refine Runs.piece okP4 mx ha rfl (by rfl) ?_
  refine loopG (st := fun k (_ : Unit) => Sy.st1 x n m y n m (n + 1) (m + 1) k) (I := fun _ _ => True) (n := n) (fun k a hk _ => ⟨(), trivial, fun hr => ?_⟩) (fun _ _ => ?_) n 0 () (by omega) trivial
  · have hb := Sy.b x y n m n m (n + 1) (m + 1) k
    rw [iwk (by omega), decide_eq_true (by omega), decide_eq_true (by omega), decide_eq_true (by omega), getD_take a3 hk, beq_self_eq_true] at hb
    exact Runs.piece okP4 mx hb rfl (by rfl) hr
  refine Runs.piece okP4 mx (Sy.c x y n m n m (n + 1) (m + 1) n) (by rw [decide_eq_false (by omega)]) (by rfl) ?_
  refine loopG (st := fun k (_ : Unit) => Sy.st2 x n m y n m (n + 1) (m + 1) k) (I := fun _ _ => True) (n := m) (fun k a hk _ => ⟨(), trivial, fun hr => ?_⟩) (fun _ _ => ?_) m 0 () (by omega) trivial
  · have hb := Sy.d x y n m n m (n + 1) (m + 1) k
    rw [iwk (by omega), decide_eq_true (by omega), decide_eq_true (by omega), decide_eq_true (by omega), getD_take b3 hk, beq_self_eq_true] at hb
    exact Runs.piece okP4 mx hb rfl (by rfl) hr
  have he := Sy.e x y n m n m (n + 1) (m + 1) m
  rw [decide_eq_false (by omega), decide_eq_true (by omega), decide_eq_true (by omega), a4, b4, beq_self_eq_true, beq_self_eq_true] at he
  exact Runs.last okP4 mx he rfl (by rfl)
def Tstays (vs : List V1) (hl : Heap) : Tree (SV × Heap) :=
  match vs, hl with
  | [.g [.ws .u64 4 a, .ws .u64 4 r, .ws .u64 4 t1, .ws .u64 4 t2, .c (.ro (.ws .u64 4) l n), .c (.ro (.ws .u64 4) rr m)], .g [.ws .u64 4 a', .ws .u64 4 r', .ws .u64 4 t1', .ws .u64 4 t2', .c (.ro (.ws .u64 4) l' n'), .c (.ro (.ws .u64 4) rr' m')]], [] =>
    Tree.chk (staB l n l' n' m77 && staB rr m rr' m' m78) (.ret (.one (.c (.bool false true)), []))
  | _, _ => .fail
theorem ok_stays : EntryOk Tryd.prog G0 10 Tstays := by
  refine EntryOk.runs (S := P4) (fn := Tryd.f10) (c := cd Tryd.f10) (by kernel_rfl) (by kernel_rfl) (by kernel_rfl) (fun vs hl r hl' ok h => ?_)
  unfold Tstays at h
  split at h
  · rename_i a r' t1 t2 l n rr m a' r'' t1' t2' l' n' rr' m'
    obtain ⟨h1, h2⟩ := val_chk h
    obtain ⟨rfl, rfl⟩ := Prod.mk.inj (val_ret h2)
    rw [Bool.and_eq_true] at h1
    obtain ⟨rfl, h3⟩ := of_decide_eq_true h1.1
    obtain ⟨rfl, h4⟩ := of_decide_eq_true h1.2
    exact stays_runs (x := ⟨a, r', t1, t2, l, rr⟩) (y := ⟨a', r'', t1', t2', l', rr'⟩) h3 h4
  · cases h
noncomputable def P5 : Tab := ((P4.put 6 2 Ttwin).put 7 2 Ttape14).put 10 0 Tstays
theorem okP5 : SpecOk Tryd.prog P5 := ((okP4.put ok_twin).put ok_tape14).put ok_stays
--HERE
end Go.Sc

namespace Go.Sc
open Go Go.SX Go.Proofs
namespace Ap
noncomputable def r (is : List Item) (s : St) : Tree Out := runK P5 Tryd.prog (only [2, 9, 18]) 400 is s
noncomputable def s0 (h : Heap) : St := ⟨enterT Tryd.f13 [.c (.sla 0 0 4 0 4)], h⟩
noncomputable def sa (i k : Int) (h : Heap) : St := ⟨slotsOf 92 [(0, one (.sla 0 0 4 0 4)), (3, one (.int true .i64 i)), (4, one (.int false .i64 k))], h⟩
noncomputable def sb (i k : Int) (m : Cell) (h : Heap) : St := ⟨slotsOf 92 [(0, one (.sla 0 0 4 0 4)), (5, one (.int true .i64 i)), (6, one m), (7, one (.int false .i64 k))], h⟩
noncomputable def sc (i k : Int) (h : Heap) : St := ⟨slotsOf 92 [(0, one (.sla 0 0 4 0 4)), (8, one (.int true .i64 i)), (9, one (.int false .i64 k))], h⟩
noncomputable def hE : Heap := [.vals [.c (.sl 1 0 0), .c (.sl 2 0 0), .c (.sl 3 0 0), .c (.sl 4 0 0)], .arr WS [] 0 [], .arr WS [] 0 [], .arr WS [] 0 [], .arr WS [] 0 []]
noncomputable def Ka : List Item := leftT [] (r [.code (cd Tryd.f13)] (s0 hE))
noncomputable def Kb : List Item := leftT [true, false, true] (r Ka (sa 3 0 hE))
noncomputable def Kc : List Item := leftT [false, true, true] (r Kb (sb 3 0 (.sl 5 0 0) (hE ++ [.arr WS [] 0 [4]])))
def fv (i : Int) (k : Nat) : List Int := [IntKind.u64.wrap (iw (iw (100000 * (i + 1)) + (k : Int))), 0, 0, 0]
def fl (i : Int) (n : Nat) : List (List Int) := (List.range n).map (fv i)
def l7 : List Int := [7, 0, 0, 0]
noncomputable def apc (L : Nat) (acc : List (List Int)) : Bool := decide (L = acc.length) && Wp.rm2 (L + 1)
theorem apc_ok {L : Nat} {acc : List (List Int)} (h : L = acc.length) (hl : L + 1 ≤ 1048576) : apc L acc = true := by
  unfold apc; rw [rm2_ok hl, decide_eq_true h]; rfl
theorem fl_len (i : Int) (n : Nat) : (fl i n).length = n := by unfold fl; simp
theorem fl_get {i : Int} {n k : Nat} (h : k < n) : (fl i n).getD k z4 = fv i k := by
  unfold fl
  rw [List.getD_eq_getElem?_getD, List.getElem?_map, List.getElem?_range h]; rfl
theorem fl_succ (i : Int) (k : Nat) : fl i (k + 1) = fl i k ++ [fv i k] := by unfold fl; rw [List.range_succ, List.map_append]; rfl
theorem take_set {α : Type} {v : α} : ∀ {a : List α} {k : Nat}, k < a.length → (a.set k v).take (k + 1) = a.take k ++ [v]
  | x :: a, 0, _ => rfl
  | x :: a, k + 1, h => by
    show x :: (a.set k v).take (k + 1) = x :: (a.take k ++ [v])
    rw [take_set (Nat.lt_of_succ_lt_succ h)]
theorem iwp {k : Nat} (h : k < 1099511627776) : iw (((k + 1 : Nat) : Int) - 1) = (k : Int) := by rw [show (((k + 1 : Nat) : Int) - 1) = (k : Int) from by omega]; exact wrap64 (by omega)
def h0 (a b c d : List (List Int)) (n0 n1 n2 n3 : Nat) : Heap := [.vals [.c (.sl 1 0 n0), .c (.sl 2 0 n1), .c (.sl 3 0 n2), .c (.sl 4 0 n3)], .arr WS a 0 [], .arr WS b 0 [], .arr WS c 0 [], .arr WS d 0 []]
def h1 (a b c d : List (List Int)) (n0 n1 n2 n3 : Nat) : Heap := [.vals [.c (.sl 1 0 n0), .c (.sl 2 0 n1), .c (.sl 3 0 n2), .c (.sl 4 0 n3)], .frz WS a, .arr WS b 0 [], .arr WS c 0 [], .arr WS d 0 []]
def h2 (a b c d : List (List Int)) (n0 n1 n2 n3 : Nat) : Heap := [.vals [.c (.sl 1 0 n0), .c (.sl 2 0 n1), .c (.sl 3 0 n2), .c (.sl 4 0 n3)], .frz WS a, .frz WS b, .arr WS c 0 [], .arr WS d 0 []]
def h3 (a b c d : List (List Int)) (n0 n1 n2 n3 : Nat) : Heap := [.vals [.c (.sl 1 0 n0), .c (.sl 2 0 n1), .c (.sl 3 0 n2), .c (.sl 4 0 n3)], .frz WS a, .frz WS b, .frz WS c, .arr WS d 0 []]
def h4 (a b c d : List (List Int)) (n0 n1 n2 n3 : Nat) : Heap := [.vals [.c (.sl 1 0 n0), .c (.sl 2 0 n1), .c (.sl 3 0 n2), .c (.sl 4 0 n3)], .frz WS a, .frz WS b, .frz WS c, .frz WS d]
theorem S (a b c d : List (List Int)) (n0 n1 n2 n3 : Nat) : pieceT [0, 3, 4] [4] [0, 1, 2, 3, 4] [] (r [.code (cd Tryd.f13)] (s0 (h0 a b c d n0 n1 n2 n3))) = some ([], Ka, sa 0 (0 : Nat) (h0 a b c d n0 n1 n2 n3)) := by kernel_rfl
theorem f0s (a b c d : List (List Int)) (n0 n1 n2 n3 : Nat) (k : Nat) : pieceT [0, 3, 4] [4] [0, 1, 2, 3, 4] [true, true, true, true] (r Ka (sa 0 k (h0 a b c d n0 n1 n2 n3))) = some ([true, decide ((k : Int) < n0), true, decide (0 ≤ (k : Int) ∧ (k : Int) < n0)], Ka, sa 0 (iw ((k : Int) + 1)) (h0 (a.set (0 + (k : Int).toNat) (fv 0 k)) b c d n0 n1 n2 n3)) := by kernel_rfl
theorem f0e (a b c d : List (List Int)) (n0 n1 n2 n3 : Nat) (k : Nat) : pieceT [0, 3, 4] [4] [0, 1, 2, 3, 4] [true, false] (r Ka (sa 0 k (h0 a b c d n0 n1 n2 n3))) = some ([true, decide ((k : Int) < n0)], Ka, sa 1 (0 : Nat) (h0 a b c d n0 n1 n2 n3)) := by kernel_rfl
theorem m0z (a b c d : List (List Int)) (n0 n1 n2 n3 : Nat) (k : Nat) : pieceT [0, 5, 6, 7] [7] [0, 1, 2, 3, 4, 6] [true, true] (r Kb (sb 0 k (.sl 1 0 n0) (h0 a b c d n0 n1 n2 n3))) = some ([decide ((k : Int) < 64), apc n0 a], Kb, sb 0 (iw ((k : Int) + 1)) (.sl 5 0 (n0 + 1)) ((h1 a b c d n0 n1 n2 n3) ++ [.arr WS (a ++ [l7]) n0 [1]])) := by kernel_rfl
theorem m0s (a b c d : List (List Int)) (n0 n1 n2 n3 : Nat) (e : List (List Int)) (q lo k : Nat) : pieceT [0, 5, 6, 7] [7] [0, 1, 2, 3, 4, 7] [true, true] (r Kb (sb 0 k (.sl 5 0 q) ((h1 a b c d n0 n1 n2 n3) ++ [.arr WS e lo [1]]))) = some ([decide ((k : Int) < 64), apc q e], Kb, sb 0 (iw ((k : Int) + 1)) (.sl 5 0 (q + 1)) ((h1 a b c d n0 n1 n2 n3) ++ [.arr WS (e ++ [l7]) q [1]])) := by kernel_rfl
theorem m0e (a b c d : List (List Int)) (n0 n1 n2 n3 : Nat) (e : List (List Int)) (q lo k : Nat) : pieceT [0, 5, 6, 7] [7] [0, 1, 2, 3, 4] [false, true, true, true] (r Kb (sb 0 k (.sl 5 0 q) ((h1 a b c d n0 n1 n2 n3) ++ [.arr WS e lo [1]]))) = some ([decide ((k : Int) < 64), decide (0 ≤ iw ((q : Int) - 1) ∧ iw ((q : Int) - 1) < (q : Int)), decide (lo ≤ 0 + (iw ((q : Int) - 1)).toNat), true], Kb, sb 1 (0 : Nat) (.sl 2 0 n1) (h1 a b c d n0 n1 n2 n3)) := by kernel_rfl
theorem r0s (a b c d : List (List Int)) (n0 n1 n2 n3 : Nat) (k : Nat) : pieceT [0, 8, 9] [9] [0, 1, 2, 3, 4] [true, true, true, true, false] (r Kc (sc 0 k (h4 a b c d n0 n1 n2 n3))) = some ([true, decide ((k : Int) < n0), true, decide (0 ≤ (k : Int) ∧ (k : Int) < n0), !(a.getD (0 + (k : Int).toNat) z4 == fv 0 k && true)], Kc, sc 0 (iw ((k : Int) + 1)) (h4 a b c d n0 n1 n2 n3)) := by kernel_rfl
theorem r0e (a b c d : List (List Int)) (n0 n1 n2 n3 : Nat) (k : Nat) : pieceT [0, 8, 9] [9] [0, 1, 2, 3, 4] [true, false] (r Kc (sc 0 k (h4 a b c d n0 n1 n2 n3))) = some ([true, decide ((k : Int) < n0)], Kc, sc 1 (0 : Nat) (h4 a b c d n0 n1 n2 n3)) := by kernel_rfl
theorem f1s (a b c d : List (List Int)) (n0 n1 n2 n3 : Nat) (k : Nat) : pieceT [0, 3, 4] [4] [0, 1, 2, 3, 4] [true, true, true, true] (r Ka (sa 1 k (h0 a b c d n0 n1 n2 n3))) = some ([true, decide ((k : Int) < n1), true, decide (0 ≤ (k : Int) ∧ (k : Int) < n1)], Ka, sa 1 (iw ((k : Int) + 1)) (h0 a (b.set (0 + (k : Int).toNat) (fv 1 k)) c d n0 n1 n2 n3)) := by kernel_rfl
theorem f1e (a b c d : List (List Int)) (n0 n1 n2 n3 : Nat) (k : Nat) : pieceT [0, 3, 4] [4] [0, 1, 2, 3, 4] [true, false] (r Ka (sa 1 k (h0 a b c d n0 n1 n2 n3))) = some ([true, decide ((k : Int) < n1)], Ka, sa 2 (0 : Nat) (h0 a b c d n0 n1 n2 n3)) := by kernel_rfl
theorem m1z (a b c d : List (List Int)) (n0 n1 n2 n3 : Nat) (k : Nat) : pieceT [0, 5, 6, 7] [7] [0, 1, 2, 3, 4, 6] [true, true] (r Kb (sb 1 k (.sl 2 0 n1) (h1 a b c d n0 n1 n2 n3))) = some ([decide ((k : Int) < 64), apc n1 b], Kb, sb 1 (iw ((k : Int) + 1)) (.sl 5 0 (n1 + 1)) ((h2 a b c d n0 n1 n2 n3) ++ [.arr WS (b ++ [l7]) n1 [2]])) := by kernel_rfl
theorem m1s (a b c d : List (List Int)) (n0 n1 n2 n3 : Nat) (e : List (List Int)) (q lo k : Nat) : pieceT [0, 5, 6, 7] [7] [0, 1, 2, 3, 4, 7] [true, true] (r Kb (sb 1 k (.sl 5 0 q) ((h2 a b c d n0 n1 n2 n3) ++ [.arr WS e lo [2]]))) = some ([decide ((k : Int) < 64), apc q e], Kb, sb 1 (iw ((k : Int) + 1)) (.sl 5 0 (q + 1)) ((h2 a b c d n0 n1 n2 n3) ++ [.arr WS (e ++ [l7]) q [2]])) := by kernel_rfl
theorem m1e (a b c d : List (List Int)) (n0 n1 n2 n3 : Nat) (e : List (List Int)) (q lo k : Nat) : pieceT [0, 5, 6, 7] [7] [0, 1, 2, 3, 4] [false, true, true, true] (r Kb (sb 1 k (.sl 5 0 q) ((h2 a b c d n0 n1 n2 n3) ++ [.arr WS e lo [2]]))) = some ([decide ((k : Int) < 64), decide (0 ≤ iw ((q : Int) - 1) ∧ iw ((q : Int) - 1) < (q : Int)), decide (lo ≤ 0 + (iw ((q : Int) - 1)).toNat), true], Kb, sb 2 (0 : Nat) (.sl 3 0 n2) (h2 a b c d n0 n1 n2 n3)) := by kernel_rfl
theorem r1s (a b c d : List (List Int)) (n0 n1 n2 n3 : Nat) (k : Nat) : pieceT [0, 8, 9] [9] [0, 1, 2, 3, 4] [true, true, true, true, false] (r Kc (sc 1 k (h4 a b c d n0 n1 n2 n3))) = some ([true, decide ((k : Int) < n1), true, decide (0 ≤ (k : Int) ∧ (k : Int) < n1), !(b.getD (0 + (k : Int).toNat) z4 == fv 1 k && true)], Kc, sc 1 (iw ((k : Int) + 1)) (h4 a b c d n0 n1 n2 n3)) := by kernel_rfl
theorem r1e (a b c d : List (List Int)) (n0 n1 n2 n3 : Nat) (k : Nat) : pieceT [0, 8, 9] [9] [0, 1, 2, 3, 4] [true, false] (r Kc (sc 1 k (h4 a b c d n0 n1 n2 n3))) = some ([true, decide ((k : Int) < n1)], Kc, sc 2 (0 : Nat) (h4 a b c d n0 n1 n2 n3)) := by kernel_rfl
theorem f2s (a b c d : List (List Int)) (n0 n1 n2 n3 : Nat) (k : Nat) : pieceT [0, 3, 4] [4] [0, 1, 2, 3, 4] [true, true, true, true] (r Ka (sa 2 k (h0 a b c d n0 n1 n2 n3))) = some ([true, decide ((k : Int) < n2), true, decide (0 ≤ (k : Int) ∧ (k : Int) < n2)], Ka, sa 2 (iw ((k : Int) + 1)) (h0 a b (c.set (0 + (k : Int).toNat) (fv 2 k)) d n0 n1 n2 n3)) := by kernel_rfl
theorem f2e (a b c d : List (List Int)) (n0 n1 n2 n3 : Nat) (k : Nat) : pieceT [0, 3, 4] [4] [0, 1, 2, 3, 4] [true, false] (r Ka (sa 2 k (h0 a b c d n0 n1 n2 n3))) = some ([true, decide ((k : Int) < n2)], Ka, sa 3 (0 : Nat) (h0 a b c d n0 n1 n2 n3)) := by kernel_rfl
theorem m2z (a b c d : List (List Int)) (n0 n1 n2 n3 : Nat) (k : Nat) : pieceT [0, 5, 6, 7] [7] [0, 1, 2, 3, 4, 6] [true, true] (r Kb (sb 2 k (.sl 3 0 n2) (h2 a b c d n0 n1 n2 n3))) = some ([decide ((k : Int) < 64), apc n2 c], Kb, sb 2 (iw ((k : Int) + 1)) (.sl 5 0 (n2 + 1)) ((h3 a b c d n0 n1 n2 n3) ++ [.arr WS (c ++ [l7]) n2 [3]])) := by kernel_rfl
theorem m2s (a b c d : List (List Int)) (n0 n1 n2 n3 : Nat) (e : List (List Int)) (q lo k : Nat) : pieceT [0, 5, 6, 7] [7] [0, 1, 2, 3, 4, 7] [true, true] (r Kb (sb 2 k (.sl 5 0 q) ((h3 a b c d n0 n1 n2 n3) ++ [.arr WS e lo [3]]))) = some ([decide ((k : Int) < 64), apc q e], Kb, sb 2 (iw ((k : Int) + 1)) (.sl 5 0 (q + 1)) ((h3 a b c d n0 n1 n2 n3) ++ [.arr WS (e ++ [l7]) q [3]])) := by kernel_rfl
theorem m2e (a b c d : List (List Int)) (n0 n1 n2 n3 : Nat) (e : List (List Int)) (q lo k : Nat) : pieceT [0, 5, 6, 7] [7] [0, 1, 2, 3, 4] [false, true, true, true] (r Kb (sb 2 k (.sl 5 0 q) ((h3 a b c d n0 n1 n2 n3) ++ [.arr WS e lo [3]]))) = some ([decide ((k : Int) < 64), decide (0 ≤ iw ((q : Int) - 1) ∧ iw ((q : Int) - 1) < (q : Int)), decide (lo ≤ 0 + (iw ((q : Int) - 1)).toNat), true], Kb, sb 3 (0 : Nat) (.sl 4 0 n3) (h3 a b c d n0 n1 n2 n3)) := by kernel_rfl
theorem r2s (a b c d : List (List Int)) (n0 n1 n2 n3 : Nat) (k : Nat) : pieceT [0, 8, 9] [9] [0, 1, 2, 3, 4] [true, true, true, true, false] (r Kc (sc 2 k (h4 a b c d n0 n1 n2 n3))) = some ([true, decide ((k : Int) < n2), true, decide (0 ≤ (k : Int) ∧ (k : Int) < n2), !(c.getD (0 + (k : Int).toNat) z4 == fv 2 k && true)], Kc, sc 2 (iw ((k : Int) + 1)) (h4 a b c d n0 n1 n2 n3)) := by kernel_rfl
theorem r2e (a b c d : List (List Int)) (n0 n1 n2 n3 : Nat) (k : Nat) : pieceT [0, 8, 9] [9] [0, 1, 2, 3, 4] [true, false] (r Kc (sc 2 k (h4 a b c d n0 n1 n2 n3))) = some ([true, decide ((k : Int) < n2)], Kc, sc 3 (0 : Nat) (h4 a b c d n0 n1 n2 n3)) := by kernel_rfl
theorem f3s (a b c d : List (List Int)) (n0 n1 n2 n3 : Nat) (k : Nat) : pieceT [0, 3, 4] [4] [0, 1, 2, 3, 4] [true, true, true, true] (r Ka (sa 3 k (h0 a b c d n0 n1 n2 n3))) = some ([true, decide ((k : Int) < n3), true, decide (0 ≤ (k : Int) ∧ (k : Int) < n3)], Ka, sa 3 (iw ((k : Int) + 1)) (h0 a b c (d.set (0 + (k : Int).toNat) (fv 3 k)) n0 n1 n2 n3)) := by kernel_rfl
theorem f3e (a b c d : List (List Int)) (n0 n1 n2 n3 : Nat) (k : Nat) : pieceT [0, 5, 6, 7] [7] [0, 1, 2, 3, 4] [true, false, true] (r Ka (sa 3 k (h0 a b c d n0 n1 n2 n3))) = some ([true, decide ((k : Int) < n3), true], Kb, sb 0 (0 : Nat) (.sl 1 0 n0) (h0 a b c d n0 n1 n2 n3)) := by kernel_rfl
theorem m3z (a b c d : List (List Int)) (n0 n1 n2 n3 : Nat) (k : Nat) : pieceT [0, 5, 6, 7] [7] [0, 1, 2, 3, 4, 6] [true, true] (r Kb (sb 3 k (.sl 4 0 n3) (h3 a b c d n0 n1 n2 n3))) = some ([decide ((k : Int) < 64), apc n3 d], Kb, sb 3 (iw ((k : Int) + 1)) (.sl 5 0 (n3 + 1)) ((h4 a b c d n0 n1 n2 n3) ++ [.arr WS (d ++ [l7]) n3 [4]])) := by kernel_rfl
theorem m3s (a b c d : List (List Int)) (n0 n1 n2 n3 : Nat) (e : List (List Int)) (q lo k : Nat) : pieceT [0, 5, 6, 7] [7] [0, 1, 2, 3, 4, 7] [true, true] (r Kb (sb 3 k (.sl 5 0 q) ((h4 a b c d n0 n1 n2 n3) ++ [.arr WS e lo [4]]))) = some ([decide ((k : Int) < 64), apc q e], Kb, sb 3 (iw ((k : Int) + 1)) (.sl 5 0 (q + 1)) ((h4 a b c d n0 n1 n2 n3) ++ [.arr WS (e ++ [l7]) q [4]])) := by kernel_rfl
theorem m3e (a b c d : List (List Int)) (n0 n1 n2 n3 : Nat) (e : List (List Int)) (q lo k : Nat) : pieceT [0, 8, 9] [9] [0, 1, 2, 3, 4] [false, true, true] (r Kb (sb 3 k (.sl 5 0 q) ((h4 a b c d n0 n1 n2 n3) ++ [.arr WS e lo [4]]))) = some ([decide ((k : Int) < 64), decide (0 ≤ iw ((q : Int) - 1) ∧ iw ((q : Int) - 1) < (q : Int)), decide (lo ≤ 0 + (iw ((q : Int) - 1)).toNat)], Kc, sc 0 (0 : Nat) (h4 a b c d n0 n1 n2 n3)) := by kernel_rfl
theorem r3s (a b c d : List (List Int)) (n0 n1 n2 n3 : Nat) (k : Nat) : pieceT [0, 8, 9] [9] [0, 1, 2, 3, 4] [true, true, true, true, false] (r Kc (sc 3 k (h4 a b c d n0 n1 n2 n3))) = some ([true, decide ((k : Int) < n3), true, decide (0 ≤ (k : Int) ∧ (k : Int) < n3), !(d.getD (0 + (k : Int).toNat) z4 == fv 3 k && true)], Kc, sc 3 (iw ((k : Int) + 1)) (h4 a b c d n0 n1 n2 n3)) := by kernel_rfl
theorem r3e (a b c d : List (List Int)) (n0 n1 n2 n3 : Nat) (k : Nat) : endT Tryd.prog Tryd.f13 [0, 1, 2, 3, 4] [true, false] (r Kc (sc 3 k (h4 a b c d n0 n1 n2 n3))) = some ([true, decide ((k : Int) < n3)], .one (.c (.bool true true)), (h4 a b c d n0 n1 n2 n3)) := by kernel_rfl
theorem R3 {n0 n1 n2 n3 : Nat} (z0 : n0 ≤ 1048500) (z1 : n1 ≤ 1048500) (z2 : n2 ≤ 1048500) (z3 : n3 ≤ 1048500) : Runs Tryd.prog P5 Tryd.f13 5 Kc (sc 3 (0 : Nat) (h4 (fl 0 n0) (fl 1 n1) (fl 2 n2) (fl 3 n3) n0 n1 n2 n3)) (.one (.c (.bool true true))) (h4 (fl 0 n0) (fl 1 n1) (fl 2 n2) (fl 3 n3) n0 n1 n2 n3) := by
  refine loopG (st := fun k (_ : Unit) => sc 3 k (h4 (fl 0 n0) (fl 1 n1) (fl 2 n2) (fl 3 n3) n0 n1 n2 n3)) (I := fun _ _ => True) (n := n3) (fun k a hk _ => ⟨(), trivial, fun hr => ?_⟩) (fun _ _ => ?_) n3 0 () (by omega) trivial
  · have hp := r3s (fl 0 n0) (fl 1 n1) (fl 2 n2) (fl 3 n3) n0 n1 n2 n3 k
    rw [iwk (by omega), decide_eq_true (by omega), decide_eq_true (by omega), Nat.zero_add, Int.toNat_natCast, fl_get hk, beq_self_eq_true] at hp
    exact Runs.piece okP5 mx hp rfl (by rfl) hr
  · exact Runs.last okP5 mx (r3e (fl 0 n0) (fl 1 n1) (fl 2 n2) (fl 3 n3) n0 n1 n2 n3 n3) (by rw [decide_eq_false (by omega)]) (by rfl)
theorem R2 {n0 n1 n2 n3 : Nat} (z0 : n0 ≤ 1048500) (z1 : n1 ≤ 1048500) (z2 : n2 ≤ 1048500) (z3 : n3 ≤ 1048500) : Runs Tryd.prog P5 Tryd.f13 5 Kc (sc 2 (0 : Nat) (h4 (fl 0 n0) (fl 1 n1) (fl 2 n2) (fl 3 n3) n0 n1 n2 n3)) (.one (.c (.bool true true))) (h4 (fl 0 n0) (fl 1 n1) (fl 2 n2) (fl 3 n3) n0 n1 n2 n3) := by
  refine loopG (st := fun k (_ : Unit) => sc 2 k (h4 (fl 0 n0) (fl 1 n1) (fl 2 n2) (fl 3 n3) n0 n1 n2 n3)) (I := fun _ _ => True) (n := n2) (fun k a hk _ => ⟨(), trivial, fun hr => ?_⟩) (fun _ _ => ?_) n2 0 () (by omega) trivial
  · have hp := r2s (fl 0 n0) (fl 1 n1) (fl 2 n2) (fl 3 n3) n0 n1 n2 n3 k
    rw [iwk (by omega), decide_eq_true (by omega), decide_eq_true (by omega), Nat.zero_add, Int.toNat_natCast, fl_get hk, beq_self_eq_true] at hp
    exact Runs.piece okP5 mx hp rfl (by rfl) hr
  · exact Runs.piece okP5 mx (r2e (fl 0 n0) (fl 1 n1) (fl 2 n2) (fl 3 n3) n0 n1 n2 n3 n2) (by rw [decide_eq_false (by omega)]) (by rfl) (R3 z0 z1 z2 z3)
theorem R1 {n0 n1 n2 n3 : Nat} (z0 : n0 ≤ 1048500) (z1 : n1 ≤ 1048500) (z2 : n2 ≤ 1048500) (z3 : n3 ≤ 1048500) : Runs Tryd.prog P5 Tryd.f13 5 Kc (sc 1 (0 : Nat) (h4 (fl 0 n0) (fl 1 n1) (fl 2 n2) (fl 3 n3) n0 n1 n2 n3)) (.one (.c (.bool true true))) (h4 (fl 0 n0) (fl 1 n1) (fl 2 n2) (fl 3 n3) n0 n1 n2 n3) := by
  refine loopG (st := fun k (_ : Unit) => sc 1 k (h4 (fl 0 n0) (fl 1 n1) (fl 2 n2) (fl 3 n3) n0 n1 n2 n3)) (I := fun _ _ => True) (n := n1) (fun k a hk _ => ⟨(), trivial, fun hr => ?_⟩) (fun _ _ => ?_) n1 0 () (by omega) trivial
  · have hp := r1s (fl 0 n0) (fl 1 n1) (fl 2 n2) (fl 3 n3) n0 n1 n2 n3 k
    rw [iwk (by omega), decide_eq_true (by omega), decide_eq_true (by omega), Nat.zero_add, Int.toNat_natCast, fl_get hk, beq_self_eq_true] at hp
    exact Runs.piece okP5 mx hp rfl (by rfl) hr
  · exact Runs.piece okP5 mx (r1e (fl 0 n0) (fl 1 n1) (fl 2 n2) (fl 3 n3) n0 n1 n2 n3 n1) (by rw [decide_eq_false (by omega)]) (by rfl) (R2 z0 z1 z2 z3)
theorem R0 {n0 n1 n2 n3 : Nat} (z0 : n0 ≤ 1048500) (z1 : n1 ≤ 1048500) (z2 : n2 ≤ 1048500) (z3 : n3 ≤ 1048500) : Runs Tryd.prog P5 Tryd.f13 5 Kc (sc 0 (0 : Nat) (h4 (fl 0 n0) (fl 1 n1) (fl 2 n2) (fl 3 n3) n0 n1 n2 n3)) (.one (.c (.bool true true))) (h4 (fl 0 n0) (fl 1 n1) (fl 2 n2) (fl 3 n3) n0 n1 n2 n3) := by
  refine loopG (st := fun k (_ : Unit) => sc 0 k (h4 (fl 0 n0) (fl 1 n1) (fl 2 n2) (fl 3 n3) n0 n1 n2 n3)) (I := fun _ _ => True) (n := n0) (fun k a hk _ => ⟨(), trivial, fun hr => ?_⟩) (fun _ _ => ?_) n0 0 () (by omega) trivial
  · have hp := r0s (fl 0 n0) (fl 1 n1) (fl 2 n2) (fl 3 n3) n0 n1 n2 n3 k
    rw [iwk (by omega), decide_eq_true (by omega), decide_eq_true (by omega), Nat.zero_add, Int.toNat_natCast, fl_get hk, beq_self_eq_true] at hp
    exact Runs.piece okP5 mx hp rfl (by rfl) hr
  · exact Runs.piece okP5 mx (r0e (fl 0 n0) (fl 1 n1) (fl 2 n2) (fl 3 n3) n0 n1 n2 n3 n0) (by rw [decide_eq_false (by omega)]) (by rfl) (R1 z0 z1 z2 z3)
theorem M3 {n0 n1 n2 n3 : Nat} (z0 : n0 ≤ 1048500) (z1 : n1 ≤ 1048500) (z2 : n2 ≤ 1048500) (z3 : n3 ≤ 1048500) : Runs Tryd.prog P5 Tryd.f13 5 Kb (sb 3 (0 : Nat) (.sl 4 0 n3) (h3 (fl 0 n0) (fl 1 n1) (fl 2 n2) (fl 3 n3) n0 n1 n2 n3)) (.one (.c (.bool true true))) (h4 (fl 0 n0) (fl 1 n1) (fl 2 n2) (fl 3 n3) n0 n1 n2 n3) := by
  have hz := m3z (fl 0 n0) (fl 1 n1) (fl 2 n2) (fl 3 n3) n0 n1 n2 n3 0
  rw [iwk (by omega), decide_eq_true (by omega), apc_ok (fl_len _ _).symm (by omega)] at hz
  refine Runs.piece okP5 mx hz rfl (by rfl) ?_
  refine loopG (st := fun k (p : List (List Int) × Nat) => sb 3 k (.sl 5 0 (n3 + k)) ((h4 (fl 0 n0) (fl 1 n1) (fl 2 n2) (fl 3 n3) n0 n1 n2 n3) ++ [.arr WS p.1 p.2 [4]])) (I := fun k p => p.1.length = n3 + k ∧ p.2 + 1 = n3 + k) (n := 64) (fun k p hk hI => ⟨(p.1 ++ [l7], n3 + k), ⟨by rw [List.length_append, hI.1]; rfl, rfl⟩, fun hr => ?_⟩) (fun p hI => ?_) 63 1 ((fl 3 n3) ++ [l7], n3) (by omega) ⟨by rw [List.length_append, fl_len]; rfl, rfl⟩
  · have hp := m3s (fl 0 n0) (fl 1 n1) (fl 2 n2) (fl 3 n3) n0 n1 n2 n3 p.1 (n3 + k) p.2 k
    rw [iwk (by omega), decide_eq_true (by omega), apc_ok hI.1.symm (by omega)] at hp
    exact Runs.piece okP5 mx hp rfl (by rfl) hr
  · have hp := m3e (fl 0 n0) (fl 1 n1) (fl 2 n2) (fl 3 n3) n0 n1 n2 n3 p.1 (n3 + 64) p.2 64
    rw [show n3 + 64 = (n3 + 63) + 1 from rfl, iwp (by omega), decide_eq_false (by omega), decide_eq_true (by omega), decide_eq_true (by have := hI.2; omega)] at hp
    exact Runs.piece okP5 mx hp rfl (by rfl) (R0 z0 z1 z2 z3)
theorem M2 {n0 n1 n2 n3 : Nat} (z0 : n0 ≤ 1048500) (z1 : n1 ≤ 1048500) (z2 : n2 ≤ 1048500) (z3 : n3 ≤ 1048500) : Runs Tryd.prog P5 Tryd.f13 5 Kb (sb 2 (0 : Nat) (.sl 3 0 n2) (h2 (fl 0 n0) (fl 1 n1) (fl 2 n2) (fl 3 n3) n0 n1 n2 n3)) (.one (.c (.bool true true))) (h4 (fl 0 n0) (fl 1 n1) (fl 2 n2) (fl 3 n3) n0 n1 n2 n3) := by
  have hz := m2z (fl 0 n0) (fl 1 n1) (fl 2 n2) (fl 3 n3) n0 n1 n2 n3 0
  rw [iwk (by omega), decide_eq_true (by omega), apc_ok (fl_len _ _).symm (by omega)] at hz
  refine Runs.piece okP5 mx hz rfl (by rfl) ?_
  refine loopG (st := fun k (p : List (List Int) × Nat) => sb 2 k (.sl 5 0 (n2 + k)) ((h3 (fl 0 n0) (fl 1 n1) (fl 2 n2) (fl 3 n3) n0 n1 n2 n3) ++ [.arr WS p.1 p.2 [3]])) (I := fun k p => p.1.length = n2 + k ∧ p.2 + 1 = n2 + k) (n := 64) (fun k p hk hI => ⟨(p.1 ++ [l7], n2 + k), ⟨by rw [List.length_append, hI.1]; rfl, rfl⟩, fun hr => ?_⟩) (fun p hI => ?_) 63 1 ((fl 2 n2) ++ [l7], n2) (by omega) ⟨by rw [List.length_append, fl_len]; rfl, rfl⟩
  · have hp := m2s (fl 0 n0) (fl 1 n1) (fl 2 n2) (fl 3 n3) n0 n1 n2 n3 p.1 (n2 + k) p.2 k
    rw [iwk (by omega), decide_eq_true (by omega), apc_ok hI.1.symm (by omega)] at hp
    exact Runs.piece okP5 mx hp rfl (by rfl) hr
  · have hp := m2e (fl 0 n0) (fl 1 n1) (fl 2 n2) (fl 3 n3) n0 n1 n2 n3 p.1 (n2 + 64) p.2 64
    rw [show n2 + 64 = (n2 + 63) + 1 from rfl, iwp (by omega), decide_eq_false (by omega), decide_eq_true (by omega), decide_eq_true (by have := hI.2; omega)] at hp
    exact Runs.piece okP5 mx hp rfl (by rfl) (M3 z0 z1 z2 z3)
theorem M1 {n0 n1 n2 n3 : Nat} (z0 : n0 ≤ 1048500) (z1 : n1 ≤ 1048500) (z2 : n2 ≤ 1048500) (z3 : n3 ≤ 1048500) : Runs Tryd.prog P5 Tryd.f13 5 Kb (sb 1 (0 : Nat) (.sl 2 0 n1) (h1 (fl 0 n0) (fl 1 n1) (fl 2 n2) (fl 3 n3) n0 n1 n2 n3)) (.one (.c (.bool true true))) (h4 (fl 0 n0) (fl 1 n1) (fl 2 n2) (fl 3 n3) n0 n1 n2 n3) := by
  have hz := m1z (fl 0 n0) (fl 1 n1) (fl 2 n2) (fl 3 n3) n0 n1 n2 n3 0
  rw [iwk (by omega), decide_eq_true (by omega), apc_ok (fl_len _ _).symm (by omega)] at hz
  refine Runs.piece okP5 mx hz rfl (by rfl) ?_
  refine loopG (st := fun k (p : List (List Int) × Nat) => sb 1 k (.sl 5 0 (n1 + k)) ((h2 (fl 0 n0) (fl 1 n1) (fl 2 n2) (fl 3 n3) n0 n1 n2 n3) ++ [.arr WS p.1 p.2 [2]])) (I := fun k p => p.1.length = n1 + k ∧ p.2 + 1 = n1 + k) (n := 64) (fun k p hk hI => ⟨(p.1 ++ [l7], n1 + k), ⟨by rw [List.length_append, hI.1]; rfl, rfl⟩, fun hr => ?_⟩) (fun p hI => ?_) 63 1 ((fl 1 n1) ++ [l7], n1) (by omega) ⟨by rw [List.length_append, fl_len]; rfl, rfl⟩
  · have hp := m1s (fl 0 n0) (fl 1 n1) (fl 2 n2) (fl 3 n3) n0 n1 n2 n3 p.1 (n1 + k) p.2 k
    rw [iwk (by omega), decide_eq_true (by omega), apc_ok hI.1.symm (by omega)] at hp
    exact Runs.piece okP5 mx hp rfl (by rfl) hr
  · have hp := m1e (fl 0 n0) (fl 1 n1) (fl 2 n2) (fl 3 n3) n0 n1 n2 n3 p.1 (n1 + 64) p.2 64
    rw [show n1 + 64 = (n1 + 63) + 1 from rfl, iwp (by omega), decide_eq_false (by omega), decide_eq_true (by omega), decide_eq_true (by have := hI.2; omega)] at hp
    exact Runs.piece okP5 mx hp rfl (by rfl) (M2 z0 z1 z2 z3)
theorem M0 {n0 n1 n2 n3 : Nat} (z0 : n0 ≤ 1048500) (z1 : n1 ≤ 1048500) (z2 : n2 ≤ 1048500) (z3 : n3 ≤ 1048500) : Runs Tryd.prog P5 Tryd.f13 5 Kb (sb 0 (0 : Nat) (.sl 1 0 n0) (h0 (fl 0 n0) (fl 1 n1) (fl 2 n2) (fl 3 n3) n0 n1 n2 n3)) (.one (.c (.bool true true))) (h4 (fl 0 n0) (fl 1 n1) (fl 2 n2) (fl 3 n3) n0 n1 n2 n3) := by
  have hz := m0z (fl 0 n0) (fl 1 n1) (fl 2 n2) (fl 3 n3) n0 n1 n2 n3 0
  rw [iwk (by omega), decide_eq_true (by omega), apc_ok (fl_len _ _).symm (by omega)] at hz
  refine Runs.piece okP5 mx hz rfl (by rfl) ?_
  refine loopG (st := fun k (p : List (List Int) × Nat) => sb 0 k (.sl 5 0 (n0 + k)) ((h1 (fl 0 n0) (fl 1 n1) (fl 2 n2) (fl 3 n3) n0 n1 n2 n3) ++ [.arr WS p.1 p.2 [1]])) (I := fun k p => p.1.length = n0 + k ∧ p.2 + 1 = n0 + k) (n := 64) (fun k p hk hI => ⟨(p.1 ++ [l7], n0 + k), ⟨by rw [List.length_append, hI.1]; rfl, rfl⟩, fun hr => ?_⟩) (fun p hI => ?_) 63 1 ((fl 0 n0) ++ [l7], n0) (by omega) ⟨by rw [List.length_append, fl_len]; rfl, rfl⟩
  · have hp := m0s (fl 0 n0) (fl 1 n1) (fl 2 n2) (fl 3 n3) n0 n1 n2 n3 p.1 (n0 + k) p.2 k
    rw [iwk (by omega), decide_eq_true (by omega), apc_ok hI.1.symm (by omega)] at hp
    exact Runs.piece okP5 mx hp rfl (by rfl) hr
  · have hp := m0e (fl 0 n0) (fl 1 n1) (fl 2 n2) (fl 3 n3) n0 n1 n2 n3 p.1 (n0 + 64) p.2 64
    rw [show n0 + 64 = (n0 + 63) + 1 from rfl, iwp (by omega), decide_eq_false (by omega), decide_eq_true (by omega), decide_eq_true (by have := hI.2; omega)] at hp
    exact Runs.piece okP5 mx hp rfl (by rfl) (M1 z0 z1 z2 z3)
theorem Fl3 {n0 n1 n2 n3 : Nat} (z0 : n0 ≤ 1048500) (z1 : n1 ≤ 1048500) (z2 : n2 ≤ 1048500) (z3 : n3 ≤ 1048500) {d : List (List Int)} (e3 : d.length = n3) : Runs Tryd.prog P5 Tryd.f13 5 Ka (sa 3 (0 : Nat) (h0 (fl 0 n0) (fl 1 n1) (fl 2 n2) d n0 n1 n2 n3)) (.one (.c (.bool true true))) (h4 (fl 0 n0) (fl 1 n1) (fl 2 n2) (fl 3 n3) n0 n1 n2 n3) := by
  refine loopG (st := fun k (x : List (List Int)) => sa 3 k (h0 (fl 0 n0) (fl 1 n1) (fl 2 n2) x n0 n1 n2 n3)) (I := fun k x => x.length = n3 ∧ x.take k = fl 3 k) (n := n3) (fun k x hk hI => ⟨x.set k (fv 3 k), ⟨by rw [List.length_set, hI.1], by rw [take_set (by rw [hI.1]; exact hk), hI.2, fl_succ]⟩, fun hr => ?_⟩) (fun x hI => ?_) n3 0 d (by omega) ⟨e3, rfl⟩
  · have hp := f3s (fl 0 n0) (fl 1 n1) (fl 2 n2) x n0 n1 n2 n3 k
    rw [iwk (by omega), decide_eq_true (by omega), decide_eq_true (by omega), Nat.zero_add, Int.toNat_natCast] at hp
    exact Runs.piece okP5 mx hp rfl (by rfl) hr
  · obtain rfl : x = (fl 3 n3) := by rw [← hI.2, ← hI.1, List.take_length]
    exact Runs.piece okP5 mx (f3e (fl 0 n0) (fl 1 n1) (fl 2 n2) (fl 3 n3) n0 n1 n2 n3 n3) (by rw [decide_eq_false (by omega)]) (by rfl) (M0 z0 z1 z2 z3)
theorem Fl2 {n0 n1 n2 n3 : Nat} (z0 : n0 ≤ 1048500) (z1 : n1 ≤ 1048500) (z2 : n2 ≤ 1048500) (z3 : n3 ≤ 1048500) {c d : List (List Int)} (e2 : c.length = n2) (e3 : d.length = n3) : Runs Tryd.prog P5 Tryd.f13 5 Ka (sa 2 (0 : Nat) (h0 (fl 0 n0) (fl 1 n1) c d n0 n1 n2 n3)) (.one (.c (.bool true true))) (h4 (fl 0 n0) (fl 1 n1) (fl 2 n2) (fl 3 n3) n0 n1 n2 n3) := by
  refine loopG (st := fun k (x : List (List Int)) => sa 2 k (h0 (fl 0 n0) (fl 1 n1) x d n0 n1 n2 n3)) (I := fun k x => x.length = n2 ∧ x.take k = fl 2 k) (n := n2) (fun k x hk hI => ⟨x.set k (fv 2 k), ⟨by rw [List.length_set, hI.1], by rw [take_set (by rw [hI.1]; exact hk), hI.2, fl_succ]⟩, fun hr => ?_⟩) (fun x hI => ?_) n2 0 c (by omega) ⟨e2, rfl⟩
  · have hp := f2s (fl 0 n0) (fl 1 n1) x d n0 n1 n2 n3 k
    rw [iwk (by omega), decide_eq_true (by omega), decide_eq_true (by omega), Nat.zero_add, Int.toNat_natCast] at hp
    exact Runs.piece okP5 mx hp rfl (by rfl) hr
  · obtain rfl : x = (fl 2 n2) := by rw [← hI.2, ← hI.1, List.take_length]
    exact Runs.piece okP5 mx (f2e (fl 0 n0) (fl 1 n1) (fl 2 n2) d n0 n1 n2 n3 n2) (by rw [decide_eq_false (by omega)]) (by rfl) (Fl3 z0 z1 z2 z3 e3)
theorem Fl1 {n0 n1 n2 n3 : Nat} (z0 : n0 ≤ 1048500) (z1 : n1 ≤ 1048500) (z2 : n2 ≤ 1048500) (z3 : n3 ≤ 1048500) {b c d : List (List Int)} (e1 : b.length = n1) (e2 : c.length = n2) (e3 : d.length = n3) : Runs Tryd.prog P5 Tryd.f13 5 Ka (sa 1 (0 : Nat) (h0 (fl 0 n0) b c d n0 n1 n2 n3)) (.one (.c (.bool true true))) (h4 (fl 0 n0) (fl 1 n1) (fl 2 n2) (fl 3 n3) n0 n1 n2 n3) := by
  refine loopG (st := fun k (x : List (List Int)) => sa 1 k (h0 (fl 0 n0) x c d n0 n1 n2 n3)) (I := fun k x => x.length = n1 ∧ x.take k = fl 1 k) (n := n1) (fun k x hk hI => ⟨x.set k (fv 1 k), ⟨by rw [List.length_set, hI.1], by rw [take_set (by rw [hI.1]; exact hk), hI.2, fl_succ]⟩, fun hr => ?_⟩) (fun x hI => ?_) n1 0 b (by omega) ⟨e1, rfl⟩
  · have hp := f1s (fl 0 n0) x c d n0 n1 n2 n3 k
    rw [iwk (by omega), decide_eq_true (by omega), decide_eq_true (by omega), Nat.zero_add, Int.toNat_natCast] at hp
    exact Runs.piece okP5 mx hp rfl (by rfl) hr
  · obtain rfl : x = (fl 1 n1) := by rw [← hI.2, ← hI.1, List.take_length]
    exact Runs.piece okP5 mx (f1e (fl 0 n0) (fl 1 n1) c d n0 n1 n2 n3 n1) (by rw [decide_eq_false (by omega)]) (by rfl) (Fl2 z0 z1 z2 z3 e2 e3)
theorem Fl0 {n0 n1 n2 n3 : Nat} (z0 : n0 ≤ 1048500) (z1 : n1 ≤ 1048500) (z2 : n2 ≤ 1048500) (z3 : n3 ≤ 1048500) {a b c d : List (List Int)} (e0 : a.length = n0) (e1 : b.length = n1) (e2 : c.length = n2) (e3 : d.length = n3) : Runs Tryd.prog P5 Tryd.f13 5 Ka (sa 0 (0 : Nat) (h0 a b c d n0 n1 n2 n3)) (.one (.c (.bool true true))) (h4 (fl 0 n0) (fl 1 n1) (fl 2 n2) (fl 3 n3) n0 n1 n2 n3) := by
  refine loopG (st := fun k (x : List (List Int)) => sa 0 k (h0 x b c d n0 n1 n2 n3)) (I := fun k x => x.length = n0 ∧ x.take k = fl 0 k) (n := n0) (fun k x hk hI => ⟨x.set k (fv 0 k), ⟨by rw [List.length_set, hI.1], by rw [take_set (by rw [hI.1]; exact hk), hI.2, fl_succ]⟩, fun hr => ?_⟩) (fun x hI => ?_) n0 0 a (by omega) ⟨e0, rfl⟩
  · have hp := f0s x b c d n0 n1 n2 n3 k
    rw [iwk (by omega), decide_eq_true (by omega), decide_eq_true (by omega), Nat.zero_add, Int.toNat_natCast] at hp
    exact Runs.piece okP5 mx hp rfl (by rfl) hr
  · obtain rfl : x = (fl 0 n0) := by rw [← hI.2, ← hI.1, List.take_length]
    exact Runs.piece okP5 mx (f0e (fl 0 n0) b c d n0 n1 n2 n3 n0) (by rw [decide_eq_false (by omega)]) (by rfl) (Fl1 z0 z1 z2 z3 e1 e2 e3)
end Ap
def Tapart14 (vs : List V1) (hl : Heap) : Tree (SV × Heap) :=
  match vs, hl with
  | [.c (.sla 0 0 4 0 4)], [.vals [.c (.sl 1 0 n0), .c (.sl 2 0 n1), .c (.sl 3 0 n2), .c (.sl 4 0 n3)], .arr (.ws .u64 4) a 0 [], .arr (.ws .u64 4) b 0 [], .arr (.ws .u64 4) c 0 [], .arr (.ws .u64 4) d 0 []] =>
    Tree.chk (decide ((List.length a = n0 ∧ List.length b = n1 ∧ List.length c = n2 ∧ List.length d = n3) ∧ n0 ≤ 1048500 ∧ n1 ≤ 1048500 ∧ n2 ≤ 1048500 ∧ n3 ≤ 1048500))
      (.ret (.one (.c (.bool true true)), Ap.h4 (Ap.fl 0 n0) (Ap.fl 1 n1) (Ap.fl 2 n2) (Ap.fl 3 n3) n0 n1 n2 n3))
  | _, _ => .fail
theorem ok_apart14 : EntryOk Tryd.prog G0 13 Tapart14 := by
  refine EntryOk.of_runs (S := P5) (fn := Tryd.f13) (c := cd Tryd.f13) (by kernel_rfl) (by kernel_rfl) (by kernel_rfl) (fun vs hl r hl' h => ?_)
  unfold Tapart14 at h
  split at h
  · obtain ⟨h1, h2⟩ := val_chk h
    obtain ⟨⟨e0, e1, e2, e3⟩, z0, z1, z2, z3⟩ := of_decide_eq_true h1
    obtain ⟨rfl, rfl⟩ := Prod.mk.inj (Option.some.inj h2)
    exact Runs.piece okP5 mx (Ap.S _ _ _ _ _ _ _ _) rfl (by rfl) (Ap.Fl0 z0 z1 z2 z3 e0 e1 e2 e3)
  · cases h
noncomputable def P6 : Tab := P5.put 13 0 Tapart14
theorem okP6 : SpecOk Tryd.prog P6 := okP5.put ok_apart14
end Go.Sc

namespace Go.Sc
open Go Go.SX Go.Proofs

abbrev TPr : DTy := .pair WS (.pair WS (.pair WS (.pair WS (.pair .ref (.pair .ref .unit)))))
abbrev TR : Type := List Int × (List Int × (List Int × (List Int × (RefD × (RefD × Unit)))))
noncomputable def P7 : Tab := (P6.own [152]).refs [34, 35, 42, 43]
theorem okP7 : SpecOk Tryd.prog P7 := okP6.own.refs
namespace L14
noncomputable def r (k : List Item) (s : St) : Tree Out := runK P7 Tryd.prog noLoops 400 k s
noncomputable def s0 (b c : Int) (ts : List TD) (n : Nat) : St := ⟨enterT Tryd.f3 [pr b c, .c (.ro TP ts n)], []⟩
noncomputable def K1 : List Item := leftT [] (r [.code (cd Tryd.f3)] (s0 0 0 [] 0))
def pB (b c : Int) : Blk := .vals [.c (.int false .i64 b), .c (.int false .i64 c)]
noncomputable def st0 (b c : Int) (ts : List TD) (n : Nat) (i : Int) : St := ⟨slotsOf 252 [(1, one (.ro TP ts n)), (2, pt 0), (5, one .nils), (6, one .nils), (7, one (.int false .i64 i))], [pB b c]⟩
noncomputable def st1 (b c : Int) (ts : List TD) (n : Nat) (os rs : List TR) (i : Int) (m : Nat) : St := ⟨slotsOf 252 [(1, one (.ro TP ts n)), (2, pt 0), (5, one (.sl 1 0 m)), (6, one (.sl 2 0 m)), (7, one (.int false .i64 i))], [pB b c, .arr TPr os 0 [], .arr TPr rs 0 []]⟩
theorem a (b c : Int) (ts : List TD) (n : Nat) : pieceT [1, 2, 5, 6, 7] [7] [0] [] (r [.code (cd Tryd.f3)] (s0 b c ts n)) = some ([], K1, st0 b c ts n (0 : Nat)) := by kernel_rfl
def y (ts : List TD) (i : Nat) : TD := ts.getD i dfT
def oE (t : TD) (l r : RefD) : TR := (t.1, t.2.1, t.2.2.1, t.2.2.2.1, l, r, ())
def rE (t : TD) (l r : RefD) : TR := (lim t.1, lim t.2.1, lim t.2.2.1, lim t.2.2.2.1, l, r, ())
def tw (l : List (List Int) × Nat) (mk : List Int) : List (List Int) := l.1.take l.2 ++ [mk]
def rm6 (m : Nat) : Bool := SX.room (m + 1) 176 && SX.room (m + 1) 1
def okL (t : TD) : Bool := decide (t.2.2.2.2.1.2 ≤ 1048575 ∧ t.2.2.2.2.2.1.2 ≤ 1048575 ∧ t.2.2.2.2.1.2 ≤ t.2.2.2.2.1.1.length ∧ t.2.2.2.2.2.1.2 ≤ t.2.2.2.2.2.1.1.length)
def okL2 (t : TD) : Bool := decide (t.2.2.2.2.1.2 ≤ 1048576 ∧ t.2.2.2.2.2.1.2 ≤ 1048576)
theorem b (b c : Int) (ts : List TD) (n : Nat) (os rs : List TR) (i m : Nat) : rawT 252 [1, 2, 5, 6, 7] [0, 3, 4, 6, 7, 8, 10] [true, true, true, true, true, true, true] (r K1 (st1 b c ts n os rs i m)) =
    some ([decide ((i : Int) < n), decide (0 ≤ (i : Int) ∧ (i : Int) < n), okL (y ts i), decide (m = os.length) && rm6 m, decide (0 ≤ (i : Int) ∧ (i : Int) < n), okL2 (y ts i), decide (m = rs.length) && rm6 m], K1,
      [one (.ro TP ts n), pt 0, one (.sl 6 0 (m + 1)), one (.sl 10 0 (m + 1)), one (.int false .i64 (iw ((i : Int) + 1)))],
      [pB b c, .arr WS (tw (y ts i).2.2.2.2.1 m77) 0 [], .arr WS (tw (y ts i).2.2.2.2.2.1 m78) 0 [],
        .arr TPr (os ++ [oE (y ts i) (.own 3 0 (y ts i).2.2.2.2.1.2) (.own 4 0 (y ts i).2.2.2.2.2.1.2)]) m [1],
        .arr WS (((y ts i).2.2.2.2.1.1.take (y ts i).2.2.2.2.1.2).map lim) 0 [], .arr WS (((y ts i).2.2.2.2.2.1.1.take (y ts i).2.2.2.2.2.1.2).map lim) 0 [],
        .arr TPr (rs ++ [rE (y ts i) (.own 7 0 (y ts i).2.2.2.2.1.2) (.own 8 0 (y ts i).2.2.2.2.2.1.2)]) m [2]]) := by kernel_rfl
noncomputable def rn (f : Nat) (k : List Item) (s : St) : Tree Out := runK P7 Tryd.prog noLoops f k s
noncomputable def K2 : List Item := leftT [false] (rn 6 K1 (st1 0 0 [] 0 [] [] 0 0))
theorem b' (b c : Int) (ts : List TD) (n : Nat) (os rs : List TR) (i m : Nat) : rawT 252 [1, 2, 5, 6] [0, 1, 2] [false] (rn 6 K1 (st1 b c ts n os rs i m)) =
    some ([decide ((i : Int) < n)], K2, [one (.ro TP ts n), pt 0, one (.sl 1 0 m), one (.sl 2 0 m)], [pB b c, .arr TPr os 0 [], .arr TPr rs 0 []]) := by kernel_rfl
noncomputable def st2 (b c : Int) (ts : List TD) (n : Nat) (xs zs : List TD) : St := ⟨slotsOf 252 [(1, one (.ro TP ts n)), (2, pt 0), (5, one (.sl 1 0 n)), (6, one (.sl 2 0 n))], [pB b c, .frz TP xs, .frz TP zs]⟩
/-- both answers of Whole -/
def hD (b c : Int) (xs zs : List TD) (w w' : T6) : Heap := [pB b c, .frz TP xs, .frz TP zs, .vals (t6C w (.sl 4 0 w.l.length) (.sl 5 0 w.rr.length)), .arr WS w.l 0 [], .arr WS w.rr 0 [], .vals (t6C w' (.sl 7 0 w'.l.length) (.sl 8 0 w'.rr.length)), .arr WS w'.l 0 [], .arr WS w'.rr 0 []]
noncomputable def stD (b c : Int) (ts : List TD) (n : Nat) (xs zs : List TD) (w w' : T6) (e e' : Int) (i : Int) : St := ⟨slotsOf 252 [(1, one (.ro TP ts n)), (2, pt 0), (5, one (.sl 1 0 n)), (6, one (.sl 2 0 n)), (8, pt 3), (9, one (.int false .i64 e)), (10, pt 6), (11, one (.int false .i64 e')), (12, one (.int false .i64 i))], hD b c xs zs w w'⟩
noncomputable def K3 : List Item := leftT [true] (r K2 (st2 0 0 [] 0 [] []))
def redB (zs : List TD) (n : Nat) : Bool := decide (∀ i, i < n → (nR (zs.getD i dfT)).red)
theorem d1 (b c : Int) (ts : List TD) (n : Nat) (xs zs : List TD) : pieceT [1, 2, 5, 6, 8, 9, 10, 11, 12] [12] [0, 1, 2, 5, 3, 4, 8, 6, 7] [true] (r K2 (st2 b c ts n xs zs)) =
    some ([redB zs n], K3, stD b c ts n xs zs (WF b c ((xs.take n).map nP)).1 (WF b c ((zs.take n).map nR)).1 (WF b c ((xs.take n).map nP)).2 (WF b c ((zs.take n).map nR)).2 (0 : Nat)) := by kernel_rfl
def stay1 (xs ts : List TD) (i : Nat) : Bool := staB (xs.getD (0 + i) dfT).2.2.2.2.1.1 (xs.getD (0 + i) dfT).2.2.2.2.1.2 (ts.getD i dfT).2.2.2.2.1.1 (ts.getD i dfT).2.2.2.2.1.2 m77 && staB (xs.getD (0 + i) dfT).2.2.2.2.2.1.1 (xs.getD (0 + i) dfT).2.2.2.2.2.1.2 (ts.getD i dfT).2.2.2.2.2.1.1 (ts.getD i dfT).2.2.2.2.2.1.2 m78
theorem d2 (b c : Int) (ts : List TD) (n : Nat) (xs zs : List TD) (w w' : T6) (e e' : Int) (i : Nat) : pieceT [1, 2, 5, 6, 8, 9, 10, 11, 12] [12] [0, 1, 2, 3, 4, 5, 6, 7, 8] [true, true, true, true, false] (r K3 (stD b c ts n xs zs w w' e e' i)) =
    some ([decide ((i : Int) < n), decide (0 ≤ (i : Int) ∧ (i : Int) < n), decide (0 ≤ (i : Int) ∧ (i : Int) < n), stay1 xs ts i, false], K3, stD b c ts n xs zs w w' e e' (iw ((i : Int) + 1))) := by kernel_rfl
def cs4 : List Bool := [false, true, true, true, true, true, true, true, true, false]
noncomputable def K4 : List Item := leftT cs4 (rn 10 K3 (stD 0 0 [] 0 [] [] z6 z6 0 0 0))
def neB (x y : List Int) : Bool := (!(x == y && true)) == false
theorem d3 (b c : Int) (ts : List TD) (n : Nat) (xs zs : List TD) (w w' : T6) (e e' : Int) (i : Nat) : pieceT [1, 2, 5, 6, 8, 10] [] [0, 1, 2, 3, 4, 5, 6, 7, 8] cs4 (rn 10 K3 (stD b c ts n xs zs w w' e e' i)) =
    some ([decide ((i : Int) < n), (e != e') == false, neB w.a w'.a, neB w.r w'.r, neB w.t1 w'.t1, neB w.t2 w'.t2, snB w.l w'.l w.l.length w'.l.length, true, snB w.rr w'.rr w.rr.length w'.rr.length, false], K4,
      ⟨slotsOf 252 [(1, one (.ro TP ts n)), (2, pt 0), (5, one (.sl 1 0 n)), (6, one (.sl 2 0 n)), (8, pt 3), (10, pt 6)], hD b c xs zs w w'⟩) := by kernel_rfl
noncomputable def stE (b c : Int) (ts : List TD) (n : Nat) (xs zs : List TD) (w w' v : T6) : St := ⟨slotsOf 252 [(1, one (.ro TP ts n)), (2, pt 0), (5, one (.sl 1 0 n)), (6, one (.sl 2 0 n)), (8, pt 3), (10, pt 6), (13, pt 9)],
  hD b c xs zs w w' ++ [.vals (t6C v (.sl 10 0 v.l.length) (.sl 11 0 v.rr.length)), .arr WS v.l 0 [], .arr WS v.rr 0 []]⟩
noncomputable def K5 : List Item := leftT [] (rn 2 K4 ⟨slotsOf 252 [(1, one (.ro TP [] 0)), (2, pt 0), (5, one (.sl 1 0 0)), (6, one (.sl 2 0 0)), (8, pt 3), (10, pt 6)], hD 0 0 [] [] z6 z6⟩)
theorem d4 (b c : Int) (ts : List TD) (n : Nat) (xs zs : List TD) (w w' : T6) : pieceT [1, 2, 5, 6, 8, 10, 13] [] [0, 1, 2, 3, 4, 5, 6, 7, 8, 11, 9, 10] [] (rn 2 K4 ⟨slotsOf 252 [(1, one (.ro TP ts n)), (2, pt 0), (5, one (.sl 1 0 n)), (6, one (.sl 2 0 n)), (8, pt 3), (10, pt 6)], hD b c xs zs w w'⟩) =
    some ([], K5, stE b c ts n xs zs w w' (WF b c ((xs.take n).map nP)).1) := by kernel_rfl
def cs5 : List Bool := [true, true, true, true, true]
noncomputable def K6 : List Item := leftT cs5 (rn 5 K5 (stE 0 0 [] 0 [] [] z6 z6 z6))
noncomputable def stF (b c : Int) (ts : List TD) (n : Nat) (xs zs : List TD) : St := ⟨slotsOf 252 [(1, one (.ro TP ts n)), (2, pt 0), (5, one (.sl 1 0 n)), (6, one (.sl 2 0 n))], [pB b c, .frz TP xs, .frz TP zs]⟩
def apB (w v : T6) : Bool := decide ((w.l.length = w.l.length ∧ w.rr.length = w.rr.length ∧ v.l.length = v.l.length ∧ v.rr.length = v.rr.length) ∧ w.l.length ≤ 1048500 ∧ w.rr.length ≤ 1048500 ∧ v.l.length ≤ 1048500 ∧ v.rr.length ≤ 1048500)
theorem d5 (b c : Int) (ts : List TD) (n : Nat) (xs zs : List TD) (w w' v : T6) : pieceT [1, 2, 5, 6] [] [0, 1, 2] cs5 (rn 5 K5 (stE b c ts n xs zs w w' v)) =
    some ([snB v.l w'.l v.l.length w'.l.length, true, snB v.rr w'.rr v.rr.length w'.rr.length, true, apB w v], K6, stF b c ts n xs zs) := by kernel_rfl
noncomputable def K7 : List Item := leftT [] (r K6 (stF 0 0 [] 0 [] []))
noncomputable def stG (b c : Int) (ts : List TD) (n : Nat) (xs zs : List TD) (i : Int) : St := ⟨slotsOf 252 [(1, one (.ro TP ts n)), (2, pt 0), (5, one (.sl 1 0 n)), (6, one (.sl 2 0 n)), (15, one (.int false .i64 i))], [pB b c, .frz TP xs, .frz TP zs]⟩
theorem d6 (b c : Int) (ts : List TD) (n : Nat) (xs zs : List TD) : pieceT [1, 2, 5, 6, 15] [15] [0, 1, 2] [] (r K6 (stF b c ts n xs zs)) = some ([], K7, stG b c ts n xs zs (0 : Nat)) := by kernel_rfl
theorem d7 (b c : Int) (ts : List TD) (n : Nat) (xs zs : List TD) (i : Nat) : pieceT [1, 2, 5, 6, 15] [15] [0, 1, 2] [true, true, true, true, false] (r K7 (stG b c ts n xs zs i)) =
    some ([decide ((i : Int) < n), decide (0 ≤ (i : Int) ∧ (i : Int) < n), decide (0 ≤ (i : Int) ∧ (i : Int) < n), stay1 xs ts i, false], K7, stG b c ts n xs zs (iw ((i : Int) + 1))) := by kernel_rfl
noncomputable def K8 : List Item := leftT [false] (r K7 (stG 0 0 [] 0 [] [] 0))
noncomputable def stH (b c : Int) (ts : List TD) (n : Nat) (xs zs : List TD) (i : Int) : St := ⟨slotsOf 252 [(1, one (.ro TP ts n)), (2, pt 0), (5, one (.sl 1 0 n)), (6, one (.sl 2 0 n)), (16, one (.int false .i64 i))], [pB b c, .frz TP xs, .frz TP zs]⟩
theorem d8 (b c : Int) (ts : List TD) (n : Nat) (xs zs : List TD) (i : Nat) : pieceT [1, 2, 5, 6, 16] [16] [0, 1, 2] [false] (r K7 (stG b c ts n xs zs i)) =
    some ([decide ((i : Int) < n)], K8, stH b c ts n xs zs (0 : Nat)) := by kernel_rfl
end L14
end Go.Sc

namespace Go.Sc
open Go Go.SX Go.Proofs

structure Qd where
  ol : Slc WS
  or : Slc WS
  rl : Slc WS
  rr : Slc WS
def Qd.l (q : Qd) : List (Slc WS) := [q.ol, q.or, q.rl, q.rr]
def flat (qs : List Qd) : List (Slc WS) := qs.flatMap Qd.l
def Raw (d : TR) : Prop := (∃ a l c, d.2.2.2.2.1 = .raw a l c) ∧ ∃ a l c, d.2.2.2.2.2.1 = .raw a l c

theorem raw_ref {E E' : Env} {d : RefD} {v : Value} (h : ∃ a l c, d = .raw a l c) (hr : RelRef E d v) : RelRef E' d v := by
  obtain ⟨a, l, c, rfl⟩ := h
  exact hr
theorem raw_rot {E E' : Env} {d : TR} {us : List Value} (h : Raw d) (hr : RoT E TPr d us) : RoT E' TPr d us := by
  obtain ⟨v1, u1, e1, q1, v2, u2, e2, q2, v3, u3, e3, q3, v4, u4, e4, q4, v5, u5, e5, ⟨v, e6, q6⟩, v6, u6, e7, ⟨v', e8, q8⟩, q9⟩ := hr
  exact ⟨v1, u1, e1, q1, v2, u2, e2, q2, v3, u3, e3, q3, v4, u4, e4, q4, v5, u5, e5, ⟨v, e6, raw_ref h.1 q6⟩, v6, u6, e7, ⟨v', e8, raw_ref h.2 q8⟩, q9⟩
/-- an entry whose lists are the state's own: as it is in the machine -/
theorem own_rot {G : GlobT} {E E' : Env} (hE : RepH G E) {a r t1 t2 : List Int} {p q n m : Nat} {X Y : List (List Int)} {lo lo' : Nat} {par par' : List Nat} {us : List Value}
    (hp : getB E.H p = .arr WS X lo par) (hq : getB E.H q = .arr WS Y lo' par') (hr : RoT E TPr (a, r, t1, t2, .own p 0 n, .own q 0 m, ()) us) :
    ∃ sl sr : Slc WS, (sl.len = n ∧ sl.xs = X ∧ sl.In E.w ∧ ∀ k, sl.blk = some k → E.β p = some k) ∧ (sr.len = m ∧ sr.xs = Y ∧ sr.In E.w ∧ ∀ k, sr.blk = some k → E.β q = some k) ∧
      RoT E' TPr (a, r, t1, t2, sl.raw, sr.raw, ()) us := by
  obtain ⟨v1, u1, e1, q1, v2, u2, e2, q2, v3, u3, e3, q3, v4, u4, e4, q4, v5, u5, e5, ⟨v, e6, q6⟩, v6, u6, e7, ⟨v', e8, q8⟩, q9⟩ := hr
  obtain ⟨sl, g1, g2, g3, g4, g5⟩ := Slc.of_own (lo := 0) rfl rfl hE hp q6.2
  obtain ⟨sr, k1, k2, k3, k4, k5⟩ := Slc.of_own (lo := 0) rfl rfl hE hq q8.2
  exact ⟨sl, sr, ⟨g1, g2, g4, g5⟩, ⟨k1, k2, k4, k5⟩, v1, u1, e1, q1, v2, u2, e2, q2, v3, u3, e3, q3, v4, u4, e4, q4, v5, u5, e5, ⟨v, e6, g3⟩, v6, u6, e7, ⟨v', e8, k3⟩, q9⟩
theorem rows_last {α : Type} {Q : α → List Value → Prop} {xs : List α} {x : α} {sz at_ : Nat} {c : Array Value} (h : SX.Rows sz Q (xs ++ [x]) at_ c) :
    (∃ us, Q x us ∧ us.length = sz ∧ ∀ j, j < sz → c[at_ + (xs.length * sz + j)]? = us[j]?) ∧ SX.Rows sz Q xs at_ c := by
  constructor
  · obtain ⟨us, h1, h2, h3⟩ := h xs.length (by simp)
    rw [List.getElem_append_right (Nat.le_refl _)] at h1
    exact ⟨us, by simpa using h1, h2, h3⟩
  · intro i hi
    obtain ⟨us, h1, h2, h3⟩ := h i (by simp; omega)
    rw [List.getElem_append_left hi] at h1
    exact ⟨us, h1, h2, h3⟩
theorem rows_snoc {α : Type} {Q : α → List Value → Prop} {xs : List α} {x : α} {sz at_ : Nat} {c : Array Value} (h : SX.Rows sz Q xs at_ c) (hx : ∃ us, Q x us ∧ us.length = sz ∧ ∀ j, j < sz → c[at_ + (xs.length * sz + j)]? = us[j]?) : SX.Rows sz Q (xs ++ [x]) at_ c := by
  intro i hi
  by_cases hlt : i < xs.length
  · rw [List.getElem_append_left hlt]
    exact h i hlt
  · obtain rfl : i = xs.length := by simp at hi; omega
    obtain ⟨us, h1, h2, h3⟩ := hx
    exact ⟨us, by rw [List.getElem_append_right (Nat.le_refl _)]; simpa using h1, h2, h3⟩
theorem rows_mem {α : Type} {Q Q' : α → List Value → Prop} {xs : List α} {sz at_ : Nat} {c : Array Value} (h : SX.Rows sz Q xs at_ c) (hq : ∀ d ∈ xs, ∀ us, Q d us → Q' d us) : SX.Rows sz Q' xs at_ c := fun i hi => by
  obtain ⟨us, h1, h2, h3⟩ := h i hi
  exact ⟨us, hq _ (List.getElem_mem hi) _ h1, h2, h3⟩
theorem rows_raw {G : GlobT} {E : Env} (hE : RepH G E) {os : List TPr.den} (ho : ∀ d ∈ os, Raw d) {a r t1 t2 : List Int} {p q n m : Nat} {X Y : List (List Int)} {lo lo' : Nat} {par par' : List Nat} {c : Array Value}
    (hp : getB E.H p = .arr WS X lo par) (hq : getB E.H q = .arr WS Y lo' par') {e : TPr.den} (he : e = ((a, r, t1, t2, .own p 0 n, .own q 0 m, ()) : TR)) (hr : SX.Rows TPr.size (RoT E TPr) (os ++ [e]) 0 c) :
    ∃ sl sr : Slc WS, (sl.len = n ∧ sl.xs = X ∧ sl.In E.w ∧ ∀ k, sl.blk = some k → E.β p = some k) ∧ (sr.len = m ∧ sr.xs = Y ∧ sr.In E.w ∧ ∀ k, sr.blk = some k → E.β q = some k) ∧
      ∀ (E' : Env) (e' : TPr.den), e' = ((a, r, t1, t2, sl.raw, sr.raw, ()) : TR) → SX.Rows TPr.size (RoT E' TPr) (os ++ [e']) 0 c := by
  subst he
  obtain ⟨⟨us, h1, h2, h3⟩, h4⟩ := rows_last hr
  obtain ⟨sl, sr, g1, g2, g3⟩ := own_rot (E' := E) hE hp hq h1
  refine ⟨sl, sr, g1, g2, fun E' e' he' => rows_snoc (rows_mem h4 fun d hd us hu => raw_rot (ho d hd) hu) ⟨us, ?_, h2, h3⟩⟩
  subst he'
  exact raw_rot ⟨⟨_, _, _, rfl⟩, _, _, _, rfl⟩ g3
end Go.Sc

namespace Go.Sc
open Go Go.SX Go.Proofs
open L14 (pB y oE rE tw)

def Qd.fit (t : TD) (q : Qd) : Prop :=
  (q.ol.len = t.2.2.2.2.1.2 ∧ q.ol.xs = tw t.2.2.2.2.1 m77) ∧ (q.or.len = t.2.2.2.2.2.1.2 ∧ q.or.xs = tw t.2.2.2.2.2.1 m78) ∧
  (q.rl.len = t.2.2.2.2.1.2 ∧ q.rl.xs = (t.2.2.2.2.1.1.take t.2.2.2.2.1.2).map lim) ∧ (q.rr.len = t.2.2.2.2.2.1.2 ∧ q.rr.xs = (t.2.2.2.2.2.1.1.take t.2.2.2.2.2.1.2).map lim)
def osL (ts : List TD) (qs : List Qd) : List TR := qs.zipIdx.map fun p => oE (y ts p.2) p.1.ol.raw p.1.or.raw
def rsL (ts : List TD) (qs : List Qd) : List TR := qs.zipIdx.map fun p => rE (y ts p.2) p.1.rl.raw p.1.rr.raw
theorem osL_snoc (ts : List TD) (qs : List Qd) (q : Qd) : osL ts (qs ++ [q]) = osL ts qs ++ [oE (y ts qs.length) q.ol.raw q.or.raw] := by
  unfold osL; rw [List.zipIdx_append, List.map_append]; simp
theorem rsL_snoc (ts : List TD) (qs : List Qd) (q : Qd) : rsL ts (qs ++ [q]) = rsL ts qs ++ [rE (y ts qs.length) q.rl.raw q.rr.raw] := by
  unfold rsL; rw [List.zipIdx_append, List.map_append]; simp
theorem osL_raw (ts : List TD) (qs : List Qd) : ∀ d ∈ osL ts qs, Raw d := fun d hd => by
  obtain ⟨p, _, rfl⟩ := List.mem_map.1 hd
  exact ⟨⟨_, _, _, rfl⟩, _, _, _, rfl⟩
theorem rsL_raw (ts : List TD) (qs : List Qd) : ∀ d ∈ rsL ts qs, Raw d := fun d hd => by
  obtain ⟨p, _, rfl⟩ := List.mem_map.1 hd
  exact ⟨⟨_, _, _, rfl⟩, _, _, _, rfl⟩
theorem osL_len (ts : List TD) (qs : List Qd) : (osL ts qs).length = qs.length := by unfold osL; simp
theorem rsL_len (ts : List TD) (qs : List Qd) : (rsL ts qs).length = qs.length := by unfold rsL; simp
theorem flat_snoc (qs : List Qd) (q : Qd) : flat (qs ++ [q]) = flat qs ++ q.l := by unfold flat; rw [List.flatMap_append]; simp

/-- at the first loop's head -/
structure J1 (E0 : Env) (b c : Int) (ts : List TD) (n : Nat) (qs : List Qd) (E : Env) (a : Act) : Prop where
  x : Ext E0 E
  rp : Rp G0 E (L14.st1 b c ts n (osL ts qs) (rsL ts qs) (qs.length : Nat) qs.length) a
  kept : Kept E0.w.heap.size E (flat qs)
  fit : ∀ j (h : j < qs.length), (qs[j]).fit (y ts j)
theorem rm6_ok {m : Nat} (h : m < 1048576) : L14.rm6 m = true := by
  unfold L14.rm6; simp [SX.room]; omega
structure OkT (t : TD) : Prop where
  l : t.2.2.2.2.1.2 ≤ 1048575
  r : t.2.2.2.2.2.1.2 ≤ 1048575
  t : okTape t
/-- a live block is none of those kept -/
theorem live_new {E0 E : Env} (x : Ext E0 E) (h0 : E0.H = []) {b k : Nat} (hl : live (getB E.H b) = true) (hk : E.β b = some k) : E0.w.heap.size ≤ k := by
  rcases x.fresh b k hl hk with ⟨b0, q, _⟩ | q
  · rw [h0] at q; cases q
  · exact q
theorem free_of {E0 E : Env} {G : GlobT} (hE : RepH G E) (x : Ext E0 E) (h0 : E0.H = []) {b k : Nat} (hl : live (getB E.H b) = true) (hk : E.β b = some k) {H : Heap} {ks : List (Option Nat)}
    (hno : ∀ j, live (getB H j) = true → ∃ b', (ks[j]?).getD none = E.β b' ∧ live (getB E.H b') = true ∧ b' ≠ b) : Free E0.w.heap.size (mkE E.w H ks E.R) k := by
  refine ⟨live_new x h0 hl hk, hE.lt hl hk, fun hr => (hE.ro k hr).2 b hl hk, fun j hj hjk => ?_⟩
  obtain ⟨b', h1, h2, h3⟩ := hno j hj
  exact h3 (hE.inj b' b k h2 hl (h1 ▸ hjk) hk)
theorem free_keep {E : Env} {lo k : Nat} (h : Free lo E k) {H : Heap} {ks : List (Option Nat)} (hno : ∀ j, live (getB H j) = true → ∃ b', (ks[j]?).getD none = E.β b' ∧ live (getB E.H b') = true) : Free lo (mkE E.w H ks E.R) k := by
  refine ⟨h.1, h.2.1, h.2.2.1, fun j hj hjk => ?_⟩
  obtain ⟨b', h1, h2⟩ := hno j hj
  exact h.2.2.2 b' h2 (h1 ▸ hjk)
theorem snoc_ne {α : Type} {xs : List α} {x : α} : xs ++ [x] ≠ [] := by simp
theorem arr_some {E : Env} {b : Nat} {t : DTy} {xs : List t.den} {lo : Nat} {par : List Nat} (h : RepB E b (.arr t xs lo par)) (hne : xs ≠ []) : ∃ k c e fz, E.β b = some k ∧ E.w.heap[k]? = some (.cells c e fz) ∧ NoFz fz c.size ∧ SX.Rows t.size (RoT E t) xs 0 c := by
  rcases h.2.2 with ⟨_, h⟩ | h
  · exact (hne h).elim
  · exact h
theorem step1 {E0 E : Env} {b c : Int} {ts : List TD} {n : Nat} {qs : List Qd} {a : Act} {F : Act → World → Prop} (h0 : E0.H = []) (hn : n ≤ ts.length) (hN : n ≤ 1048575) (hts : ∀ t ∈ ts, OkT t) (h : J1 E0 b c ts n qs E a) (hi : qs.length < n)
    (hnext : ∀ E' a' q, J1 E0 b c ts n (qs ++ [q]) E' a' → ItemsWp Tryd.prog F L14.K1 a' E'.w) : ItemsWp Tryd.prog F L14.K1 a E.w := by
  have hok := hts _ (mem_getD (z := dfT) (show qs.length < ts.length by omega))
  have hb := L14.b b c ts n (osL ts qs) (rsL ts qs) qs.length qs.length
  have c1 : L14.okL (y ts qs.length) = true := decide_eq_true ⟨hok.l, hok.r, hok.t.1, hok.t.2⟩
  have c2 : L14.okL2 (y ts qs.length) = true := decide_eq_true ⟨by have := hok.l; unfold y; omega, by have := hok.r; unfold y; omega⟩
  rw [c1, c2, rm6_ok (by omega), decide_eq_true (show (qs.length : Int) < n by omega), decide_eq_true (show 0 ≤ (qs.length : Int) ∧ (qs.length : Int) < n by omega), decide_eq_true (osL_len ts qs).symm, decide_eq_true (rsL_len ts qs).symm, iwk (by omega)] at hb
  refine raw_run okP7 mx hb rfl h.rp (fun E' a' s' x hs' hlen hd hbk => ?_)
  simp only [List.map_cons, List.map_nil, List.cons.injEq, and_true] at hd hbk
  obtain ⟨d1, d2, d5, d6, d7⟩ := hd
  obtain ⟨k0, k3, k4, k6, k7, k8, k10⟩ := hbk
  have hE := hs'.h
  have x0 : Ext E0 E' := h.x.trans x
  rw [← hs'.eq] at k0 k3 k4 k6 k7 k8 k10
  have r6 := hE.blk 6
  rw [k6] at r6
  obtain ⟨ko, co, eo, fo, o1, o2, o3, o4⟩ := arr_some r6 (snoc_ne (α := TR))
  have r10 := hE.blk 10
  rw [k10] at r10
  obtain ⟨ki, ci, ei, fi, i1, i2, i3, i4⟩ := arr_some r10 (snoc_ne (α := TR))
  obtain ⟨ol, or, g1, g2, g3⟩ := rows_raw hE (osL_raw ts qs) k3 k4 rfl o4
  obtain ⟨rl, rr, g4, g5, g6⟩ := rows_raw hE (rsL_raw ts qs) k7 k8 rfl i4
  let q : Qd := ⟨ol, or, rl, rr⟩
  let H : Heap := [pB b c, .arr TPr (osL ts (qs ++ [q])) 0 [], .arr TPr (rsL ts (qs ++ [q])) 0 []]
  let ks : List (Option Nat) := [E'.β 0, E'.β 6, E'.β 10]
  have hks : ∀ j, live (getB H j) = true → ∃ b', (ks[j]?).getD none = E'.β b' ∧ live (getB E'.H b') = true ∧ (b' = 0 ∨ b' = 6 ∨ b' = 10) := fun j hj => by
    match j, hj with
    | 0, _ => exact ⟨0, rfl, by rw [k0]; rfl, .inl rfl⟩
    | 1, _ => exact ⟨6, rfl, by rw [k6]; rfl, .inr (.inl rfl)⟩
    | 2, _ => exact ⟨10, rfl, by rw [k10]; rfl, .inr (.inr rfl)⟩
    | j + 3, hj => cases hj
  have hinj : ∀ j j' k, live (getB H j) = true → live (getB H j') = true → (ks[j]?).getD none = some k → (ks[j']?).getD none = some k → j = j' := fun j j' k hj hj' hk hk' => by
    have d06 : E'.β 0 = some k → E'.β 6 = some k → False := fun u v => by have := hE.inj 0 6 k (by rw [k0]; rfl) (by rw [k6]; rfl) u v; omega
    have d0t : E'.β 0 = some k → E'.β 10 = some k → False := fun u v => by have := hE.inj 0 10 k (by rw [k0]; rfl) (by rw [k10]; rfl) u v; omega
    have d6t : E'.β 6 = some k → E'.β 10 = some k → False := fun u v => by have := hE.inj 6 10 k (by rw [k6]; rfl) (by rw [k10]; rfl) u v; omega
    match j, j', hj, hj' with
    | 0, 0, _, _ => rfl
    | 1, 1, _, _ => rfl
    | 2, 2, _, _ => rfl
    | 0, 1, _, _ => exact (d06 hk hk').elim
    | 1, 0, _, _ => exact (d06 hk' hk).elim
    | 0, 2, _, _ => exact (d0t hk hk').elim
    | 2, 0, _, _ => exact (d0t hk' hk).elim
    | 1, 2, _, _ => exact (d6t hk hk').elim
    | 2, 1, _, _ => exact (d6t hk' hk).elim
    | j + 3, _, hj, _ => cases hj
    | _, j' + 3, _, hj' => cases hj'
  have hrep : RepH G0 (mkE E'.w H ks E'.R) := by
    refine mkE_rep hE (fun _ h => h) (fun k hk => ⟨(hE.ro k hk).1, fun j hj hjk => ?_⟩) hinj (fun j hj => ?_)
    · obtain ⟨b', e1, e2, _⟩ := hks j hj
      exact (hE.ro k hk).2 b' e2 (e1 ▸ hjk)
    · match j, hj with
      | 0, _ =>
        have r0 := hE.blk 0
        rw [k0] at r0
        exact r0
      | 1, _ => exact ⟨Nat.zero_le _, by decide, .inr ⟨ko, co, eo, fo, o1, o2, o3, (congrArg (fun l : List TR => SX.Rows TPr.size (RoT (mkE E'.w H ks E'.R) TPr) l 0 co) (osL_snoc ts qs q)).mpr (g3 _ _ rfl)⟩⟩
      | 2, _ => exact ⟨Nat.zero_le _, by decide, .inr ⟨ki, ci, ei, fi, i1, i2, i3, (congrArg (fun l : List TR => SX.Rows TPr.size (RoT (mkE E'.w H ks E'.R) TPr) l 0 ci) (rsL_snoc ts qs q)).mpr (g6 _ _ rfl)⟩⟩
  have hkept := h.kept.ext rfl rfl x
  have hnew : ∀ s ∈ q.l, ∃ p, live (getB E'.H p) = true ∧ (∀ k, s.blk = some k → E'.β p = some k) ∧ s.In E'.w ∧ (p = 3 ∨ p = 4 ∨ p = 7 ∨ p = 8) := fun s hs => by
    simp only [Qd.l, q, List.mem_cons, List.not_mem_nil, or_false] at hs
    rcases hs with rfl | rfl | rfl | rfl
    · exact ⟨3, by rw [k3]; rfl, g1.2.2.2, g1.2.2.1, .inl rfl⟩
    · exact ⟨4, by rw [k4]; rfl, g2.2.2.2, g2.2.2.1, .inr (.inl rfl)⟩
    · exact ⟨7, by rw [k7]; rfl, g4.2.2.2, g4.2.2.1, .inr (.inr (.inl rfl))⟩
    · exact ⟨8, by rw [k8]; rfl, g5.2.2.2, g5.2.2.1, .inr (.inr (.inr rfl))⟩
  refine hnext (mkE E'.w H ks E'.R) a' q ⟨mkE_ext x0 h0 (fun _ h => h) (fun _ h => .inl h) (fun j k hj hjk => by obtain ⟨b', e1, e2, _⟩ := hks j hj; exact live_new x0 h0 e2 (e1 ▸ hjk)), ⟨hrep, rfl, relTs_slots hlen ?_, hs'.d⟩, ⟨?_, ?_⟩, ?_⟩
  · have hlq : (qs ++ [q]).length = qs.length + 1 := by rw [List.length_append]; rfl
    have s1 := hs'.get 1
    have s2 := hs'.get 2
    have s5 := hs'.get 5
    have s6 := hs'.get 6
    have s7 := hs'.get 7
    rw [d1] at s1
    rw [d2] at s2
    rw [d5] at s5
    rw [d6] at s6
    rw [d7] at s7
    intro p hp
    simp only [List.mem_cons, List.not_mem_nil, or_false] at hp
    rcases hp with rfl | rfl | rfl | rfl | rfl
    · exact flat_ro (E := E') (t := TP) (xs := ts) (len := n) (fun _ h => h) rfl s1
    · obtain ⟨u1, u2⟩ := s2
      refine ⟨u1, ?_⟩
      unfold RelPtr at u2 ⊢
      rw [k0] at u2
      exact u2
    · obtain ⟨u1, u2⟩ := s5
      refine ⟨u1, ?_⟩
      unfold RelSl at u2 ⊢
      rw [k6] at u2
      obtain ⟨ad, cap, e1, e2, e3, e4, e5⟩ := u2
      exact ⟨ad, cap, by rw [e1, hlq], by rw [hlq]; exact e2, e3, by show 0 + (qs ++ [q]).length ≤ (osL ts (qs ++ [q])).length; rw [osL_len]; omega, e5⟩
    · obtain ⟨u1, u2⟩ := s6
      refine ⟨u1, ?_⟩
      unfold RelSl at u2 ⊢
      rw [k10] at u2
      obtain ⟨ad, cap, e1, e2, e3, e4, e5⟩ := u2
      exact ⟨ad, cap, by rw [e1, hlq], by rw [hlq]; exact e2, e3, by show 0 + (qs ++ [q]).length ≤ (rsL ts (qs ++ [q])).length; rw [rsL_len]; omega, e5⟩
    · rw [hlq]; exact s7
  · show List.Pairwise _ (flat (qs ++ [q]))
    rw [flat_snoc, List.pairwise_append]
    refine ⟨hkept.ap, ?_, fun s hs s' hs' k hk hk' => ?_⟩
    · have ne : ∀ {s s' : Slc WS} {p p' : Nat}, p ≠ p' → live (getB E'.H p) = true → live (getB E'.H p') = true → (∀ k, s.blk = some k → E'.β p = some k) → (∀ k, s'.blk = some k → E'.β p' = some k) → ∀ k, s.blk = some k → s'.blk ≠ some k :=
        fun hne l1 l2 h1 h2 k hk hk' => hne (hE.inj _ _ k l1 l2 (h1 k hk) (h2 k hk'))
      have l3 : live (getB E'.H 3) = true := by rw [k3]; rfl
      have l4 : live (getB E'.H 4) = true := by rw [k4]; rfl
      have l7 : live (getB E'.H 7) = true := by rw [k7]; rfl
      have l8 : live (getB E'.H 8) = true := by rw [k8]; rfl
      have e3 := g1.2.2.2
      have e4 := g2.2.2.2
      have e7 := g4.2.2.2
      have e8 := g5.2.2.2
      simp only [Qd.l, q, List.pairwise_cons, List.mem_cons, List.not_mem_nil, or_false]
      refine ⟨fun s hs => ?_, fun s hs => ?_, fun s hs => ?_, fun s hs => hs.elim, List.Pairwise.nil⟩
      · rcases hs with rfl | rfl | rfl
        · exact ne (by decide) l3 l4 e3 e4
        · exact ne (by decide) l3 l7 e3 e7
        · exact ne (by decide) l3 l8 e3 e8
      · rcases hs with rfl | rfl
        · exact ne (by decide) l4 l7 e4 e7
        · exact ne (by decide) l4 l8 e4 e8
      · subst hs
        exact ne (by decide) l7 l8 e7 e8
    · obtain ⟨p, e1, e2, _⟩ := hnew s' hs'
      exact ((hkept.at_ s hs).2 k hk).2.2.2 p e1 (e2 k hk')
  · intro s hs
    rw [flat_snoc] at hs
    rcases List.mem_append.1 hs with hs | hs
    · exact ⟨(hkept.at_ s hs).1, fun k hk => free_keep ((hkept.at_ s hs).2 k hk) fun j hj => by obtain ⟨b', e1, e2, _⟩ := hks j hj; exact ⟨b', e1, e2⟩⟩
    · obtain ⟨p, e1, e2, e3, e4⟩ := hnew s hs
      exact ⟨e3, fun k hk => free_of hE x0 h0 e1 (e2 k hk) fun j hj => by obtain ⟨b', q1, q2, q3⟩ := hks j hj; exact ⟨b', q1, q2, by omega⟩⟩
  · intro j hj
    by_cases hlt : j < qs.length
    · rw [List.getElem_append_left hlt]; exact h.fit j hlt
    · obtain rfl : j = qs.length := by simp at hj; omega
      rw [List.getElem_append_right (Nat.le_refl _)]
      simp only [Nat.sub_self, List.getElem_cons_zero]
      exact ⟨⟨g1.1, g1.2.1⟩, ⟨g2.1, g2.2.1⟩, ⟨g4.1, g4.2.1⟩, g5.1, g5.2.1⟩
end Go.Sc

namespace Go.Sc
open Go Go.SX Go.Proofs
open L14 (pB y oE rE tw)

theorem loop1 {E0 : Env} {b c : Int} {ts : List TD} {n : Nat} {F : Act → World → Prop} (h0 : E0.H = []) (hn : n ≤ ts.length) (hN : n ≤ 1048575) (hts : ∀ t ∈ ts, OkT t)
    (hend : ∀ E a qs, qs.length = n → J1 E0 b c ts n qs E a → ItemsWp Tryd.prog F L14.K1 a E.w) : ∀ (d : Nat) {E : Env} {qs : List Qd} {a : Act}, qs.length + d = n → J1 E0 b c ts n qs E a → ItemsWp Tryd.prog F L14.K1 a E.w
  | 0, E, qs, a, hd, h => hend E a qs hd h
  | d + 1, E, qs, a, hd, h => step1 h0 hn hN hts h (by omega) fun E' a' q h' => loop1 h0 hn hN hts hend d (by rw [List.length_append]; simp; omega) h'
/-- an entry whose lists may be read -/
theorem show_rot {E E' : Env} {a r t1 t2 : List Int} {sl sr : Slc WS} {us : List Value} (hr : RoT E TPr ((a, r, t1, t2, sl.raw, sr.raw, ()) : TR) us) (h1 : sl.In E'.w) (h2 : sr.In E'.w) (k1 : ∀ k, sl.blk = some k → E'.R k) (k2 : ∀ k, sr.blk = some k → E'.R k) :
    RoT E' TP ((a, r, t1, t2, (sl.xs, sl.len), (sr.xs, sr.len), ()) : TD) us := by
  obtain ⟨v1, u1, e1, q1, v2, u2, e2, q2, v3, u3, e3, q3, v4, u4, e4, q4, v5, u5, e5, ⟨v, e6, q6⟩, v6, u6, e7, ⟨v', e8, q8⟩, q9⟩ := hr
  have g1 : RoSl E' WS.size (RoT E' WS) sl.xs sl.len v := by
    rw [show v = .slice sl.a sl.len sl.cap from q6]
    exact Slc.rosl h1 (by decide) rfl rfl k1
  have g2 : RoSl E' WS.size (RoT E' WS) sr.xs sr.len v' := by
    rw [show v' = .slice sr.a sr.len sr.cap from q8]
    exact Slc.rosl h2 (by decide) rfl rfl k2
  exact ⟨v1, u1, e1, q1, v2, u2, e2, q2, v3, u3, e3, q3, v4, u4, e4, q4, v5, u5, e5, ⟨v, e6, g1⟩, v6, u6, e7, ⟨v', e8, g2⟩, q9⟩
def oD (t : TD) (q : Qd) : TD := (t.1, t.2.1, t.2.2.1, t.2.2.2.1, (q.ol.xs, q.ol.len), (q.or.xs, q.or.len), ())
def rD (t : TD) (q : Qd) : TD := (lim t.1, lim t.2.1, lim t.2.2.1, lim t.2.2.2.1, (q.rl.xs, q.rl.len), (q.rr.xs, q.rr.len), ())
def oxL (ts : List TD) (qs : List Qd) : List TD := qs.zipIdx.map fun p => oD (y ts p.2) p.1
def rxL (ts : List TD) (qs : List Qd) : List TD := qs.zipIdx.map fun p => rD (y ts p.2) p.1
theorem oxL_len (ts : List TD) (qs : List Qd) : (oxL ts qs).length = qs.length := by simp [oxL]
theorem rxL_len (ts : List TD) (qs : List Qd) : (rxL ts qs).length = qs.length := by simp [rxL]
theorem osL_get {ts : List TD} {qs : List Qd} {i : Nat} (h : i < qs.length) (h' : i < (osL ts qs).length) : (osL ts qs)[i] = oE (y ts i) qs[i].ol.raw qs[i].or.raw := by simp [osL]
theorem rsL_get {ts : List TD} {qs : List Qd} {i : Nat} (h : i < qs.length) (h' : i < (rsL ts qs).length) : (rsL ts qs)[i] = rE (y ts i) qs[i].rl.raw qs[i].rr.raw := by simp [rsL]
theorem oxL_get {ts : List TD} {qs : List Qd} {i : Nat} (h : i < qs.length) (h' : i < (oxL ts qs).length) : (oxL ts qs)[i] = oD (y ts i) qs[i] := by simp [oxL]
theorem rxL_get {ts : List TD} {qs : List Qd} {i : Nat} (h : i < qs.length) (h' : i < (rxL ts qs).length) : (rxL ts qs)[i] = rD (y ts i) qs[i] := by simp [rxL]
theorem mem_flat {qs : List Qd} {i : Nat} (h : i < qs.length) : qs[i].ol ∈ flat qs ∧ qs[i].or ∈ flat qs ∧ qs[i].rl ∈ flat qs ∧ qs[i].rr ∈ flat qs := by
  have hm : qs[i] ∈ qs := List.getElem_mem h
  refine ⟨?_, ?_, ?_, ?_⟩ <;> exact List.mem_flatMap.2 ⟨_, hm, by simp [Qd.l]⟩
/-- rows whose lists may be read -/
theorem rows_show_o {E E' : Env} {ts : List TD} {qs : List Qd} {c : Array Value} {off : Nat} (hr : SX.Rows TPr.size (RoT E TPr) (osL ts qs) off c) (h1 : ∀ s ∈ flat qs, s.In E'.w ∧ ∀ k, s.blk = some k → E'.R k) : SX.Rows TP.size (RoT E' TP) (oxL ts qs) off c := fun i hi => by
  have hi : i < (oxL ts qs).length := hi
  have hq : i < qs.length := by rw [oxL_len] at hi; exact hi
  have hi' : i < (osL ts qs).length := by rw [osL_len]; exact hq
  obtain ⟨us, g1, g2, g3⟩ := hr i hi'
  obtain ⟨m1, m2, _, _⟩ := mem_flat hq
  refine ⟨us, ?_, g2, g3⟩
  have e1 : (osL ts qs)[i] = oE (y ts i) qs[i].ol.raw qs[i].or.raw := osL_get hq hi'
  have e2 : (oxL ts qs)[i] = oD (y ts i) qs[i] := oxL_get hq hi
  show RoT E' TP ((oxL ts qs)[i] : TD) us
  rw [e2]
  have g1 : RoT E TPr ((osL ts qs)[i] : TR) us := g1
  rw [e1] at g1
  exact show_rot g1 (h1 _ m1).1 (h1 _ m2).1 (h1 _ m1).2 (h1 _ m2).2
theorem rows_show_r {E E' : Env} {ts : List TD} {qs : List Qd} {c : Array Value} {off : Nat} (hr : SX.Rows TPr.size (RoT E TPr) (rsL ts qs) off c) (h1 : ∀ s ∈ flat qs, s.In E'.w ∧ ∀ k, s.blk = some k → E'.R k) : SX.Rows TP.size (RoT E' TP) (rxL ts qs) off c := fun i hi => by
  have hi : i < (rxL ts qs).length := hi
  have hq : i < qs.length := by rw [rxL_len] at hi; exact hi
  have hi' : i < (rsL ts qs).length := by rw [rsL_len]; exact hq
  obtain ⟨us, g1, g2, g3⟩ := hr i hi'
  obtain ⟨_, _, m1, m2⟩ := mem_flat hq
  refine ⟨us, ?_, g2, g3⟩
  have e1 : (rsL ts qs)[i] = rE (y ts i) qs[i].rl.raw qs[i].rr.raw := rsL_get hq hi'
  have e2 : (rxL ts qs)[i] = rD (y ts i) qs[i] := rxL_get hq hi
  show RoT E' TP ((rxL ts qs)[i] : TD) us
  rw [e2]
  have g1 : RoT E TPr ((rsL ts qs)[i] : TR) us := g1
  rw [e1] at g1
  exact show_rot g1 (h1 _ m1).1 (h1 _ m2).1 (h1 _ m1).2 (h1 _ m2).2
end Go.Sc

namespace Go.Sc
open Go Go.SX Go.Proofs
namespace L14
/-- the state in which the lists are written over: one of each side taken up -/
noncomputable def stO (b c : Int) (n : Nat) (os rs : List TR) (i : Int) : St := ⟨slotsOf 252 [(1, one (.sl 3 0 n)), (2, pt 2), (5, one (.ro TPr os n)), (6, one (.ro TPr rs n)), (16, one (.int false .i64 i))], [.gone, .gone, pB b c, .gone]⟩
noncomputable def stU (b c : Int) (n : Nat) (os rs : List TR) (us vs : List (List Int)) (i : Int) : St := ⟨slotsOf 252 [(1, one (.sl 3 0 n)), (2, pt 2), (5, one (.ro TPr os n)), (6, one (.ro TPr rs n)), (16, one (.int false .i64 i))], [.arr WS us 0 [], .arr WS vs 0 [], pB b c, .gone]⟩
noncomputable def stI (b c : Int) (n : Nat) (os rs : List TR) (us vs : List (List Int)) (i k : Int) : St := ⟨slotsOf 252 [(1, one (.sl 3 0 n)), (2, pt 2), (5, one (.ro TPr os n)), (6, one (.ro TPr rs n)), (16, one (.int false .i64 i)), (17, one (.int false .i64 k))], [.arr WS us 0 [], .arr WS vs 0 [], pB b c, .gone]⟩
noncomputable def K9 : List Item := leftT [true] (r K8 (stO 0 0 0 [] [] 0))
noncomputable def K10 : List Item := leftT [false] (rn 6 K8 (stO 0 0 0 [] [] 0))
def dfR : TR := (z4, z4, z4, z4, .nil, .nil, ())
def cs9 : List Bool := [true, true, true, true, true, true, true, true, true, true, false, true, true, false, true, true, true, true]
def kI (k : Int) : List Int := [IntKind.u64.wrap (IntKind.u64.wrap k + 1), 0, 0, 0]
def bump (us : List (List Int)) (d : RefD) (k : Int) : List (List Int) := us.set (d.off + k.toNat) (add (us.getD (d.off + k.toNat) z4) (kI k))
theorem i0 (b c : Int) (n : Nat) (os rs : List TR) (us vs : List (List Int)) (i : Nat) : rawT 252 [1, 2, 5, 6, 16, 17] [0, 1, 2, 3] [true] (r K8 (stU b c n os rs us vs i)) =
    some ([decide ((i : Int) < n)], K9, [one (.sl 3 0 n), pt 2, one (.ro TPr os n), one (.ro TPr rs n), one (.int false .i64 i), one (.int true .i64 (0 : Nat))], [.arr WS us 0 [], .arr WS vs 0 [], pB b c, .gone]) := by kernel_rfl
theorem i1 (b c : Int) (n : Nat) (os rs : List TR) (us vs : List (List Int)) (i k : Nat) : rawT 252 [1, 2, 5, 6, 16, 17] [0, 1, 2, 3] cs9 (r K9 (stI b c n os rs us vs i k)) =
    some ([decide (0 ≤ (i : Int) ∧ (i : Int) < n), (os.getD i dfR).2.2.2.2.1.isOwn 0, decide ((k : Int) < (os.getD i dfR).2.2.2.2.1.len), decide (0 ≤ (i : Int) ∧ (i : Int) < n), (os.getD i dfR).2.2.2.2.1.isOwn 0, decide (0 ≤ (i : Int) ∧ (i : Int) < n), (os.getD i dfR).2.2.2.2.1.isOwn 0,
      decide (0 ≤ (k : Int) ∧ (k : Int) < (os.getD i dfR).2.2.2.2.1.len), decide (0 ≤ (k : Int) ∧ (k : Int) < (os.getD i dfR).2.2.2.2.1.len), decide (0 ≤ (i : Int) ∧ (i : Int) < n), (rs.getD i dfR).2.2.2.2.1.isOwn 0, (rs.getD i dfR).2.2.2.2.1.isOwn 1,
      decide (0 ≤ (i : Int) ∧ (i : Int) < n), (rs.getD i dfR).2.2.2.2.1.isOwn 0, (rs.getD i dfR).2.2.2.2.1.isOwn 1, decide (0 ≤ (k : Int) ∧ (k : Int) < (rs.getD i dfR).2.2.2.2.1.len),
      decide (val (vs.getD ((rs.getD i dfR).2.2.2.2.1.off + (k : Int).toNat) z4) < ell ∧ val (kI k) < ell), decide (0 ≤ (k : Int) ∧ (k : Int) < (rs.getD i dfR).2.2.2.2.1.len)], K9,
      [one (.sl 3 0 n), pt 2, one (.ro TPr os n), one (.ro TPr rs n), one (.int false .i64 i), one (.int false .i64 (iw ((k : Int) + 1)))],
      [.arr WS (bump us (os.getD i dfR).2.2.2.2.1 k) 0 [], .arr WS (bump vs (rs.getD i dfR).2.2.2.2.1 k) 0 [], pB b c, .gone]) := by kernel_rfl
theorem i2 (b c : Int) (n : Nat) (os rs : List TR) (us vs : List (List Int)) (i k : Nat) : rawT 252 [1, 2, 5, 6, 16] [0, 1, 2, 3] [true, true, false] (r K9 (stI b c n os rs us vs i k)) =
    some ([decide (0 ≤ (i : Int) ∧ (i : Int) < n), (os.getD i dfR).2.2.2.2.1.isOwn 0, decide ((k : Int) < (os.getD i dfR).2.2.2.2.1.len)], K8,
      [one (.sl 3 0 n), pt 2, one (.ro TPr os n), one (.ro TPr rs n), one (.int false .i64 (iw ((i : Int) + 1)))], [.arr WS us 0 [], .arr WS vs 0 [], pB b c, .gone]) := by kernel_rfl
theorem i3 (b c : Int) (n : Nat) (os rs : List TR) (i : Nat) : rawT 252 [2, 5, 6] [2] [false] (rn 6 K8 (stO b c n os rs i)) =
    some ([decide ((i : Int) < n)], K10, [pt 2, one (.ro TPr os n), one (.ro TPr rs n)], [pB b c]) := by kernel_rfl
theorem i4 (b c : Int) (ts : List TD) (n : Nat) (xs zs : List TD) (i : Nat) : rawT 252 [2, 5, 6] [0] [false] (rn 6 K8 (stH b c ts n xs zs i)) =
    some ([decide ((i : Int) < n)], K10, [pt 0, one (.sl 1 0 n), one (.sl 2 0 n)], [pB b c]) := by kernel_rfl
noncomputable def stZ (b c : Int) (n : Nat) (xs zs : List TD) : St := ⟨slotsOf 252 [(2, pt 0), (5, one (.ro TP xs n)), (6, one (.ro TP zs n))], [pB b c]⟩
theorem z1 (b c : Int) (n : Nat) (xs zs : List TD) : endT Tryd.prog Tryd.f3 [] [true, true, true, true] (r K10 (stZ b c n xs zs)) =
    some ([redB zs n, snB (WF b c ((xs.take n).map nP)).1.l (WF b c ((zs.take n).map nR)).1.l (WF b c ((xs.take n).map nP)).1.l.length (WF b c ((zs.take n).map nR)).1.l.length, true,
      snB (WF b c ((xs.take n).map nP)).1.rr (WF b c ((zs.take n).map nR)).1.rr (WF b c ((xs.take n).map nP)).1.rr.length (WF b c ((zs.take n).map nR)).1.rr.length], .one (.c (.bool false true)), []) := by kernel_rfl
end L14
end Go.Sc

namespace Go.Sc
open Go Go.SX Go.Proofs
open L14 (pB y oE rE tw)

structure Mdl (E0 Eb : Env) (b c : Int) (ts : List TD) (n : Nat) (qs : List Qd) : Prop where
  x : Ext E0 Eb
  h : RepH G0 Eb
  b0 : getB Eb.H 0 = pB b c
  b1 : getB Eb.H 1 = .arr TPr (osL ts qs) 0 []
  b2 : getB Eb.H 2 = .arr TPr (rsL ts qs) 0 []
  kept : Kept E0.w.heap.size Eb (flat qs)
  len : qs.length = n
  fit : ∀ j (h : j < qs.length), (qs[j]).fit (y ts j)
theorem Mdl.l0 {E0 Eb : Env} {b c : Int} {ts : List TD} {n : Nat} {qs : List Qd} (m : Mdl E0 Eb b c ts n qs) : live (getB Eb.H 0) = true := by rw [m.b0]; rfl
theorem Mdl.l1 {E0 Eb : Env} {b c : Int} {ts : List TD} {n : Nat} {qs : List Qd} (m : Mdl E0 Eb b c ts n qs) : live (getB Eb.H 1) = true := by rw [m.b1]; rfl
theorem Mdl.l2 {E0 Eb : Env} {b c : Int} {ts : List TD} {n : Nat} {qs : List Qd} (m : Mdl E0 Eb b c ts n qs) : live (getB Eb.H 2) = true := by rw [m.b2]; rfl
def R2 (Eb : Env) (qs : List Qd) (k : Nat) : Prop := Eb.R k ∨ Eb.β 1 = some k ∨ Eb.β 2 = some k ∨ ∃ s ∈ flat qs, s.blk = some k
def lay2 (Eb : Env) (b c : Int) (ts : List TD) (qs : List Qd) : Env := mkE Eb.w [pB b c, .frz TP (oxL ts qs), .frz TP (rxL ts qs)] [Eb.β 0, Eb.β 1, Eb.β 2] (R2 Eb qs)
theorem lay2_live {b c : Int} {xs zs : List TD} {j : Nat} (h : live (getB [pB b c, .frz TP xs, .frz TP zs] j) = true) : j = 0 := by
  match j, h with
  | 0, _ => rfl
  | 1, h => cases h
  | 2, h => cases h
  | j + 3, h => cases h
theorem Mdl.lt {E0 Eb : Env} {b c : Int} {ts : List TD} {n : Nat} {qs : List Qd} (m : Mdl E0 Eb b c ts n qs) {k : Nat} (hk : R2 Eb qs k) : k < Eb.w.heap.size ∧ Eb.β 0 ≠ some k := by
  rcases hk with hk | hk | hk | ⟨s, hs, hk⟩
  · exact ⟨(m.h.ro k hk).1, (m.h.ro k hk).2 0 m.l0⟩
  · exact ⟨m.h.lt m.l1 hk, fun h => absurd (m.h.inj 0 1 k m.l0 m.l1 h hk) (by decide)⟩
  · exact ⟨m.h.lt m.l2 hk, fun h => absurd (m.h.inj 0 2 k m.l0 m.l2 h hk) (by decide)⟩
  · have := (m.kept.at_ s hs).2 k hk
    exact ⟨this.2.1, this.2.2.2 0 m.l0⟩
theorem mid_rep {E0 Eb : Env} {b c : Int} {ts : List TD} {n : Nat} {qs : List Qd} (m : Mdl E0 Eb b c ts n qs) : RepH G0 (lay2 Eb b c ts qs) := by
  have hs : ∀ s ∈ flat qs, s.In (lay2 Eb b c ts qs).w ∧ ∀ k, s.blk = some k → (lay2 Eb b c ts qs).R k := fun s hs => ⟨(m.kept.at_ s hs).1, fun k hk => .inr (.inr (.inr ⟨s, hs, hk⟩))⟩
  refine mkE_rep m.h (fun k h => .inl h) (fun k hk => ⟨(m.lt hk).1, fun j hj => ?_⟩) (fun j j' k hj hj' _ _ => (lay2_live hj).trans (lay2_live hj').symm) (fun j hj => ?_)
  · obtain rfl := lay2_live hj
    exact (m.lt hk).2
  · match j, hj with
    | 0, _ =>
      have r0 := m.h.blk 0
      rw [m.b0] at r0
      exact r0
    | 1, _ =>
      have r1 := m.h.blk 1
      rw [m.b1] at r1
      obtain ⟨_, _, r1⟩ := r1
      refine ⟨by decide, ?_⟩
      rcases r1 with ⟨hn, he⟩ | ⟨k, cc, e, fz, o1, o2, o3, o4⟩
      · exact .inl ⟨hn, List.eq_nil_of_length_eq_zero (by rw [oxL_len, ← osL_len ts qs]; exact congrArg List.length he)⟩
      · refine .inr ⟨k, cc, e, fz, o1, o2, rows_show_o (E' := lay2 Eb b c ts qs) o4 hs, fun j' hl hj' => ?_⟩
        obtain rfl := lay2_live hl
        exact absurd (m.h.inj 0 1 k m.l0 m.l1 hj' o1) (by decide)
    | 2, _ =>
      have r1 := m.h.blk 2
      rw [m.b2] at r1
      obtain ⟨_, _, r1⟩ := r1
      refine ⟨by decide, ?_⟩
      rcases r1 with ⟨hn, he⟩ | ⟨k, cc, e, fz, o1, o2, o3, o4⟩
      · exact .inl ⟨hn, List.eq_nil_of_length_eq_zero (by rw [rxL_len, ← rsL_len ts qs]; exact congrArg List.length he)⟩
      · refine .inr ⟨k, cc, e, fz, o1, o2, rows_show_r (E' := lay2 Eb b c ts qs) o4 hs, fun j' hl hj' => ?_⟩
        obtain rfl := lay2_live hl
        exact absurd (m.h.inj 0 2 k m.l0 m.l2 hj' o1) (by decide)
theorem Mdl.new {E0 Eb : Env} {b c : Int} {ts : List TD} {n : Nat} {qs : List Qd} (m : Mdl E0 Eb b c ts n qs) (h0 : E0.H = []) {k : Nat} (hk : R2 Eb qs k) : Eb.R k ∨ E0.w.heap.size ≤ k := by
  rcases hk with hk | hk | hk | ⟨s, hs, hk⟩
  · exact .inl hk
  · exact .inr (live_new m.x h0 m.l1 hk)
  · exact .inr (live_new m.x h0 m.l2 hk)
  · exact .inr ((m.kept.at_ s hs).2 k hk).1
theorem mid_ext {E0 Eb : Env} {b c : Int} {ts : List TD} {n : Nat} {qs : List Qd} (m : Mdl E0 Eb b c ts n qs) (h0 : E0.H = []) : Ext E0 (lay2 Eb b c ts qs) :=
  mkE_ext m.x h0 (fun _ h => .inl h) (fun _ h => m.new h0 h) (fun j k hj hk => by
    obtain rfl := lay2_live hj
    exact live_new m.x h0 m.l0 hk)
theorem exit1 {E0 E : Env} {b c : Int} {ts : List TD} {n : Nat} {qs : List Qd} {a : Act} {F : Act → World → Prop} (h : J1 E0 b c ts n qs E a) (hq : qs.length = n)
    (hnext : ∀ Eb a', Mdl E0 Eb b c ts n qs → Rp G0 (lay2 Eb b c ts qs) (L14.st2 b c ts n (oxL ts qs) (rxL ts qs)) a' → ItemsWp Tryd.prog F L14.K2 a' Eb.w) : ItemsWp Tryd.prog F L14.K1 a E.w := by
  have hb := L14.b' b c ts n (osL ts qs) (rsL ts qs) qs.length qs.length
  rw [decide_eq_false (show ¬ (qs.length : Int) < n by omega)] at hb
  refine raw_run okP7 mx hb rfl h.rp (fun E' a' s' x hs' hlen hd hbk => ?_)
  simp only [List.map_cons, List.map_nil, List.cons.injEq, and_true] at hd hbk
  obtain ⟨d1, d2, d5, d6⟩ := hd
  obtain ⟨k0, k1, k2⟩ := hbk
  have hE := hs'.h
  rw [← hs'.eq] at k0 k1 k2
  have m : Mdl E0 E' b c ts n qs := ⟨h.x.trans x, hE, k0, k1, k2, h.kept.ext rfl rfl x, hq, h.fit⟩
  refine hnext E' a' m ⟨mid_rep m, rfl, relTs_slots hlen ?_, hs'.d⟩
  have s1 := hs'.get 1
  have s2 := hs'.get 2
  have s5 := hs'.get 5
  have s6 := hs'.get 6
  rw [d1] at s1
  rw [d2] at s2
  rw [d5] at s5
  rw [d6] at s6
  intro p hp
  simp only [List.mem_cons, List.not_mem_nil, or_false] at hp
  rcases hp with rfl | rfl | rfl | rfl
  · exact flat_ro (E := E') (t := TP) (xs := ts) (len := n) (fun _ h => .inl h) rfl s1
  · obtain ⟨u1, u2⟩ := s2
    refine ⟨u1, ?_⟩
    unfold RelPtr at u2 ⊢
    rw [k0] at u2
    exact u2
  · obtain ⟨u1, u2⟩ := s5
    refine ⟨u1, ?_⟩
    unfold RelSl at u2 ⊢
    rw [k1] at u2
    obtain ⟨ad, cap, e1, e2, e3, e4, e5⟩ := u2
    exact ⟨ad, cap, by rw [e1, hq], by rw [← hq]; exact e2, e3, by show 0 + n ≤ (oxL ts qs).length; rw [oxL_len]; omega, e5⟩
  · obtain ⟨u1, u2⟩ := s6
    refine ⟨u1, ?_⟩
    unfold RelSl at u2 ⊢
    rw [k2] at u2
    obtain ⟨ad, cap, e1, e2, e3, e4, e5⟩ := u2
    exact ⟨ad, cap, by rw [e1, hq], by rw [← hq]; exact e2, e3, by show 0 + n ≤ (rxL ts qs).length; rw [rxL_len]; omega, e5⟩

theorem neB_self (x : List Int) : L14.neB x x = true := by unfold L14.neB; simp
theorem snB_self {xs : List (List Int)} (h : xs.length ≤ 1048500) : snB xs xs xs.length xs.length = true := decide_eq_true ⟨rfl, by omega, Nat.le_refl _, rfl⟩
theorem mids {E2 : Env} (hl : E2.H.length = 3) {F : Act → World → Prop} {b c : Int} {ts : List TD} {n : Nat} {xs zs : List TD} (hn : n ≤ 1048575) (hw : (zs.take n).map nR = (xs.take n).map nP) (hred : L14.redB zs n = true) (hst : ∀ i, i < n → L14.stay1 xs ts i = true)
    (h1 : (WF b c ((xs.take n).map nP)).1.l.length ≤ 1048500) (h2 : (WF b c ((xs.take n).map nP)).1.rr.length ≤ 1048500)
    (hend : RunsAt Tryd.prog P7 E2 F L14.K8 (L14.stH b c ts n xs zs (0 : Nat))) : RunsAt Tryd.prog P7 E2 F L14.K2 (L14.st2 b c ts n xs zs) := by
  have ids : ∀ l : List Nat, idsOk 3 l = true → idsOk E2.H.length l = true := fun l h => by rw [hl]; exact h
  refine RunsAt.piece okP7 mx (L14.d1 b c ts n xs zs) (by rw [hred]) (ids _ (by rfl)) ?_
  rw [hw]
  generalize (WF b c ((xs.take n).map nP)).2 = e
  generalize hWF : (WF b c ((xs.take n).map nP)).1 = w at h1 h2
  refine RunsAt.loop (st := fun i => L14.stD b c ts n xs zs w w e e i) (n := n) (fun i hi hr => ?_) ?_ n 0 (by omega)
  · have hb := L14.d2 b c ts n xs zs w w e e i
    rw [iwk (by omega), decide_eq_true (by omega), decide_eq_true (by omega), hst i hi] at hb
    exact RunsAt.piece okP7 mx hb rfl (ids _ (by rfl)) hr
  refine RunsAt.piece okP7 mx (L14.d3 b c ts n xs zs w w e e n) (by rw [decide_eq_false (by omega), neB_self, neB_self, neB_self, neB_self, snB_self h1, snB_self h2, bne_self_eq_false]; rfl) (ids _ (by rfl)) ?_
  refine RunsAt.piece okP7 mx (L14.d4 b c ts n xs zs w w) rfl (ids _ (by rfl)) ?_
  rw [hWF]
  have hb5 := L14.d5 b c ts n xs zs w w w
  have hap : L14.apB w w = true := by
    unfold L14.apB
    rw [decide_eq_true_eq]
    exact ⟨⟨rfl, rfl, rfl, rfl⟩, h1, h2, h1, h2⟩
  rw [snB_self h1, snB_self h2, hap] at hb5
  refine RunsAt.piece okP7 mx hb5 rfl (ids _ (by rfl)) ?_
  refine RunsAt.piece okP7 mx (L14.d6 b c ts n xs zs) rfl (ids _ (by rfl)) ?_
  refine RunsAt.loop (st := fun i => L14.stG b c ts n xs zs i) (n := n) (fun i hi hr => ?_) ?_ n 0 (by omega)
  · have hb := L14.d7 b c ts n xs zs i
    rw [iwk (by omega), decide_eq_true (by omega), decide_eq_true (by omega), hst i hi] at hb
    exact RunsAt.piece okP7 mx hb rfl (ids _ (by rfl)) hr
  exact RunsAt.piece okP7 mx (L14.d8 b c ts n xs zs n) (by rw [decide_eq_false (by omega)]) (ids _ (by rfl)) hend
end Go.Sc

namespace Go.Sc
open Go Go.SX Go.Proofs
open L14 (pB y oE rE tw)

theorem slots_len {n : Nat} {l : List (Nat × SV)} : (slotsOf n l).length = n := by simp [slotsOf]
def R4 (Eb : Env) (k : Nat) : Prop := Eb.R k ∨ Eb.β 1 = some k ∨ Eb.β 2 = some k
theorem R4.r2 {Eb : Env} {qs : List Qd} {k : Nat} (h : R4 Eb k) : R2 Eb qs k := by
  rcases h with h | h | h
  · exact .inl h
  · exact .inr (.inl h)
  · exact .inr (.inr (.inl h))
/-- the k-th element, written over -/
def bump1 (us : List (List Int)) (k : Nat) : List (List Int) := us.set (0 + (k : Int).toNat) (add (us.getD (0 + (k : Int).toNat) z4) (L14.kI k))
def bm : Nat → List (List Int) → List (List Int)
  | 0, us => us
  | k + 1, us => bump1 (bm k us) k
def bmB (d : Bool) (k : Nat) (us : List (List Int)) : List (List Int) :=
  match d with
  | true => bm k us
  | false => us
def FitB (t : TD) (d : Bool) (q : Qd) : Prop :=
  (q.ol.len = t.2.2.2.2.1.2 ∧ q.ol.xs = bmB d t.2.2.2.2.1.2 (tw t.2.2.2.2.1 m77)) ∧ (q.or.len = t.2.2.2.2.2.1.2 ∧ q.or.xs = tw t.2.2.2.2.2.1 m78) ∧
  (q.rl.len = t.2.2.2.2.1.2 ∧ q.rl.xs = bmB d t.2.2.2.2.1.2 ((t.2.2.2.2.1.1.take t.2.2.2.2.1.2).map lim)) ∧ (q.rr.len = t.2.2.2.2.2.1.2 ∧ q.rr.xs = (t.2.2.2.2.2.1.1.take t.2.2.2.2.2.1.2).map lim)
structure J4 (E0 : Env) (b c : Int) (ts : List TD) (n : Nat) (qs : List Qd) (i : Nat) (E : Env) (a : Act) : Prop where
  x : Ext E0 E
  rp : Rp G0 E (L14.stO b c n (osL ts qs) (rsL ts qs) i) a
  kept : Kept E0.w.heap.size E (flat qs)
  len : qs.length = n
  fit : ∀ j (h : j < qs.length), FitB (y ts j) (decide (j < i)) qs[j]
theorem frz_ro {Eb E8 E9 : Env} (hEb : RepH G0 Eb) {j n : Nat} {L : List TR} {lx : List TD} (hj : getB Eb.H j = .arr TPr L 0 []) (hL : L.length = n) (hraw : ∀ d ∈ L, Raw d) (hpos : 0 < n) (h8 : getB E8.H j = .frz TP lx) (hβ : E8.β j = Eb.β j)
    (hheap : ∀ k, Eb.β j = some k → E9.w.heap[k]? = Eb.w.heap[k]?) (hR : ∀ k, Eb.β j = some k → E9.R k) {v : Value} (hv : RelSl E8 j 0 n v) : RoSl E9 TPr.size (RoT E9 TPr) L n v := by
  unfold RelSl at hv
  rw [h8] at hv
  obtain ⟨ad, cap, e1, e2, e3, e4, e5⟩ := hv
  rcases e5 with ⟨_, e5⟩ | ⟨k, cc, e, fz, g1, g2, g3, g4⟩
  · omega
  · have hk : Eb.β j = some k := hβ ▸ g1
    have hr := hEb.blk j
    rw [hj] at hr
    obtain ⟨_, _, hr⟩ := hr
    rcases hr with ⟨hn, _⟩ | ⟨k', c', e', fz', q1, q2, q3, q4⟩
    · rw [hk] at hn; cases hn
    · rw [hk] at q1
      obtain rfl := Option.some.inj q1
      refine ⟨ad, cap, e1, Nat.le_of_eq hL.symm, Nat.le_trans (Nat.le_of_eq hL) e2, e3, by decide, fun _ => ⟨k, 0, c', e', fz', ?_, hR k hk, (hheap k hk).trans q2, rows_mem q4 fun d hd us hu => raw_rot (hraw d hd) hu⟩⟩
      rcases g2 with g2 | g2
      · omega
      · rw [g2, Nat.zero_mul]
theorem gone_live {b c : Int} {j : Nat} (h : live (getB [.gone, .gone, pB b c, .gone] j) = true) : j = 2 := by
  match j, h with
  | 0, h => cases h
  | 1, h => cases h
  | 2, _ => rfl
  | 3, h => cases h
  | j + 4, h => cases h
theorem enter4 {E0 Eb E8 : Env} {b c : Int} {ts : List TD} {n : Nat} {qs : List Qd} {a : Act} (h0 : E0.H = []) (m : Mdl E0 Eb b c ts n qs) (hn : n ≤ ts.length) (hpos : 0 < n) (x8 : Ext (lay2 Eb b c ts qs) E8)
    (h8 : Rp G0 E8 (L14.stH b c ts n (oxL ts qs) (rxL ts qs) (0 : Nat)) a) : ∃ E9, E9.w = E8.w ∧ J4 E0 b c ts n qs 0 E9 a := by
  have hE8 := h8.h
  have b0 : getB E8.H 0 = pB b c := by rw [h8.eq]; rfl
  have b1 : getB E8.H 1 = .frz TP (oxL ts qs) := by rw [h8.eq]; rfl
  have b2 : getB E8.H 2 = .frz TP (rxL ts qs) := by rw [h8.eq]; rfl
  have l0 : live (getB E8.H 0) = true := by rw [b0]; rfl
  have y1 : E8.β 1 = Eb.β 1 := by
    have := x8.blk 1
    rw [b1] at this
    exact this.2.2
  have y2 : E8.β 2 = Eb.β 2 := by
    have := x8.blk 2
    rw [b2] at this
    exact this.2.2
  have hsub : ∀ k, R2 Eb qs k → E8.R k := fun k hk => x8.ro k hk
  have hheap : ∀ k, R2 Eb qs k → E8.w.heap[k]? = Eb.w.heap[k]? := fun k hk => roHeap (mid_rep m) x8 hk
  have hsz : Eb.w.heap.size ≤ E8.w.heap.size := x8.size
  let E9 : Env := mkE E8.w [.gone, .gone, pB b c, .gone] [none, none, E8.β 0, none] (R4 Eb)
  have hrep : RepH G0 E9 := by
    refine lay_rep m.h (fun k hk => ⟨.inl hk, hheap k (.inl hk)⟩) (fun k hk => ⟨Nat.lt_of_lt_of_le (m.lt hk.r2).1 hsz, fun j hj => ?_⟩) (fun j j' k hj hj' _ _ => (gone_live hj).trans (gone_live hj').symm) (fun j hj => ?_)
    · obtain rfl := gone_live hj
      exact (hE8.ro k (hsub k hk.r2)).2 0 l0
    · match j, hj with
      | 0, _ => trivial
      | 1, _ => trivial
      | 2, _ =>
        have r0 := hE8.blk 0
        rw [b0] at r0
        exact r0
      | 3, _ => trivial
  have xx : Ext E0 E8 := (mid_ext m h0).trans x8
  refine ⟨E9, rfl, lay_ext xx h0 (fun k hk => .inl (m.x.ro k hk)) (fun k hk => ?_) (fun j k hj hk => ?_), ⟨hrep, rfl, relTs_slots ((relTs_len h8.t).trans slots_len) ?_, h8.d⟩, ⟨m.kept.ap, fun s hs => ⟨(m.kept.at_ s hs).1.heap rfl rfl fun k hk => hheap k (.inr (.inr (.inr ⟨s, hs, hk⟩))), fun k hk => ?_⟩⟩, m.len, m.fit⟩
  · rcases m.new h0 (R4.r2 (qs := qs) hk) with h | h
    · exact rnew0 m.x h0 h
    · exact .inr h
  · obtain rfl := gone_live hj
    exact live_new xx h0 l0 hk
  · have s1 : RelS E8 (one (.ro TP ts n)) _ := h8.get 1
    have s2 : RelS E8 (pt 0) _ := h8.get 2
    have s5 : RelS E8 (one (.sl 1 0 n)) _ := h8.get 5
    have s6 : RelS E8 (one (.sl 2 0 n)) _ := h8.get 6
    have s16 : RelS E8 (one (.int false .i64 (0 : Nat))) _ := h8.get 16
    intro p hp
    simp only [List.mem_cons, List.not_mem_nil, or_false] at hp
    rcases hp with rfl | rfl | rfl | rfl | rfl
    · obtain ⟨ad, cap, e1, e2, e3, e4, e5, e6⟩ := s1
      have hne : ts ≠ [] := by rintro rfl; simp at hn; omega
      obtain ⟨k, off, cc, e, fz, q1, _⟩ := e6 hne
      have e2 : n ≤ ts.length := e2
      have e3 : ts.length ≤ cap := e3
      show RelC E9 (.sl 3 0 n) _
      rw [e1]
      exact ⟨trivial, ad, cap, rfl, by omega, e4, .inr ⟨_, q1⟩⟩
    · obtain ⟨u1, u2⟩ := s2
      refine ⟨u1, ?_⟩
      unfold RelPtr at u2 ⊢
      rw [b0] at u2
      exact u2
    · exact frz_ro (E9 := E9) m.h m.b1 (by rw [osL_len, m.len]) (osL_raw ts qs) hpos b1 y1 (fun k hk => hheap k (.inr (.inl hk))) (fun k hk => .inr (.inl hk)) s5.2
    · exact frz_ro (E9 := E9) m.h m.b2 (by rw [rsL_len, m.len]) (rsL_raw ts qs) hpos b2 y2 (fun k hk => hheap k (.inr (.inr (.inl hk)))) (fun k hk => .inr (.inr hk)) s6.2
    · exact s16
  · have hf := (m.kept.at_ s hs).2 k hk
    refine ⟨hf.1, Nat.lt_of_lt_of_le hf.2.1 hsz, ?_, fun j hj => ?_⟩
    · rintro (h | h | h)
      · exact hf.2.2.1 h
      · exact hf.2.2.2 1 m.l1 h
      · exact hf.2.2.2 2 m.l2 h
    · obtain rfl := gone_live hj
      exact (hE8.ro k (hsub k (.inr (.inr (.inr ⟨s, hs, hk⟩))))).2 0 l0
end Go.Sc

namespace Go.Sc
open Go Go.SX Go.Proofs
open L14 (pB y oE rE tw)

/-! ### Lists in blocks of their own -/
def Cq (p q : Qd) : Prop := ∀ x ∈ p.l, ∀ z ∈ q.l, ∀ k, x.blk = some k → z.blk ≠ some k
theorem apart_iff {qs : List Qd} : ApartS (flat qs) ↔ (∀ q ∈ qs, ApartS q.l) ∧ ∀ j j' (h : j < qs.length) (h' : j' < qs.length), j < j' → Cq qs[j] qs[j'] := by
  unfold ApartS flat
  rw [List.pairwise_flatMap, List.pairwise_iff_getElem]
  exact Iff.rfl
theorem apart_ne {qs : List Qd} (h : ApartS (flat qs)) {i j : Nat} (hi : i < qs.length) (hj : j < qs.length) (hne : j ≠ i) {s s' : Slc WS} (hs : s ∈ qs[j].l) (hs' : s' ∈ qs[i].l) : ∀ k, s.blk = some k → s'.blk ≠ some k := fun k hk hk' => by
  rcases Nat.lt_or_gt_of_ne hne with h1 | h1
  · exact (apart_iff.1 h).2 j i hj hi h1 s hs s' hs' k hk hk'
  · exact (apart_iff.1 h).2 i j hi hj h1 s' hs' s hs k hk' hk
theorem apart_in {q : Qd} (h : ApartS q.l) : (∀ k, q.ol.blk = some k → q.or.blk ≠ some k) ∧ (∀ k, q.ol.blk = some k → q.rl.blk ≠ some k) ∧ (∀ k, q.ol.blk = some k → q.rr.blk ≠ some k) ∧ (∀ k, q.or.blk = some k → q.rl.blk ≠ some k) ∧ (∀ k, q.or.blk = some k → q.rr.blk ≠ some k) ∧ ∀ k, q.rl.blk = some k → q.rr.blk ≠ some k := by
  unfold ApartS Qd.l at h
  simp only [List.pairwise_cons, List.mem_cons, List.not_mem_nil, or_false] at h
  obtain ⟨h1, h2, h3, _⟩ := h
  exact ⟨h1 _ (.inl rfl), h1 _ (.inr (.inl rfl)), h1 _ (.inr (.inr rfl)), h2 _ (.inl rfl), h2 _ (.inr rfl), h3 _ rfl⟩
def BSub (s s' : Slc WS) : Prop := ∀ k, s.blk = some k → s'.blk = some k
/-- a pair of lists that was taken up and laid down -/
def Qd.new (q : Qd) (ol rl : Slc WS) : Qd := ⟨ol, q.or, rl, q.rr⟩
theorem new_mem {q : Qd} {ol rl : Slc WS} (h1 : BSub ol q.ol) (h2 : BSub rl q.rl) : ∀ s ∈ (q.new ol rl).l, ∃ s' ∈ q.l, BSub s s' := fun s hs => by
  simp only [Qd.l, Qd.new, List.mem_cons, List.not_mem_nil, or_false] at hs
  rcases hs with rfl | rfl | rfl | rfl
  · exact ⟨q.ol, by simp [Qd.l], h1⟩
  · exact ⟨q.or, by simp [Qd.l], fun _ h => h⟩
  · exact ⟨q.rl, by simp [Qd.l], h2⟩
  · exact ⟨q.rr, by simp [Qd.l], fun _ h => h⟩
theorem new_apart {q : Qd} {ol rl : Slc WS} (h1 : BSub ol q.ol) (h2 : BSub rl q.rl) (h : ApartS q.l) : ApartS (q.new ol rl).l := by
  obtain ⟨a1, a2, a3, a4, a5, a6⟩ := apart_in h
  unfold ApartS Qd.l Qd.new
  simp only [List.pairwise_cons, List.mem_cons, List.not_mem_nil, or_false]
  refine ⟨fun s hs => ?_, fun s hs => ?_, fun s hs => ?_, fun s hs => hs.elim, List.Pairwise.nil⟩
  · rcases hs with rfl | rfl | rfl
    · exact fun k hk => a1 k (h1 k hk)
    · exact fun k hk hk' => a2 k (h1 k hk) (h2 k hk')
    · exact fun k hk => a3 k (h1 k hk)
  · rcases hs with rfl | rfl
    · exact fun k hk hk' => a4 k hk (h2 k hk')
    · exact a5
  · subst hs
    exact fun k hk => a6 k (h2 k hk)
theorem set_apart {qs : List Qd} {i : Nat} (hi : i < qs.length) {ol rl : Slc WS} (h1 : BSub ol qs[i].ol) (h2 : BSub rl qs[i].rl) (h : ApartS (flat qs)) : ApartS (flat (qs.set i (qs[i].new ol rl))) := by
  obtain ⟨ha, hc⟩ := apart_iff.1 h
  refine apart_iff.2 ⟨fun q hq => ?_, fun j j' hj hj' hlt x hx z hz k hk hk' => ?_⟩
  · obtain ⟨j, hj, rfl⟩ := List.getElem_of_mem hq
    rw [List.getElem_set]
    split
    · exact new_apart h1 h2 (ha _ (List.getElem_mem _))
    · exact ha _ (List.getElem_mem _)
  · rw [List.length_set] at hj hj'
    rw [List.getElem_set] at hx hz
    by_cases e : i = j
    · rw [if_pos e] at hx
      rw [if_neg (by omega)] at hz
      obtain ⟨x', m, hb⟩ := new_mem h1 h2 x hx
      subst e
      exact hc i j' hj hj' hlt x' m z hz k (hb k hk) hk'
    · rw [if_neg e] at hx
      by_cases e' : i = j'
      · rw [if_pos e'] at hz
        obtain ⟨z', m, hb⟩ := new_mem h1 h2 z hz
        subst e'
        exact hc j i hj hj' hlt x hx z' m k hk (hb k hk')
      · rw [if_neg e'] at hz
        exact hc j j' hj hj' hlt x hx z hz k hk hk'
theorem set_mem {qs : List Qd} {i : Nat} {q' : Qd} {s : Slc WS} (h : s ∈ flat (qs.set i q')) : s ∈ q'.l ∨ ∃ j, ∃ hj : j < qs.length, j ≠ i ∧ s ∈ qs[j].l := by
  obtain ⟨q, hq, hs⟩ := List.mem_flatMap.1 h
  obtain ⟨j, hj, rfl⟩ := List.getElem_of_mem hq
  rw [List.length_set] at hj
  rw [List.getElem_set] at hs
  split at hs
  · exact .inl hs
  · exact .inr ⟨j, hj, by omega, hs⟩

/-! ### Entries that bear the lists that are taken up -/
def Bel (d : TR) : Prop := d.2.2.2.2.1.below 4 ∧ d.2.2.2.2.2.1.below 4
theorem raw_bel {d : TR} (h : Raw d) : Bel d := by
  obtain ⟨⟨_, _, _, h1⟩, _, _, _, h2⟩ := h
  exact ⟨by rw [h1]; trivial, by rw [h2]; trivial⟩
theorem bel_rot {E E' : Env} {d : TR} {us : List Value} (h : Bel d) (hw : E'.w = E.w) (hB : ∀ b, b < 4 → getB E'.H b = getB E.H b ∧ E'.β b = E.β b) (hr : RoT E TPr d us) : RoT E' TPr d us := by
  obtain ⟨v1, u1, e1, q1, v2, u2, e2, q2, v3, u3, e3, q3, v4, u4, e4, q4, v5, u5, e5, ⟨v, e6, q6⟩, v6, u6, e7, ⟨v', e8, q8⟩, q9⟩ := hr
  exact ⟨v1, u1, e1, q1, v2, u2, e2, q2, v3, u3, e3, q3, v4, u4, e4, q4, v5, u5, e5, ⟨v, e6, RelRef.same h.1 hw hB q6⟩, v6, u6, e7, ⟨v', e8, RelRef.same h.2 hw hB q8⟩, q9⟩
theorem bel_ro {E E' : Env} {L : List TR} {n : Nat} {v : Value} (h : ∀ d ∈ L, Bel d) (hw : E'.w = E.w) (hR : ∀ k, E.R k → E'.R k) (hB : ∀ b, b < 4 → getB E'.H b = getB E.H b ∧ E'.β b = E.β b) (hr : RoSl E TPr.size (RoT E TPr) L n v) : RoSl E' TPr.size (RoT E' TPr) L n v := by
  obtain ⟨a, cap, h1, h2, h3, h4, h5, h6⟩ := hr
  refine ⟨a, cap, h1, h2, h3, h4, h5, fun hne => ?_⟩
  obtain ⟨k, off, c, e, fz, g1, g2, g3, g4⟩ := h6 hne
  exact ⟨k, off, c, e, fz, g1, hR k g2, by rw [hw]; exact g3, rows_mem g4 fun d hd us hu => bel_rot (h d hd) hw hB hu⟩
/-- one entry is another -/
theorem set_ro {E : Env} {L : List TR} {i n : Nat} {v : Value} (hi : i < L.length) (hr : RoSl E TPr.size (RoT E TPr) L n v) : ∃ us, RoT E TPr (L[i] : TR) us ∧
    ∀ (E' : Env) (e' : TR), E'.w = E.w → (∀ k, E.R k → E'.R k) → (∀ j (h : j < L.length), j ≠ i → ∀ us, RoT E TPr (L[j] : TR) us → RoT E' TPr (L[j] : TR) us) → RoT E' TPr e' us → RoSl E' TPr.size (RoT E' TPr) (L.set i e') n v := by
  obtain ⟨a, cap, h1, h2, h3, h4, h5, h6⟩ := hr
  obtain ⟨k, off, c, e, fz, g1, g2, g3, g4⟩ := h6 (List.ne_nil_of_length_pos (Nat.lt_of_le_of_lt (Nat.zero_le _) hi))
  obtain ⟨us0, p1, p2, p3⟩ := g4 i hi
  refine ⟨us0, p1, fun E' e' hw hR ho he => ?_⟩
  refine ⟨a, cap, h1, by show n ≤ List.length (List.set L i e'); rw [List.length_set]; exact h2, by show List.length (List.set L i e') ≤ cap; rw [List.length_set]; exact h3, h4, h5, fun _ => ?_⟩
  refine ⟨k, off, c, e, fz, g1, hR k g2, by rw [hw]; exact g3, fun j hj => ?_⟩
  have hj' : j < L.length := by
    have hj : j < (L.set i e').length := hj
    rwa [List.length_set] at hj
  have e1 : ((L.set i e')[j]'hj : TR) = if i = j then e' else L[j] := List.getElem_set ..
  by_cases hij : i = j
  · subst hij
    refine ⟨us0, ?_, p2, p3⟩
    refine (congrArg (fun d : TR => RoT E' TPr d us0) (e1.trans (if_pos rfl))).mpr he
  · obtain ⟨us, q1, q2, q3⟩ := g4 j hj'
    exact ⟨us, (congrArg (fun d : TR => RoT E' TPr d us) (e1.trans (if_neg hij))).mpr (ho j hj' (fun h => hij h.symm) us q1), q2, q3⟩
end Go.Sc

namespace Go.Sc
open Go Go.SX Go.Proofs
open L14 (pB y oE rE tw)

def HU (b c : Int) (us vs : List (List Int)) : Heap := [.arr WS us 0 [], .arr WS vs 0 [], pB b c, .gone]
theorem HU_live {b c : Int} {us vs : List (List Int)} {j : Nat} (h : live (getB (HU b c us vs) j) = true) : j = 0 ∨ j = 1 ∨ j = 2 := by
  match j, h with
  | 0, _ => exact .inl rfl
  | 1, _ => exact .inr (.inl rfl)
  | 2, _ => exact .inr (.inr rfl)
  | 3, h => cases h
  | j + 4, h => cases h
def osI (ts : List TD) (qs : List Qd) (i : Nat) (q : Qd) : List TR := (osL ts qs).set i (oE (y ts i) (.own 0 0 q.ol.len) q.or.raw)
def rsI (ts : List TD) (qs : List Qd) (i : Nat) (q : Qd) : List TR := (rsL ts qs).set i (rE (y ts i) (.own 1 0 q.rl.len) q.rr.raw)
def up (E : Env) (b c : Int) (q : Qd) : Env := mkE E.w (HU b c q.ol.xs q.rl.xs) [q.ol.blk, q.rl.blk, E.β 2, none] E.R
theorem up_rot {E E' : Env} {a r t1 t2 : List Int} {sl sr : Slc WS} {d : Nat} {us : List Value} (hs : sl.In E'.w) (hb : getB E'.H d = .arr WS sl.xs 0 []) (hβ : E'.β d = sl.blk) (hr : RoT E TPr ((a, r, t1, t2, sl.raw, sr.raw, ()) : TR) us) :
    RoT E' TPr ((a, r, t1, t2, .own d 0 sl.len, sr.raw, ()) : TR) us := by
  obtain ⟨v1, u1, e1, q1, v2, u2, e2, q2, v3, u3, e3, q3, v4, u4, e4, q4, v5, u5, e5, ⟨v, e6, q6⟩, v6, u6, e7, ⟨v', e8, q8⟩, q9⟩ := hr
  have q6 : v = .slice sl.a sl.len sl.cap := q6
  exact ⟨v1, u1, e1, q1, v2, u2, e2, q2, v3, u3, e3, q3, v4, u4, e4, q4, v5, u5, e5, ⟨v, e6, by rw [q6]; trivial, by rw [q6]; exact Slc.relSl hs hb hβ⟩, v6, u6, e7, ⟨v', e8, q8⟩, q9⟩
/-- the entry's first list, laid down -/
theorem down_rot {E : Env} (hE : RepH G0 E) {a r t1 t2 : List Int} {sr : Slc WS} {d n : Nat} {xs : List (List Int)} {us : List Value} (hb : getB E.H d = .arr WS xs 0 []) (hr : RoT E TPr ((a, r, t1, t2, .own d 0 n, sr.raw, ()) : TR) us) :
    ∃ sl : Slc WS, sl.len = n ∧ sl.xs = xs ∧ sl.In E.w ∧ (∀ k, sl.blk = some k → E.β d = some k) ∧ ∀ E', RoT E' TPr ((a, r, t1, t2, sl.raw, sr.raw, ()) : TR) us := by
  obtain ⟨v1, u1, e1, q1, v2, u2, e2, q2, v3, u3, e3, q3, v4, u4, e4, q4, v5, u5, e5, ⟨v, e6, q6⟩, v6, u6, e7, ⟨v', e8, q8⟩, q9⟩ := hr
  obtain ⟨sl, g1, g2, g3, g4, g5⟩ := Slc.of_own (lo := 0) rfl rfl hE hb q6.2
  exact ⟨sl, g1, g2, g4, g5, fun E' => ⟨v1, u1, e1, q1, v2, u2, e2, q2, v3, u3, e3, q3, v4, u4, e4, q4, v5, u5, e5, ⟨v, e6, g3⟩, v6, u6, e7, ⟨v', e8, q8⟩, q9⟩⟩
theorem osI_get {ts : List TD} {qs : List Qd} {i : Nat} {q : Qd} (h : i < (osI ts qs i q).length) : (osI ts qs i q)[i] = oE (y ts i) (.own 0 0 q.ol.len) q.or.raw := by simp [osI]
theorem rsI_get {ts : List TD} {qs : List Qd} {i : Nat} {q : Qd} (h : i < (rsI ts qs i q).length) : (rsI ts qs i q)[i] = rE (y ts i) (.own 1 0 q.rl.len) q.rr.raw := by simp [rsI]
theorem osI_len {ts : List TD} {qs : List Qd} {i : Nat} {q : Qd} : (osI ts qs i q).length = qs.length := by unfold osI; rw [List.length_set, osL_len]
theorem rsI_len {ts : List TD} {qs : List Qd} {i : Nat} {q : Qd} : (rsI ts qs i q).length = qs.length := by unfold rsI; rw [List.length_set, rsL_len]
theorem osI_raw {ts : List TD} {qs : List Qd} {i j : Nat} {q : Qd} (h : j < (osI ts qs i q).length) (hne : j ≠ i) : Raw (osI ts qs i q)[j] := by
  have : (osI ts qs i q)[j] = (osL ts qs)[j]'(by rw [osL_len]; rw [osI_len] at h; exact h) := by simp [osI, List.getElem_set, Ne.symm hne]
  rw [this]; exact osL_raw ts qs _ (List.getElem_mem _)
theorem rsI_raw {ts : List TD} {qs : List Qd} {i j : Nat} {q : Qd} (h : j < (rsI ts qs i q).length) (hne : j ≠ i) : Raw (rsI ts qs i q)[j] := by
  have : (rsI ts qs i q)[j] = (rsL ts qs)[j]'(by rw [rsL_len]; rw [rsI_len] at h; exact h) := by simp [rsI, List.getElem_set, Ne.symm hne]
  rw [this]; exact rsL_raw ts qs _ (List.getElem_mem _)
theorem osI_bel {ts : List TD} {qs : List Qd} {i : Nat} {q : Qd} : ∀ d ∈ osI ts qs i q, Bel d := fun d hd => by
  obtain ⟨j, hj, rfl⟩ := List.getElem_of_mem hd
  by_cases e : j = i
  · subst e
    rw [osI_get]
    exact ⟨by show 0 < 4; decide, trivial⟩
  · exact raw_bel (osI_raw hj e)
theorem rsI_bel {ts : List TD} {qs : List Qd} {i : Nat} {q : Qd} : ∀ d ∈ rsI ts qs i q, Bel d := fun d hd => by
  obtain ⟨j, hj, rfl⟩ := List.getElem_of_mem hd
  by_cases e : j = i
  · subst e
    rw [rsI_get]
    exact ⟨by show 1 < 4; decide, trivial⟩
  · exact raw_bel (rsI_raw hj e)
theorem osL_set {ts : List TD} {qs : List Qd} {i : Nat} {q q' : Qd} : osL ts (qs.set i q') = (osI ts qs i q).set i (oE (y ts i) q'.ol.raw q'.or.raw) := by
  unfold osI
  rw [List.set_set]
  apply List.ext_getElem
  · simp [osL_len]
  · intro j h1 h2
    rw [osL_get (by rw [osL_len] at h1; exact h1), List.getElem_set, List.getElem_set]
    split
    · rename_i e; subst e; rfl
    · rw [osL_get (by rw [osL_len, List.length_set] at h1; exact h1)]
theorem rsL_set {ts : List TD} {qs : List Qd} {i : Nat} {q q' : Qd} : rsL ts (qs.set i q') = (rsI ts qs i q).set i (rE (y ts i) q'.rl.raw q'.rr.raw) := by
  unfold rsI
  rw [List.set_set]
  apply List.ext_getElem
  · simp [rsL_len]
  · intro j h1 h2
    rw [rsL_get (by rw [rsL_len] at h1; exact h1), List.getElem_set, List.getElem_set]
    split
    · rename_i e; subst e; rfl
    · rw [rsL_get (by rw [rsL_len, List.length_set] at h1; exact h1)]

section
variable {E0 E : Env} {b c : Int} {ts : List TD} {n : Nat} {qs : List Qd} {i : Nat} {a : Act} (h0 : E0.H = []) (h : J4 E0 b c ts n qs i E a) (hi : i < qs.length)
include h

theorem J4.b2 : getB E.H 2 = pB b c := by rw [h.rp.eq]; rfl
theorem J4.b3 : getB E.H 3 = .gone := by rw [h.rp.eq]; rfl
theorem J4.l2 : live (getB E.H 2) = true := by rw [h.b2]; rfl
theorem J4.fl {j : Nat} (hj : j < qs.length) {s : Slc WS} (hs : s ∈ qs[j].l) : s.In E.w ∧ s.Free E0.w.heap.size E := h.kept.at_ s (List.mem_flatMap.2 ⟨_, List.getElem_mem hj, hs⟩)
include hi
theorem J4.fol : qs[i].ol.In E.w ∧ qs[i].ol.Free E0.w.heap.size E := h.fl hi (by simp [Qd.l])
theorem J4.frl : qs[i].rl.In E.w ∧ qs[i].rl.Free E0.w.heap.size E := h.fl hi (by simp [Qd.l])
theorem up_rep : RepH G0 (up E b c qs[i]) := by
  have ha := apart_in ((apart_iff.1 h.kept.ap).1 _ (List.getElem_mem hi))
  refine mkE_rep h.rp.h (fun _ h => h) (fun k hk => ⟨(h.rp.h.ro k hk).1, fun j hj => ?_⟩) (fun j j' k hj hj' hk hk' => ?_) (fun j hj => ?_)
  · rcases HU_live hj with rfl | rfl | rfl
    · exact fun hjk => ((h.fol hi).2 k hjk).2.2.1 hk
    · exact fun hjk => ((h.frl hi).2 k hjk).2.2.1 hk
    · exact (h.rp.h.ro k hk).2 2 h.l2
  · rcases HU_live hj with rfl | rfl | rfl <;> rcases HU_live hj' with rfl | rfl | rfl
    · rfl
    · exact (ha.2.1 k hk hk').elim
    · exact (((h.fol hi).2 k hk).2.2.2 2 h.l2 hk').elim
    · exact (ha.2.1 k hk' hk).elim
    · rfl
    · exact (((h.frl hi).2 k hk).2.2.2 2 h.l2 hk').elim
    · exact (((h.fol hi).2 k hk').2.2.2 2 h.l2 hk).elim
    · exact (((h.frl hi).2 k hk').2.2.2 2 h.l2 hk).elim
    · rfl
  · match j, hj with
    | 0, _ => exact Slc.rep (E := up E b c qs[i]) (h.fol hi).1 (by decide) rfl rfl rfl
    | 1, _ => exact Slc.rep (E := up E b c qs[i]) (h.frl hi).1 (by decide) rfl rfl rfl
    | 2, _ =>
      have r0 := h.rp.h.blk 2
      rw [h.b2] at r0
      exact r0
    | 3, _ => trivial
include h0
theorem up_ext : Ext E0 (up E b c qs[i]) := mkE_ext h.x h0 (fun _ h => h) (fun _ h => .inl h) (fun j k hj hk => by
  rcases HU_live hj with rfl | rfl | rfl
  · exact ((h.fol hi).2 k hk).1
  · exact ((h.frl hi).2 k hk).1
  · exact live_new h.x h0 h.l2 hk)
omit h0
theorem up_rp : Rp G0 (up E b c qs[i]) (L14.stU b c n (osI ts qs i qs[i]) (rsI ts qs i qs[i]) qs[i].ol.xs qs[i].rl.xs i) a := by
  refine ⟨up_rep h hi, rfl, relTs_slots ((relTs_len h.rp.t).trans slots_len) ?_, h.rp.d⟩
  have s1 : RelS E (one (.sl 3 0 n)) _ := h.rp.get 1
  have s2 : RelS E (pt 2) _ := h.rp.get 2
  have s5 : RelS E (one (.ro TPr (osL ts qs) n)) _ := h.rp.get 5
  have s6 : RelS E (one (.ro TPr (rsL ts qs) n)) _ := h.rp.get 6
  have s16 : RelS E (one (.int false .i64 i)) _ := h.rp.get 16
  have hio : i < (osL ts qs).length := by rw [osL_len]; exact hi
  have hir : i < (rsL ts qs).length := by rw [rsL_len]; exact hi
  intro p hp
  simp only [List.mem_cons, List.not_mem_nil, or_false] at hp
  rcases hp with rfl | rfl | rfl | rfl | rfl
  · obtain ⟨u1, u2⟩ := s1
    refine ⟨u1, ?_⟩
    unfold RelSl at u2 ⊢
    rw [h.b3] at u2
    exact u2
  · obtain ⟨u1, u2⟩ := s2
    refine ⟨u1, ?_⟩
    unfold RelPtr at u2 ⊢
    rw [h.b2] at u2
    exact u2
  · obtain ⟨us, g1, g2⟩ := set_ro hio s5
    refine g2 (up E b c qs[i]) _ rfl (fun _ h => h) (fun j hj _ us hu => raw_rot (osL_raw ts qs _ (List.getElem_mem hj)) hu) ?_
    exact up_rot (E := E) (sl := qs[i].ol) (sr := qs[i].or) (h.fol hi).1 rfl rfl ((congrArg (fun d : TR => RoT E TPr d us) (osL_get hi hio)).mp g1)
  · obtain ⟨us, g1, g2⟩ := set_ro hir s6
    refine g2 (up E b c qs[i]) _ rfl (fun _ h => h) (fun j hj _ us hu => raw_rot (rsL_raw ts qs _ (List.getElem_mem hj)) hu) ?_
    exact up_rot (E := E) (sl := qs[i].rl) (sr := qs[i].rr) (h.frl hi).1 rfl rfl ((congrArg (fun d : TR => RoT E TPr d us) (rsL_get hi hir)).mp g1)
  · exact s16
/-- all other lists -/
theorem up_free {s : Slc WS} (hs : s.Free E0.w.heap.size E) (h1 : ∀ k, s.blk = some k → qs[i].ol.blk ≠ some k) (h2 : ∀ k, s.blk = some k → qs[i].rl.blk ≠ some k) : s.Free E0.w.heap.size (up E b c qs[i]) := fun k hk => by
  obtain ⟨f1, f2, f3, f4⟩ := hs k hk
  refine ⟨f1, f2, f3, fun j hj => ?_⟩
  rcases HU_live hj with rfl | rfl | rfl
  · exact h1 k hk
  · exact h2 k hk
  · exact f4 2 h.l2
end

/-- a state behind a piece, its first blocks alone -/
theorem relay {E1 E' : Env} {s' : St} {a' : Act} {b c : Int} {n : Nat} {os rs : List TR} {us vs : List (List Int)} {i k : Int} {fl : Bool} (hl : E1.H.length = 4) (x : Ext E1 E') (hs' : Rp G0 E' s' a') (hlen : a'.tmps.toList.length = 252)
    (hd : [1, 2, 5, 6, 16, 17].map (getT s'.t) = [one (.sl 3 0 n), pt 2, one (.ro TPr os n), one (.ro TPr rs n), one (.int false .i64 i), one (.int fl .i64 k)]) (hb : [0, 1, 2, 3].map (getB s'.h) = HU b c us vs) (ho : ∀ d ∈ os, Bel d) (hr : ∀ d ∈ rs, Bel d) :
    ∃ E'', E''.w = E'.w ∧ Ext E1 E'' ∧ Rp G0 E'' (L14.stI b c n os rs us vs i k) a' := by
  simp only [List.map_cons, List.map_nil, List.cons.injEq, and_true, HU] at hd hb
  obtain ⟨d1, d2, d5, d6, d16, d17⟩ := hd
  obtain ⟨k0, k1, k2, k3⟩ := hb
  have hE := hs'.h
  rw [← hs'.eq] at k0 k1 k2 k3
  let E'' : Env := mkE E'.w (HU b c us vs) [E'.β 0, E'.β 1, E'.β 2, E'.β 3] E'.R
  have hB : ∀ j, j < 4 → getB (HU b c us vs) j = getB E'.H j ∧ ([E'.β 0, E'.β 1, E'.β 2, E'.β 3][j]?).getD none = E'.β j := fun j hj => by
    match j, hj with
    | 0, _ => exact ⟨k0.symm, rfl⟩
    | 1, _ => exact ⟨k1.symm, rfl⟩
    | 2, _ => exact ⟨k2.symm, rfl⟩
    | 3, _ => exact ⟨k3.symm, rfl⟩
  have hlv : ∀ j, live (getB (HU b c us vs) j) = true → live (getB E'.H j) = true ∧ ([E'.β 0, E'.β 1, E'.β 2, E'.β 3][j]?).getD none = E'.β j := fun j hj => by
    have h4 : j < 4 := by rcases HU_live hj with rfl | rfl | rfl <;> decide
    exact ⟨by rw [← (hB j h4).1]; exact hj, (hB j h4).2⟩
  have hrep : RepH G0 E'' := by
    refine mkE_rep hE (fun _ h => h) (fun k hk => ⟨(hE.ro k hk).1, fun j hj => ?_⟩) (fun j j' k hj hj' hk hk' => ?_) (fun j hj => ?_)
    · rw [(hlv j hj).2]; exact (hE.ro k hk).2 j (hlv j hj).1
    · rw [(hlv j hj).2] at hk
      rw [(hlv j' hj').2] at hk'
      exact hE.inj j j' k (hlv j hj).1 (hlv j' hj').1 hk hk'
    · match j, hj with
      | 0, _ =>
        have r0 := hE.blk 0
        rw [k0] at r0
        exact r0
      | 1, _ =>
        have r0 := hE.blk 1
        rw [k1] at r0
        exact r0
      | 2, _ =>
        have r0 := hE.blk 2
        rw [k2] at r0
        exact r0
      | 3, _ => trivial
  have s1 := hs'.get 1
  have s2 := hs'.get 2
  have s5 := hs'.get 5
  have s6 := hs'.get 6
  have s16 := hs'.get 16
  have s17 := hs'.get 17
  rw [d1] at s1
  rw [d2] at s2
  rw [d5] at s5
  rw [d6] at s6
  rw [d16] at s16
  rw [d17] at s17
  refine ⟨E'', rfl, trim_ext x (Nat.le_of_eq hl) rfl hB, hrep, rfl, relTs_slots hlen ?_, hs'.d⟩
  intro p hp
  simp only [List.mem_cons, List.not_mem_nil, or_false] at hp
  rcases hp with rfl | rfl | rfl | rfl | rfl | rfl
  · obtain ⟨u1, u2⟩ := s1
    refine ⟨u1, ?_⟩
    unfold RelSl at u2 ⊢
    rw [k3] at u2
    exact u2
  · obtain ⟨u1, u2⟩ := s2
    refine ⟨u1, ?_⟩
    unfold RelPtr at u2 ⊢
    rw [k2] at u2
    exact u2
  · exact bel_ro (E := E') (E' := E'') ho rfl (fun _ h => h) hB s5
  · exact bel_ro (E := E') (E' := E'') hr rfl (fun _ h => h) hB s6
  · exact s16
  · exact s17
end Go.Sc

namespace Go.Sc
open Go Go.SX Go.Proofs
open L14 (pB y oE rE tw)

theorem bm_len : ∀ (k : Nat) (us : List (List Int)), (bm k us).length = us.length
  | 0, us => rfl
  | k + 1, us => by
    show (List.set _ _ _).length = _
    rw [List.length_set, bm_len k us]
/-- laid down -/
theorem down {E0 E E' : Env} {s' : St} {a a' : Act} {b c : Int} {ts : List TD} {n : Nat} {qs : List Qd} {i : Nat} {us vs : List (List Int)} (h0 : E0.H = []) (h : J4 E0 b c ts n qs i E a) (hi : i < qs.length) (x : Ext (up E b c qs[i]) E') (hs' : Rp G0 E' s' a') (hlen : a'.tmps.toList.length = 252)
    (hd : [1, 2, 5, 6, 16].map (getT s'.t) = [one (.sl 3 0 n), pt 2, one (.ro TPr (osI ts qs i qs[i]) n), one (.ro TPr (rsI ts qs i qs[i]) n), one (.int false .i64 ((i + 1 : Nat) : Int))]) (hb : [0, 1, 2, 3].map (getB s'.h) = HU b c us vs)
    (hus : us = bm (y ts i).2.2.2.2.1.2 qs[i].ol.xs) (hvs : vs = bm (y ts i).2.2.2.2.1.2 qs[i].rl.xs) : ∃ E5 qs', E5.w = E'.w ∧ qs'.length = qs.length ∧ J4 E0 b c ts n qs' (i + 1) E5 a' := by
  simp only [List.map_cons, List.map_nil, List.cons.injEq, and_true, HU] at hd hb
  obtain ⟨d1, d2, d5, d6, d16⟩ := hd
  obtain ⟨k0, k1, k2, k3⟩ := hb
  have hE := hs'.h
  rw [← hs'.eq] at k0 k1 k2 k3
  have l0 : live (getB E'.H 0) = true := by rw [k0]; rfl
  have l1 : live (getB E'.H 1) = true := by rw [k1]; rfl
  have l2 : live (getB E'.H 2) = true := by rw [k2]; rfl
  have y0 : E'.β 0 = qs[i].ol.blk := by
    have := x.blk 0
    rw [k0] at this
    exact this.2.2
  have y1 : E'.β 1 = qs[i].rl.blk := by
    have := x.blk 1
    rw [k1] at this
    exact this.2.2
  have s1 := hs'.get 1
  have s2 := hs'.get 2
  have s5 := hs'.get 5
  have s6 := hs'.get 6
  have s16 := hs'.get 16
  rw [d1] at s1
  rw [d2] at s2
  rw [d5] at s5
  rw [d6] at s6
  rw [d16] at s16
  have hio : i < (osI ts qs i qs[i]).length := by rw [osI_len]; exact hi
  have hir : i < (rsI ts qs i qs[i]).length := by rw [rsI_len]; exact hi
  obtain ⟨us5, p5, q5⟩ := set_ro hio s5
  obtain ⟨us6, p6, q6⟩ := set_ro hir s6
  obtain ⟨ol, o1, o2, o3, o4, o5⟩ := down_rot (sr := qs[i].or) hE k0 ((congrArg (fun d : TR => RoT E' TPr d us5) (osI_get hio)).mp p5)
  obtain ⟨rl, r1, r2, r3, r4, r5⟩ := down_rot (sr := qs[i].rr) hE k1 ((congrArg (fun d : TR => RoT E' TPr d us6) (rsI_get hir)).mp p6)
  have bo : BSub ol qs[i].ol := fun k hk => y0 ▸ o4 k hk
  have br : BSub rl qs[i].rl := fun k hk => y1 ▸ r4 k hk
  let E5 : Env := mkE E'.w [.gone, .gone, pB b c, .gone] [none, none, E'.β 2, none] E'.R
  have hrep : RepH G0 E5 := by
    refine mkE_rep hE (fun _ h => h) (fun k hk => ⟨(hE.ro k hk).1, fun j hj => ?_⟩) (fun j j' k hj hj' _ _ => (gone_live hj).trans (gone_live hj').symm) (fun j hj => ?_)
    · obtain rfl := gone_live hj
      exact (hE.ro k hk).2 2 l2
    · match j, hj with
      | 0, _ => trivial
      | 1, _ => trivial
      | 2, _ =>
        have r0 := hE.blk 2
        rw [k2] at r0
        exact r0
      | 3, _ => trivial
  have xx : Ext E0 E' := (up_ext h0 h hi).trans x
  have hlq : (qs.set i (qs[i].new ol rl)).length = qs.length := List.length_set
  refine ⟨E5, qs.set i (qs[i].new ol rl), rfl, hlq, mkE_ext xx h0 (fun _ h => h) (fun _ h => .inl h) (fun j k hj hk => ?_), ⟨hrep, rfl, relTs_slots hlen ?_, hs'.d⟩, ⟨set_apart hi bo br h.kept.ap, fun s hs => ?_⟩, hlq.trans h.len, fun j hj => ?_⟩
  · obtain rfl := gone_live hj
    exact live_new xx h0 l2 hk
  · intro p hp
    simp only [List.mem_cons, List.not_mem_nil, or_false] at hp
    rcases hp with rfl | rfl | rfl | rfl | rfl
    · obtain ⟨u1, u2⟩ := s1
      refine ⟨u1, ?_⟩
      unfold RelSl at u2 ⊢
      rw [k3] at u2
      exact u2
    · obtain ⟨u1, u2⟩ := s2
      refine ⟨u1, ?_⟩
      unfold RelPtr at u2 ⊢
      rw [k2] at u2
      exact u2
    · rw [osL_set (q := qs[i])]
      exact q5 E5 _ rfl (fun _ h => h) (fun j hj hne us hu => raw_rot (osI_raw hj hne) hu) (o5 E5)
    · rw [rsL_set (q := qs[i])]
      exact q6 E5 _ rfl (fun _ h => h) (fun j hj hne us hu => raw_rot (rsI_raw hj hne) hu) (r5 E5)
    · exact s16
  · have other : ∀ s : Slc WS, s.In E.w → s.Free E0.w.heap.size E → (∀ k, s.blk = some k → qs[i].ol.blk ≠ some k) → (∀ k, s.blk = some k → qs[i].rl.blk ≠ some k) → s.In E5.w ∧ s.Free E0.w.heap.size E5 := fun s g1 g2 g3 g4 => by
      have hf := up_free (b := b) (c := c) h hi g2 g3 g4
      refine ⟨Slc.In.ext (E := up E b c qs[i]) (E' := E') rfl rfl x g1 hf, fun k hk => ?_⟩
      obtain ⟨f1, f2, f3, f4⟩ := (hf k hk).ext x
      refine ⟨f1, f2, f3, fun j hj => ?_⟩
      obtain rfl := gone_live hj
      exact f4 2 l2
    have ha := apart_in ((apart_iff.1 h.kept.ap).1 _ (List.getElem_mem hi))
    rcases set_mem hs with hs | ⟨j, hj, hne, hs⟩
    · simp only [Qd.l, Qd.new, List.mem_cons, List.not_mem_nil, or_false] at hs
      rcases hs with rfl | rfl | rfl | rfl
      · refine ⟨o3, fun k hk => ?_⟩
        have hk' := o4 k hk
        refine ⟨((h.fol hi).2 k (bo k hk)).1, hE.lt l0 hk', fun hr => (hE.ro k hr).2 0 l0 hk', fun j hj hjk => ?_⟩
        obtain rfl := gone_live hj
        exact absurd (hE.inj 0 2 k l0 l2 hk' hjk) (by decide)
      · obtain ⟨g1, g2⟩ := h.fl hi (s := qs[i].or) (by simp [Qd.l])
        exact other _ g1 g2 (fun k hk hk' => ha.1 k hk' hk) (fun k hk hk' => ha.2.2.2.1 k hk hk')
      · refine ⟨r3, fun k hk => ?_⟩
        have hk' := r4 k hk
        refine ⟨((h.frl hi).2 k (br k hk)).1, hE.lt l1 hk', fun hr => (hE.ro k hr).2 1 l1 hk', fun j hj hjk => ?_⟩
        obtain rfl := gone_live hj
        exact absurd (hE.inj 1 2 k l1 l2 hk' hjk) (by decide)
      · obtain ⟨g1, g2⟩ := h.fl hi (s := qs[i].rr) (by simp [Qd.l])
        exact other _ g1 g2 (fun k hk hk' => ha.2.2.1 k hk' hk) (fun k hk hk' => ha.2.2.2.2.2 k hk' hk)
    · obtain ⟨g1, g2⟩ := h.fl hj hs
      exact other _ g1 g2 (apart_ne h.kept.ap hi hj hne hs (by simp [Qd.l])) (apart_ne h.kept.ap hi hj hne hs (by simp [Qd.l]))
  · rw [List.getElem_set]
    split
    · rename_i e
      subst e
      have hf := h.fit i hi
      rw [decide_eq_false (Nat.lt_irrefl i)] at hf
      obtain ⟨⟨f1, f2⟩, f3, ⟨f4, f5⟩, f6⟩ := hf
      rw [decide_eq_true (Nat.lt_succ_self i)]
      exact ⟨⟨o1.trans f1, by show ol.xs = bm _ _; rw [o2, hus, f2]; rfl⟩, f3, ⟨r1.trans f4, by show rl.xs = bm _ _; rw [r2, hvs, f5]; rfl⟩, f6⟩
    · rename_i e
      rw [hlq] at hj
      have := h.fit j hj
      rwa [show decide (j < i + 1) = decide (j < i) from by congr 1; apply propext; omega]

/-! ### The inner loop -/
def lt4 (us : List (List Int)) : Prop := ∀ z ∈ us, val z < ell
theorem getD_lt {us : List (List Int)} (h : lt4 us) (j : Nat) : val (us.getD j z4) < ell := by
  rw [List.getD_eq_getElem?_getD]
  cases hg : us[j]? with
  | none => decide
  | some z => exact h z (List.mem_of_getElem? hg)
theorem bm_lt : ∀ (k : Nat) {us : List (List Int)}, lt4 us → lt4 (bm k us)
  | 0, us, h => h
  | k + 1, us, h => fun z hz => by
    have hz : z ∈ (bm k us).set _ _ := hz
    rcases List.mem_or_eq_of_mem_set hz with hz | rfl
    · exact bm_lt k h z hz
    · exact add_red _ _
theorem kI_lt (k : Int) : val (L14.kI k) < ell := by
  have h1 : IntKind.u64.wrap (IntKind.u64.wrap k + 1) < 18446744073709551616 := by
    unfold IntKind.wrap
    simp [IntKind.signed, IntKind.bits]
    exact Int.emod_lt_of_pos _ (by decide)
  have : val (L14.kI k) = IntKind.u64.wrap (IntKind.u64.wrap k + 1) := by
    unfold L14.kI val
    simp
  rw [this]
  exact Int.lt_trans h1 (by decide)
theorem set_getD {α : Type} {l : List α} {i : Nat} {e z : α} (h : i < l.length) : (l.set i e).getD i z = e := by
  rw [List.getD_eq_getElem?_getD, List.getElem?_set_self h]; rfl
theorem osI_getD {ts : List TD} {qs : List Qd} {i : Nat} {q : Qd} (h : i < qs.length) : ((osI ts qs i q).getD i L14.dfR).2.2.2.2.1 = .own 0 0 q.ol.len := by
  unfold osI; rw [set_getD (by rw [osL_len]; exact h)]; rfl
theorem rsI_getD {ts : List TD} {qs : List Qd} {i : Nat} {q : Qd} (h : i < qs.length) : ((rsI ts qs i q).getD i L14.dfR).2.2.2.2.1 = .own 1 0 q.rl.len := by
  unfold rsI; rw [set_getD (by rw [rsL_len]; exact h)]; rfl

theorem inner {E0 E : Env} {b c : Int} {ts : List TD} {n : Nat} {qs : List Qd} {i : Nat} {a0 : Act} {F : Act → World → Prop} (h0 : E0.H = []) (hts : ∀ t ∈ ts, OkT t) (hn : n ≤ ts.length) (hN : n ≤ 1048575) (h : J4 E0 b c ts n qs i E a0) (hi : i < qs.length)
    (hnext : ∀ E5 qs' a', qs'.length = qs.length → J4 E0 b c ts n qs' (i + 1) E5 a' → ItemsWp Tryd.prog F L14.K8 a' E5.w) :
    ∀ (d k : Nat) {E1 : Env} {a : Act}, k + d = (y ts i).2.2.2.2.1.2 → Ext (up E b c qs[i]) E1 → Rp G0 E1 (L14.stI b c n (osI ts qs i qs[i]) (rsI ts qs i qs[i]) (bm k qs[i].ol.xs) (bm k qs[i].rl.xs) i k) a → ItemsWp Tryd.prog F L14.K9 a E1.w := by
  have hin : i < n := by rw [← h.len]; exact hi
  have hok := hts _ (mem_getD (z := dfT) (show i < ts.length by omega))
  have hL : (y ts i).2.2.2.2.1.2 ≤ 1048575 := hok.l
  have hf := h.fit i hi
  rw [decide_eq_false (Nat.lt_irrefl i)] at hf
  obtain ⟨⟨f1, f2⟩, f3, ⟨f4, f5⟩, f6⟩ := hf
  have hlt : lt4 qs[i].rl.xs := fun z hz => by
    rw [f5] at hz
    obtain ⟨z', _, rfl⟩ := List.mem_map.1 hz
    show val (lim z') < ell
    unfold lim
    rw [val_mod]; exact (mod_bound _).2
  intro d
  induction d with
  | zero =>
    intro k E1 a hk x hs
    have hb := L14.i2 b c n (osI ts qs i qs[i]) (rsI ts qs i qs[i]) (bm k qs[i].ol.xs) (bm k qs[i].rl.xs) i k
    rw [osI_getD hi] at hb
    rw [iwk (by omega), decide_eq_true (show 0 ≤ (i : Int) ∧ (i : Int) < n by omega), show RefD.isOwn 0 (.own 0 0 qs[i].ol.len) = true from rfl, show RefD.len (.own 0 0 qs[i].ol.len) = qs[i].ol.len from rfl, decide_eq_false (show ¬ (k : Int) < qs[i].ol.len by rw [f1]; omega)] at hb
    refine raw_run okP7 mx hb rfl hs (fun E' a' s' x' hs' hlen hd hbk => ?_)
    obtain ⟨E5, qs', e1, e2, e3⟩ := down h0 h hi (x.trans x') hs' hlen hd hbk (by rw [show k = (y ts i).2.2.2.2.1.2 by omega]) (by rw [show k = (y ts i).2.2.2.2.1.2 by omega])
    rw [← e1]
    exact hnext E5 qs' a' e2 e3
  | succ d ih =>
    intro k E1 a hk x hs
    have hb := L14.i1 b c n (osI ts qs i qs[i]) (rsI ts qs i qs[i]) (bm k qs[i].ol.xs) (bm k qs[i].rl.xs) i k
    rw [osI_getD hi, rsI_getD hi] at hb
    rw [iwk (by omega), decide_eq_true (show 0 ≤ (i : Int) ∧ (i : Int) < n by omega), show RefD.isOwn 0 (.own 0 0 qs[i].ol.len) = true from rfl, show RefD.isOwn 0 (.own 1 0 qs[i].rl.len) = false from rfl, show RefD.isOwn 1 (.own 1 0 qs[i].rl.len) = true from rfl,
      show RefD.len (.own 0 0 qs[i].ol.len) = qs[i].ol.len from rfl, show RefD.len (.own 1 0 qs[i].rl.len) = qs[i].rl.len from rfl, decide_eq_true (show (k : Int) < qs[i].ol.len by rw [f1]; omega), decide_eq_true (show 0 ≤ (k : Int) ∧ (k : Int) < qs[i].ol.len by rw [f1]; omega), decide_eq_true (show 0 ≤ (k : Int) ∧ (k : Int) < qs[i].rl.len by rw [f4]; omega),
      decide_eq_true ⟨getD_lt (bm_lt k hlt) _, kI_lt k⟩] at hb
    refine raw_run okP7 mx hb rfl hs (fun E' a' s' x' hs' hlen hd hbk => ?_)
    obtain ⟨E'', e1, e2, e3⟩ := relay (E1 := up E b c qs[i]) rfl (x.trans x') hs' hlen hd hbk osI_bel rsI_bel
    rw [← e1]
    exact ih (k + 1) (by omega) e2 e3
theorem step4 {E0 E : Env} {b c : Int} {ts : List TD} {n : Nat} {qs : List Qd} {i : Nat} {a : Act} {F : Act → World → Prop} (h0 : E0.H = []) (hts : ∀ t ∈ ts, OkT t) (hn : n ≤ ts.length) (hN : n ≤ 1048575) (h : J4 E0 b c ts n qs i E a) (hi : i < n)
    (hnext : ∀ E5 qs' a', J4 E0 b c ts n qs' (i + 1) E5 a' → ItemsWp Tryd.prog F L14.K8 a' E5.w) : ItemsWp Tryd.prog F L14.K8 a E.w := by
  have hi : i < qs.length := by rw [h.len]; exact hi
  have hb := L14.i0 b c n (osI ts qs i qs[i]) (rsI ts qs i qs[i]) qs[i].ol.xs qs[i].rl.xs i
  rw [decide_eq_true (show (i : Int) < n by omega)] at hb
  refine raw_run okP7 mx (E := up E b c qs[i]) hb rfl (up_rp h hi) (fun E' a' s' x' hs' hlen hd hbk => ?_)
  obtain ⟨E'', e1, e2, e3⟩ := relay (E1 := up E b c qs[i]) rfl x' hs' hlen hd hbk osI_bel rsI_bel
  rw [← e1]
  exact inner h0 hts hn hN h hi (fun E5 qs' a' _ => hnext E5 qs' a') _ 0 (Nat.zero_add _) e2 e3
theorem loop4 {E0 : Env} {b c : Int} {ts : List TD} {n : Nat} {F : Act → World → Prop} (h0 : E0.H = []) (hts : ∀ t ∈ ts, OkT t) (hn : n ≤ ts.length) (hN : n ≤ 1048575)
    (hend : ∀ E a qs, J4 E0 b c ts n qs n E a → ItemsWp Tryd.prog F L14.K8 a E.w) : ∀ (d i : Nat) {E : Env} {qs : List Qd} {a : Act}, i + d = n → J4 E0 b c ts n qs i E a → ItemsWp Tryd.prog F L14.K8 a E.w
  | 0, i, E, qs, a, hd, h => by
    obtain rfl : i = n := by omega
    exact hend E a qs h
  | d + 1, i, E, qs, a, hd, h => step4 h0 hts hn hN h (by omega) fun E5 qs' a' h' => loop4 h0 hts hn hN hend d (i + 1) (by omega) h'
end Go.Sc

namespace Go.Sc
open Go Go.SX Go.Proofs
open L14 (pB y oE rE tw)

theorem one_live {b c : Int} {j : Nat} (h : live (getB [pB b c] j) = true) : j = 0 := by
  match j, h with
  | 0, _ => rfl
  | j + 1, h => cases h
def R6 (E : Env) (qs : List Qd) (k : Nat) : Prop := E.R k ∨ ∃ s ∈ flat qs, s.blk = some k
theorem exit3 {E0 E : Env} {b c : Int} {ts : List TD} {n : Nat} {qs : List Qd} {a : Act} {F : Act → World → Prop} (h0 : E0.H = []) (h : J4 E0 b c ts n qs n E a)
    (hnext : ∀ E6 a', Ext E0 E6 → Rp G0 E6 (L14.stZ b c n (oxL ts qs) (rxL ts qs)) a' → ItemsWp Tryd.prog F L14.K10 a' E6.w) : ItemsWp Tryd.prog F L14.K8 a E.w := by
  have hb := L14.i3 b c n (osL ts qs) (rsL ts qs) n
  rw [decide_eq_false (show ¬ (n : Int) < n by omega)] at hb
  refine raw_run okP7 mx hb rfl h.rp (fun E' a' s' x hs' hlen hd hbk => ?_)
  simp only [List.map_cons, List.map_nil, List.cons.injEq, and_true] at hd hbk
  obtain ⟨d2, d5, d6⟩ := hd
  have k2 := hbk
  have hE := hs'.h
  rw [← hs'.eq] at k2
  have l2 : live (getB E'.H 2) = true := by rw [k2]; rfl
  have hk := h.kept.ext rfl rfl x
  have xx : Ext E0 E' := h.x.trans x
  let E6 : Env := mkE E'.w [pB b c] [E'.β 2] (R6 E' qs)
  have hs : ∀ s ∈ flat qs, s.In E6.w ∧ ∀ k, s.blk = some k → E6.R k := fun s hs => ⟨(hk.at_ s hs).1, fun k hk => .inr ⟨s, hs, hk⟩⟩
  have hrep : RepH G0 E6 := by
    refine mkE_rep hE (fun _ h => .inl h) (fun k hr => ?_) (fun j j' k hj hj' _ _ => (one_live hj).trans (one_live hj').symm) (fun j hj => ?_)
    · rcases hr with hr | ⟨s, hs, hsk⟩
      · refine ⟨(hE.ro k hr).1, fun j hj => ?_⟩
        obtain rfl := one_live hj
        exact (hE.ro k hr).2 2 l2
      · obtain ⟨f1, f2, f3, f4⟩ := (hk.at_ s hs).2 k hsk
        refine ⟨f2, fun j hj => ?_⟩
        obtain rfl := one_live hj
        exact f4 2 l2
    · match j, hj with
      | 0, _ =>
        have r0 := hE.blk 2
        rw [k2] at r0
        exact r0
  have s2 := hs'.get 2
  have s5 := hs'.get 5
  have s6 := hs'.get 6
  rw [d2] at s2
  rw [d5] at s5
  rw [d6] at s6
  refine hnext E6 a' (mkE_ext xx h0 (fun _ h => .inl h) (fun k hr => ?_) (fun j k hj hjk => ?_)) ⟨hrep, rfl, relTs_slots hlen ?_, hs'.d⟩
  · rcases hr with hr | ⟨s, hs, hsk⟩
    · exact .inl hr
    · exact .inr ((hk.at_ s hs).2 k hsk).1
  · obtain rfl := one_live hj
    exact live_new xx h0 l2 hjk
  · intro p hp
    simp only [List.mem_cons, List.not_mem_nil, or_false] at hp
    rcases hp with rfl | rfl | rfl
    · obtain ⟨u1, u2⟩ := s2
      refine ⟨u1, ?_⟩
      unfold RelPtr at u2 ⊢
      rw [k2] at u2
      exact u2
    · obtain ⟨ad, cap, e1, e2, e3, e4, e5, e6⟩ := s5
      have q2 : n ≤ (osL ts qs).length := e2
      have q3 : (osL ts qs).length ≤ cap := e3
      refine ⟨ad, cap, e1, by show n ≤ (oxL ts qs).length; rw [oxL_len, ← osL_len ts qs]; exact q2, by show (oxL ts qs).length ≤ cap; rw [oxL_len, ← osL_len ts qs]; exact q3, e4, by decide, fun hne => ?_⟩
      obtain ⟨k, off, cc, e, fz, g1, g2, g3, g4⟩ := e6 (fun he => hne (List.eq_nil_of_length_eq_zero (by show (oxL ts qs).length = 0; rw [oxL_len, ← osL_len ts qs]; exact congrArg List.length he)))
      exact ⟨k, off, cc, e, fz, g1, .inl g2, g3, rows_show_o (E' := E6) g4 hs⟩
    · obtain ⟨ad, cap, e1, e2, e3, e4, e5, e6⟩ := s6
      have q2 : n ≤ (rsL ts qs).length := e2
      have q3 : (rsL ts qs).length ≤ cap := e3
      refine ⟨ad, cap, e1, by show n ≤ (rxL ts qs).length; rw [rxL_len, ← rsL_len ts qs]; exact q2, by show (rxL ts qs).length ≤ cap; rw [rxL_len, ← rsL_len ts qs]; exact q3, e4, by decide, fun hne => ?_⟩
      obtain ⟨k, off, cc, e, fz, g1, g2, g3, g4⟩ := e6 (fun he => hne (List.eq_nil_of_length_eq_zero (by show (rxL ts qs).length = 0; rw [rxL_len, ← rsL_len ts qs]; exact congrArg List.length he)))
      exact ⟨k, off, cc, e, fz, g1, .inl g2, g3, rows_show_r (E' := E6) g4 hs⟩
/-- an empty slice may be read -/
theorem sl_zero {E E' : Env} {j : Nat} {t : DTy} (ht : 0 < t.size) {v : Value} (h : RelSl E j 0 0 v) : RoSl E' t.size (RoT E' t) [] 0 v := by
  have : ∃ a cap, v = .slice a 0 cap ∧ cap < 9223372036854775808 := by
    unfold RelSl at h
    split at h
    · obtain ⟨a, cap, e1, _, e3, _⟩ := h; exact ⟨a, cap, e1, e3⟩
    · obtain ⟨a, cap, e1, _, e3, _⟩ := h; exact ⟨a, cap, e1, e3⟩
    · obtain ⟨a, cap, e1, _, e3, _⟩ := h; exact ⟨a, cap, e1, e3⟩
    · exact h.elim
  obtain ⟨a, cap, e1, e2⟩ := this
  exact ⟨a, cap, e1, Nat.le_refl _, Nat.zero_le _, e2, ht, fun h => (h rfl).elim⟩
theorem exit0 {E0 E : Env} {b c : Int} {ts xs zs : List TD} {a : Act} {F : Act → World → Prop} (h0 : E0.H = []) (xx : Ext E0 E) (h : Rp G0 E (L14.stH b c ts 0 xs zs (0 : Nat)) a)
    (hnext : ∀ E6 a', Ext E0 E6 → Rp G0 E6 (L14.stZ b c 0 [] []) a' → ItemsWp Tryd.prog F L14.K10 a' E6.w) : ItemsWp Tryd.prog F L14.K8 a E.w := by
  have hb := L14.i4 b c ts 0 xs zs 0
  rw [decide_eq_false (show ¬ ((0 : Nat) : Int) < (0 : Nat) by omega)] at hb
  refine raw_run okP7 mx hb rfl h (fun E' a' s' x hs' hlen hd hbk => ?_)
  simp only [List.map_cons, List.map_nil, List.cons.injEq, and_true] at hd hbk
  obtain ⟨d2, d5, d6⟩ := hd
  have k0 := hbk
  have hE := hs'.h
  rw [← hs'.eq] at k0
  have l0 : live (getB E'.H 0) = true := by rw [k0]; rfl
  have x2 : Ext E0 E' := xx.trans x
  let E6 : Env := mkE E'.w [pB b c] [E'.β 0] E'.R
  have hrep : RepH G0 E6 := by
    refine mkE_rep hE (fun _ h => h) (fun k hr => ⟨(hE.ro k hr).1, fun j hj => ?_⟩) (fun j j' k hj hj' _ _ => (one_live hj).trans (one_live hj').symm) (fun j hj => ?_)
    · obtain rfl := one_live hj
      exact (hE.ro k hr).2 0 l0
    · match j, hj with
      | 0, _ =>
        have r0 := hE.blk 0
        rw [k0] at r0
        exact r0
  have s2 := hs'.get 2
  have s5 := hs'.get 5
  have s6 := hs'.get 6
  rw [d2] at s2
  rw [d5] at s5
  rw [d6] at s6
  refine hnext E6 a' (mkE_ext x2 h0 (fun _ h => h) (fun _ hr => .inl hr) (fun j k hj hjk => ?_)) ⟨hrep, rfl, relTs_slots hlen ?_, hs'.d⟩
  · obtain rfl := one_live hj
    exact live_new x2 h0 l0 hjk
  · intro p hp
    simp only [List.mem_cons, List.not_mem_nil, or_false] at hp
    rcases hp with rfl | rfl | rfl
    · obtain ⟨u1, u2⟩ := s2
      refine ⟨u1, ?_⟩
      unfold RelPtr at u2 ⊢
      rw [k0] at u2
      exact u2
    · exact sl_zero (E' := E6) (t := TP) (by decide) s5.2
    · exact sl_zero (E' := E6) (t := TP) (by decide) s6.2
theorem finish {E0 Eb E8 : Env} {b c : Int} {ts : List TD} {n : Nat} {qs : List Qd} {a : Act} {F : Act → World → Prop} (h0 : E0.H = []) (hts : ∀ t ∈ ts, OkT t) (hN : n ≤ 1048575) (m : Mdl E0 Eb b c ts n qs) (hn : n ≤ ts.length) (x8 : Ext (lay2 Eb b c ts qs) E8)
    (h8 : Rp G0 E8 (L14.stH b c ts n (oxL ts qs) (rxL ts qs) (0 : Nat)) a)
    (hnext : ∀ (qs' : List Qd) E6 a', qs'.length = n → (∀ j (h : j < qs'.length), FitB (y ts j) true qs'[j]) → Ext E0 E6 → Rp G0 E6 (L14.stZ b c n (oxL ts qs') (rxL ts qs')) a' → ItemsWp Tryd.prog F L14.K10 a' E6.w) : ItemsWp Tryd.prog F L14.K8 a E8.w := by
  rcases Nat.eq_zero_or_pos n with rfl | hpos
  · exact exit0 h0 ((mid_ext m h0).trans x8) h8 (fun E6 a' x' h' => hnext [] E6 a' rfl (fun j h => absurd h (Nat.not_lt_zero _)) x' h')
  · obtain ⟨E9, e1, h9⟩ := enter4 h0 m hn hpos x8 h8
    rw [← e1]
    refine loop4 h0 hts hn hN (fun E a qs' h' => exit3 h0 h' fun E6 a' x' hz => hnext qs' E6 a' h'.len (fun j hj => ?_) x' hz) n 0 (Nat.zero_add _) h9
    have := h'.fit j hj
    rwa [decide_eq_true (by rw [← h'.len]; exact hj)] at this

/-! ### What is known of the lists -/
theorem add_lim' (x y : List Int) : add (lim x) y = add x y := by
  unfold add lim
  rw [val_mod, Int.emod_add_emod]
theorem lim_add (x y : List Int) : lim (add x y) = add x y := by
  unfold add lim
  rw [val_mod, Int.emod_emod_of_dvd _ (Int.dvd_refl _)]
theorem bm_lim {us : List (List Int)} {mk : List Int} : ∀ k, k ≤ us.length → ((bm k (us ++ [mk])).take us.length).map lim = bm k (us.map lim)
  | 0, _ => by show ((us ++ [mk]).take us.length).map lim = _; rw [List.take_left']; rfl; rfl
  | k + 1, hk => by
    have ih := bm_lim (us := us) (mk := mk) k (by omega)
    have hl : k < (bm k (us ++ [mk])).length := by rw [bm_len]; simp; omega
    show ((List.set _ _ _).take us.length).map lim = List.set _ _ _
    rw [Nat.zero_add, Int.toNat_natCast, List.take_set, List.map_set, ih, lim_add, ← ih]
    congr 1
    rw [List.getD_eq_getElem?_getD, List.getD_eq_getElem?_getD, List.getElem?_map, List.getElem?_take_of_lt (by omega), List.getElem?_eq_getElem hl]
    exact (add_lim' _ _).symm
theorem fit_eq {t : TD} {d : Bool} {q : Qd} (ht : okTape t) (h : FitB t d q) : nR (rD t q) = nP (oD t q) := by
  obtain ⟨⟨f1, f2⟩, ⟨f3, f4⟩, ⟨f5, f6⟩, f7, f8⟩ := h
  have hl1 : (t.2.2.2.2.1.1.take t.2.2.2.2.1.2).length = t.2.2.2.2.1.2 := by rw [List.length_take]; exact Nat.min_eq_left ht.1
  have hl2 : (t.2.2.2.2.2.1.1.take t.2.2.2.2.2.1.2).length = t.2.2.2.2.2.1.2 := by rw [List.length_take]; exact Nat.min_eq_left ht.2
  unfold nR nP rD oD
  simp only [T6.mk.injEq, true_and]
  rw [f1, f2, f3, f4, f5, f6, f7, f8]
  constructor
  · cases d with
    | false =>
      show List.take _ (List.map lim _) = List.map lim (List.take _ (List.take _ _ ++ [m77]))
      rw [List.take_of_length_le (by rw [List.length_map, hl1]; exact Nat.le_refl _), List.take_left' hl1]
    | true =>
      have := bm_lim (us := t.2.2.2.2.1.1.take t.2.2.2.2.1.2) (mk := m77) t.2.2.2.2.1.2 (by rw [hl1]; exact Nat.le_refl _)
      rw [hl1] at this
      show List.take _ (bm _ _) = List.map lim (List.take _ (bm _ (List.take _ _ ++ [m77])))
      rw [this, List.take_of_length_le (by rw [bm_len, List.length_map, hl1]; exact Nat.le_refl _)]
  · show List.take _ (List.map lim _) = List.map lim (List.take _ (List.take _ _ ++ [m78]))
    rw [List.take_of_length_le (by rw [List.length_map, hl2]; exact Nat.le_refl _), List.take_left' hl2]
theorem lim_lt (x : List Int) : val (lim x) < ell := by unfold lim; rw [val_mod]; exact (mod_bound _).2
section
variable {ts : List TD} {n : Nat} {qs : List Qd} {d : Bool} (hts : ∀ t ∈ ts, OkT t) (hn : n ≤ ts.length) (hl : qs.length = n) (hf : ∀ j (h : j < qs.length), FitB (y ts j) d qs[j])
include hl
theorem ox_at {i : Nat} (hi : i < n) : (oxL ts qs).getD i dfT = oD (y ts i) (qs[i]'(by omega)) := by
  rw [List.getD_eq_getElem?_getD, List.getElem?_eq_getElem (by rw [oxL_len]; omega), oxL_get (by omega)]; rfl
theorem rx_at {i : Nat} (hi : i < n) : (rxL ts qs).getD i dfT = rD (y ts i) (qs[i]'(by omega)) := by
  rw [List.getD_eq_getElem?_getD, List.getElem?_eq_getElem (by rw [rxL_len]; omega), rxL_get (by omega)]; rfl
theorem red_all : L14.redB (rxL ts qs) n = true := by
  unfold L14.redB
  rw [decide_eq_true_eq]
  intro i hi
  rw [rx_at hl hi]
  exact ⟨lim_lt _, lim_lt _, lim_lt _, lim_lt _⟩
omit hl
include hts hn
theorem ok_at {i : Nat} (hi : i < n) : OkT (y ts i) := hts _ (mem_getD (z := dfT) (show i < ts.length by omega))
include hl hf
theorem same_all : ((rxL ts qs).take n).map nR = ((oxL ts qs).take n).map nP := by
  rw [List.take_of_length_le (by rw [rxL_len]; omega), List.take_of_length_le (by rw [oxL_len]; omega)]
  apply List.ext_getElem
  · simp [rxL_len, oxL_len]
  · intro i h1 h2
    have hi : i < qs.length := by simpa [rxL_len] using h1
    rw [List.getElem_map, List.getElem_map, rxL_get hi, oxL_get hi]
    exact fit_eq (ok_at hts hn (by omega)).t (hf i hi)
end
theorem stay_at {ts : List TD} {n : Nat} {qs : List Qd} (hts : ∀ t ∈ ts, OkT t) (hn : n ≤ ts.length) (hl : qs.length = n) (hf : ∀ j (h : j < qs.length), FitB (y ts j) false qs[j]) {i : Nat} (hi : i < n) : L14.stay1 (oxL ts qs) ts i = true := by
  obtain ⟨k1, k2, k3, k4⟩ := ok_at hts hn hi
  obtain ⟨⟨f1, f2⟩, ⟨f3, f4⟩, _⟩ := hf i (by omega)
  have hl1 : (List.take (y ts i).2.2.2.2.1.2 (y ts i).2.2.2.2.1.1).length = (y ts i).2.2.2.2.1.2 := by rw [List.length_take]; exact Nat.min_eq_left k3
  have hl2 : (List.take (y ts i).2.2.2.2.2.1.2 (y ts i).2.2.2.2.2.1.1).length = (y ts i).2.2.2.2.2.1.2 := by rw [List.length_take]; exact Nat.min_eq_left k4
  have key : ∀ {l : List (List Int)} {m : Nat} {mk : List Int}, m ≤ 1048575 → (l.take m).length = m → staB (l.take m ++ [mk]) m l m mk = true := fun {l m mk} h1 h2 => by
    unfold staB
    rw [decide_eq_true_eq]
    refine ⟨rfl, h1, by rw [List.length_append, h2]; exact Nat.le_refl _, List.take_left' h2, ?_⟩
    rw [List.getD_eq_getElem?_getD, List.getElem?_append_right (by omega), h2, Nat.sub_self]; rfl
  unfold L14.stay1
  rw [Nat.zero_add, ox_at hl hi]
  show (staB qs[i].ol.xs qs[i].ol.len (y ts i).2.2.2.2.1.1 (y ts i).2.2.2.2.1.2 m77 && staB qs[i].or.xs qs[i].or.len (y ts i).2.2.2.2.2.1.1 (y ts i).2.2.2.2.2.1.2 m78) = true
  rw [f1, f2, f3, f4, Bool.and_eq_true]
  exact ⟨key k1 hl1, key k2 hl2⟩
theorem z6_le : z6.l.length ≤ 1048500 ∧ z6.rr.length ≤ 1048500 := ⟨by decide, by decide⟩
theorem WF_len (b c : Int) (l : List T6) : (WF b c l).1.l.length ≤ 1048500 ∧ (WF b c l).1.rr.length ≤ 1048500 := by
  have z0 : z6.l.length = 0 := rfl
  have z0' : z6.rr.length = 0 := rfl
  unfold WF
  cases ha : alw b c with
  | false => exact z6_le
  | true =>
    cases hc : ((l.length : Int) != c) with
    | true => exact z6_le
    | false =>
      cases hf : l.all (T6.fit b) with
      | false => exact z6_le
      | true =>
        obtain ⟨B, C, rfl, rfl, b1, b2, b3, b4⟩ := alw_nat ha
        obtain ⟨g1, g2⟩ := fold_fit (B := B) l z6 (fun y hy => List.all_eq_true.1 hf y hy)
        simp only [bne_eq_false_iff_eq] at hc
        have hb : l.length * B ≤ 16 * 64 := Nat.mul_le_mul (by omega) b2
        show (l.foldl T6.add z6).l.length ≤ _ ∧ (l.foldl T6.add z6).rr.length ≤ _
        omega
namespace L14
theorem a' (b c : Int) (ts : List TD) (n : Nat) : (⟨setT (st0 b c ts n (0 : Nat)).t 5 (ownS (st0 b c ts n (0 : Nat)).h.length (getT (st0 b c ts n (0 : Nat)).t 5)).1, (st0 b c ts n (0 : Nat)).h ++ List.replicate ((ownS (st0 b c ts n (0 : Nat)).h.length (getT (st0 b c ts n (0 : Nat)).t 5)).2 - (st0 b c ts n (0 : Nat)).h.length) (.arr TPr [] 0 [])⟩ : St) =
    ⟨slotsOf 252 [(1, one (.ro TP ts n)), (2, pt 0), (5, one (.sl 1 0 0)), (6, one .nils), (7, one (.int false .i64 (0 : Nat)))], [pB b c, .arr TPr [] 0 []]⟩ := by kernel_rfl
noncomputable def st0' (b c : Int) (ts : List TD) (n : Nat) : St := ⟨slotsOf 252 [(1, one (.ro TP ts n)), (2, pt 0), (5, one (.sl 1 0 0)), (6, one .nils), (7, one (.int false .i64 (0 : Nat)))], [pB b c, .arr TPr [] 0 []]⟩
theorem a'' (b c : Int) (ts : List TD) (n : Nat) : (⟨setT (st0' b c ts n).t 6 (ownS (st0' b c ts n).h.length (getT (st0' b c ts n).t 6)).1, (st0' b c ts n).h ++ List.replicate ((ownS (st0' b c ts n).h.length (getT (st0' b c ts n).t 6)).2 - (st0' b c ts n).h.length) (.arr TPr [] 0 [])⟩ : St) =
    st1 b c ts n [] [] (0 : Nat) 0 := by kernel_rfl
end L14
theorem f3_runs {b c : Int} {ts : List TD} {n : Nat} (hts : ∀ t ∈ ts, OkT t) (hn : n ≤ ts.length) (hN : n ≤ 1048575) : Runs Tryd.prog P7 Tryd.f3 0 [.code (cd Tryd.f3)] (L14.s0 b c ts n) (.one (.c (.bool false true))) [] := by
  refine Runs.piece okP7 mx (L14.a b c ts n) rfl (by rfl) ?_
  refine Runs.nilSlot 5 TPr (by decide) ?_
  rw [L14.a']
  refine Runs.nilSlot (s := L14.st0' b c ts n) 6 TPr (by decide) ?_
  rw [L14.a'']
  intro E0 E a x hm hs
  have h0 : E0.H = [] := List.eq_nil_of_length_eq_zero (Nat.le_zero.1 hm)
  have hj : J1 E0 b c ts n [] E a := ⟨x, hs, ⟨List.Pairwise.nil, fun s hs => absurd hs List.not_mem_nil⟩, fun j h => absurd h (Nat.not_lt_zero _)⟩
  refine loop1 h0 hn hN hts (fun E a qs hq h1 => exit1 h1 hq fun Eb a' m hrp => ?_) n (Nat.zero_add _) hj
  have hf : ∀ j (h : j < qs.length), FitB (y ts j) false qs[j] := m.fit
  have hWl := WF_len b c (((oxL ts qs).take n).map nP)
  refine mids (E2 := lay2 Eb b c ts qs) rfl hN (same_all hts hn hq hf) (red_all hq) (fun i hi => stay_at hts hn hq hf hi) hWl.1 hWl.2 (fun E8 a8 x8 h8 => ?_) (lay2 Eb b c ts qs) a' (Ext.refl _) hrp
  refine finish h0 hts hN m hn x8 h8 (fun qs' E6 a6 hl' hf' x6 h6 => ?_)
  have hz := L14.z1 b c n (oxL ts qs') (rxL ts qs')
  have hWl' := WF_len b c (((oxL ts qs').take n).map nP)
  rw [same_all hts hn hl' hf', red_all hl', snB_self hWl'.1, snB_self hWl'.2] at hz
  exact Runs.last (m := 0) okP7 mx hz rfl (by rfl) E0 E6 a6 x6 hm h6
end Go.Sc
