/-
  Contracts of the transcripts, part 1: numbers as bytes, the lowest first.
  Contracts of the transcripts, part 2: frames.
  Contracts of the transcripts, part 3: the next state, a new one.
  Contracts of the transcripts, part 4: scalars as bytes; what is absorbed.
  Contracts of the transcripts, part 5: challenges.
  Contracts of the transcripts, part 6: the document's oracle: what is absorbed.
  Contracts of the weights, part 1: the program's scalars.
  Contracts of the weights, part 2: the document's scalars.
  Contracts of the weights, part 3: both sides' scalars.
  Contracts of the weights, part 4: the program's weights as bytes.
  Contracts of BatchWeights, part 1: twin, kept.
  Contracts of BatchWeights, part 2: the weights of both sides are the same.
  BatchWeights: the law's function answers true.
-/
import Derived.Test.YticfnbhbpcpgeaaDoorHh
import Derived.Test.YticfnbhbpcpgeaaDoorSx33
namespace Go.Sc
open Go Go.SX Go.Proofs

def le1 (n : Int) (i : Nat) : Int := u8 (n.fdiv (2 ^ (8 * i)))
def le8 (n : Int) : List Int := (List.range 8).map (le1 n)
theorem le8_len (n : Int) : (le8 n).length = 8 := rfl
def app1 (ys : List Int) (n : Int) : Nat → List Int
  | 0 => ys
  | k + 1 => app1 ys n k ++ [le1 n k]
theorem app1_eq (ys : List Int) (n : Int) : ∀ k, app1 ys n k = ys ++ (List.range k).map (le1 n)
  | 0 => (List.append_nil ys).symm
  | k + 1 => by
    unfold app1
    rw [app1_eq ys n k, List.range_succ, List.map_append, List.append_assoc]; rfl
theorem app1_len (ys : List Int) (n : Int) (k : Nat) : (app1 ys n k).length = ys.length + k := by
  rw [app1_eq, List.length_append, List.length_map, List.length_range]
noncomputable def FA : Tab := F7.hand [106]
theorem okFA : SpecOk Tryd.prog FA := okF7.hand
theorem le64_b (l : Bool) (n : Int) (ys : List Int) (len : Nat) : (bodyT FA Tryd.prog allLoops Tryd.f106 (cd Tryd.f106) [.c (.sl 0 0 len), .c (.int l .i64 n)] [.arr B1 ys 0 []]).path (List.replicate 8 true) =
    some ((List.range 8).map fun i => decide (len + i = (app1 ys n i).length) && HRf.rm (len + i + 1), .one (.c (.sl 1 0 (len + 8))), [.frz B1 ys, .arr B1 (app1 ys n 8) (len + 7) [0]]) := by kernel_rfl
theorem le64_a (l : Bool) (n : Int) : (bodyT FA Tryd.prog allLoops Tryd.f106 (cd Tryd.f106) [.c .nils, .c (.int l .i64 n)] []).path (List.replicate 8 true) =
    some (List.replicate 8 true, .one (.c (.sl 0 0 8)), [.arr B1 (le8 n) 0 []]) := by kernel_rfl
theorem ble64_b (l : Bool) (n : Int) :  (bodyT FA Tryd.prog allLoops Tryd.f81 (cd Tryd.f81) [.c (.int l .i64 n)] []).path (true :: List.flatten (List.replicate 8 [true, true]) ++ [false]) =
    some (true :: List.flatten (List.replicate 8 [true, true]) ++ [false], .one (.c (.sl 0 0 8)), [.arr B1 (le8 n) 0 []]) := by kernel_rfl
theorem r15le64_b (l : Bool) (n : Int) :  (bodyT FA Tryd.prog allLoops Tryd.f62 (cd Tryd.f62) [.c (.int l .i64 n)] []).path (List.replicate 9 true) =
    some (List.replicate 9 true, .one (.c (.sl 0 0 8)), [.arr B1 (le8 n) 0 []]) := by kernel_rfl
def le8f (x : Int) : List Int :=
  [u8 x, u8 (x.fdiv 256), u8 ((x.fdiv 256).fdiv 256), u8 (((x.fdiv 256).fdiv 256).fdiv 256), u8 ((((x.fdiv 256).fdiv 256).fdiv 256).fdiv 256), u8 (((((x.fdiv 256).fdiv 256).fdiv 256).fdiv 256).fdiv 256),
    u8 ((((((x.fdiv 256).fdiv 256).fdiv 256).fdiv 256).fdiv 256).fdiv 256), u8 (((((((x.fdiv 256).fdiv 256).fdiv 256).fdiv 256).fdiv 256).fdiv 256).fdiv 256)]
theorem le8f_eq (x : Int) : le8f x = le8 x := by
  unfold le8f le8 le1
  simp only [fdiv256, u8_eq, fdiv_powZ]
  show _ = [x / 2 ^ (8 * 0) % 256, x / 2 ^ (8 * 1) % 256, x / 2 ^ (8 * 2) % 256, x / 2 ^ (8 * 3) % 256, x / 2 ^ (8 * 4) % 256, x / 2 ^ (8 * 5) % 256, x / 2 ^ (8 * 6) % 256, x / 2 ^ (8 * 7) % 256]
  have p0 : (2 : Int) ^ (8 * 0) = 1 := by decide
  have p1 : (2 : Int) ^ (8 * 1) = 256 := by decide
  have p2 : (2 : Int) ^ (8 * 2) = 65536 := by decide
  have p3 : (2 : Int) ^ (8 * 3) = 16777216 := by decide
  have p4 : (2 : Int) ^ (8 * 4) = 4294967296 := by decide
  have p5 : (2 : Int) ^ (8 * 5) = 1099511627776 := by decide
  have p6 : (2 : Int) ^ (8 * 6) = 281474976710656 := by decide
  have p7 : (2 : Int) ^ (8 * 7) = 72057594037927936 := by decide
  rw [p0, p1, p2, p3, p4, p5, p6, p7]
  simp only [List.cons.injEq, and_true, Int.ediv_one]
  repeat' apply And.intro
  all_goals first | rfl | exact True.intro | omega
theorem r8len_b (l : Bool) (n : Int) :  (bodyT FA Tryd.prog allLoops Tryd.f109 (cd Tryd.f109) [.c (.int l .i64 n)] []).path (List.replicate 9 true) =
    some (List.replicate 9 true, .one (.c (.sl 0 0 8)), [.arr B1 (le8f n) 0 []]) := by kernel_rfl

def Tle64 (vs : List V1) (hl : Heap) : Tree (SV × Heap) :=
  match vs, hl with
  | [.c .nils, .c (.int _ .i64 n)], [] => .ret (.one (.c (.sl 0 0 8)), [.arr B1 (le8 n) 0 []])
  | [.c (.sl 0 0 len), .c (.int _ .i64 n)], [.arr (.int .u8) ys 0 []] => Tree.chk (decide (len = List.length (α := Int) ys) && decide (len ≤ 1099511627700)) (.ret (.one (.c (.sl 1 0 (len + 8))), [.frz B1 ys, .arr B1 (List.append (α := Int) ys (le8 n)) (len + 7) [0]]))
  | _, _ => .fail
def TL8 (vs : List V1) (hl : Heap) : Tree (SV × Heap) :=
  match vs, hl with
  | [.c (.int _ .i64 n)], [] => .ret (.one (.c (.sl 0 0 8)), [.arr B1 (le8 n) 0 []])
  | _, _ => .fail
theorem le64_c (l : Bool) (n : Int) (ys : List Int) (len : Nat) (q1 : len = ys.length) (q2 : len ≤ 1099511627700) : (bodyT FA Tryd.prog allLoops Tryd.f106 (cd Tryd.f106) [.c (.sl 0 0 len), .c (.int l .i64 n)] [.arr B1 ys 0 []]).path (List.replicate 8 true) =
    some (List.replicate 8 true, .one (.c (.sl 1 0 (len + 8))), [.frz B1 ys, .arr B1 (List.append (α := Int) ys (le8 n)) (len + 7) [0]]) := by
  have hp := le64_b l n ys len
  have hc : ((List.range 8).map fun i => decide (len + i = (app1 ys n i).length) && HRf.rm (len + i + 1)) = List.replicate 8 true := by
    show _ = (List.range 8).map fun _ => true
    apply List.map_congr_left
    intro i hi
    have := List.mem_range.mp hi
    have e := app1_len ys n i
    rw [decide_eq_true (show len + i = (app1 ys n i).length by omega), HRf.rm_true (by omega)]; rfl
  rw [hc, app1_eq] at hp
  exact hp
theorem ok_tle64 : EntryOk Tryd.prog G1 106 Tle64 := by
  refine EntryOk.sub (bodyT_ok okFA mx (un := allLoops) (fn := Tryd.f106) (c := cd Tryd.f106) (by kernel_rfl) (by kernel_rfl) (by kernel_rfl)) (fun vs hl r ok h => ?_)
  unfold Tle64 at h
  split at h
  · rename_i l n
    obtain rfl := val_ret h
    exact Tree.path_val (le64_a l n)
  · rename_i len l n ys
    obtain ⟨h1, h2⟩ := val_chk h
    rw [Bool.and_eq_true] at h1
    have q1 : len = List.length (α := Int) ys := of_decide_eq_true h1.1
    have q2 := of_decide_eq_true h1.2
    obtain rfl := val_ret h2
    exact Tree.path_val (le64_c l n ys len q1 q2)
  · cases h
theorem ok_ble64 : EntryOk Tryd.prog G1 81 TL8 := by
  refine EntryOk.sub (bodyT_ok okFA mx (un := allLoops) (fn := Tryd.f81) (c := cd Tryd.f81) (by kernel_rfl) (by kernel_rfl) (by kernel_rfl)) (fun vs hl r ok h => ?_)
  unfold TL8 at h
  split at h
  · rename_i l n
    obtain rfl := val_ret h
    exact Tree.path_val (ble64_b l n)
  · cases h
theorem ok_r15le64 : EntryOk Tryd.prog G1 62 TL8 := by
  refine EntryOk.sub (bodyT_ok okFA mx (un := allLoops) (fn := Tryd.f62) (c := cd Tryd.f62) (by kernel_rfl) (by kernel_rfl) (by kernel_rfl)) (fun vs hl r ok h => ?_)
  unfold TL8 at h
  split at h
  · rename_i l n
    obtain rfl := val_ret h
    exact Tree.path_val (r15le64_b l n)
  · cases h
theorem ok_r8len : EntryOk Tryd.prog G1 109 TL8 := by
  refine EntryOk.sub (bodyT_ok okFA mx (un := allLoops) (fn := Tryd.f109) (c := cd Tryd.f109) (by kernel_rfl) (by kernel_rfl) (by kernel_rfl)) (fun vs hl r ok h => ?_)
  unfold TL8 at h
  split at h
  · rename_i l n
    obtain rfl := val_ret h
    have hp := r8len_b l n
    rw [le8f_eq] at hp
    exact Tree.path_val hp
  · cases h
noncomputable def A1 : Tab := (((FA.put 106 1 Tle64).put 81 1 TL8).put 62 1 TL8).put 109 1 TL8
theorem okA1 : SpecOk Tryd.prog A1 := (((okFA.put ok_tle64).put ok_ble64).put ok_r15le64).put ok_r8len
end Go.Sc

namespace Go.Sc
open Go Go.SX Go.Proofs

abbrev XS := List (List Int × Nat)
def strI (s : ByteArray) : List Int := s.data.toList.map fun b => (b.toNat : Int)
theorem strI_len (s : ByteArray) : (strI s).length = s.size := by unfold strI; rw [List.length_map, Array.length_toList]; rfl
def frP (p : List Int × Nat) : List Int := le8 p.2 ++ p.1.take p.2
def frB (xss : XS) : List Int := (xss.map frP).flatten
def frame (s : ByteArray) (xss : XS) (n : Nat) : List Int := le8 s.size ++ strI s ++ le8 n ++ frB (xss.take n)
theorem frB_succ {xss : XS} {i : Nat} (h : i < xss.length) : frB (xss.take (i + 1)) = frB (xss.take i) ++ frP (xss.getD i ([], 0)) := by
  unfold frB
  rw [List.take_succ_eq_append_getElem h, List.map_append, List.flatten_append, List.getD_eq_getElem?_getD, List.getElem?_eq_getElem h]
  simp
theorem frB_le {xss : XS} {n : Nat} : ∀ i, i ≤ n → (frB (xss.take i)).length ≤ (frB (xss.take n)).length := by
  intro i hi
  unfold frB
  have e : (xss.take i).map frP = ((xss.take n).map frP).take i := by
    rw [← List.map_take, List.take_take, Nat.min_eq_left hi]
  rw [e]
  have := List.take_append_drop i ((xss.take n).map frP)
  conv => rhs; rw [← this, List.flatten_append, List.length_append]
  omega
theorem frP_len {p : List Int × Nat} (h : p.2 ≤ p.1.length) : (frP p).length = 8 + p.2 := by
  unfold frP
  rw [List.length_append, le8_len, List.length_take]; omega
theorem frame_len (s : ByteArray) (xss : XS) (n : Nat) : (frame s xss n).length = 16 + s.size + (frB (xss.take n)).length := by
  unfold frame
  rw [List.length_append, List.length_append, List.length_append, le8_len, le8_len, strI_len]; omega

namespace Fr
noncomputable def r (k : Nat) (is : List Item) (s : St) : Tree Out := runK A1 Tryd.prog noLoops k is s
noncomputable def s0 (s : ByteArray) (xss : XS) (n : Nat) : St := ⟨enterT Tryd.f94 [.c (.str s), .c (.ro BB xss n)], []⟩
noncomputable def K1 : List Item := leftT [true, true] (r 7 [.code (cd Tryd.f94)] (s0 ByteArray.empty [] 0))
noncomputable def st1 (xs : List Int) (L : Nat) (xss : XS) (n : Nat) : St := ⟨slotsOf 33 [(1, one (.ro BB xss n)), (5, one (.sl 0 0 L))], [.arr B1 xs 0 []]⟩
noncomputable def K2 : List Item := leftT [true] (r 400 K1 (st1 [] 0 [] 0))
noncomputable def st2 (xs : List Int) (L : Nat) (xss : XS) (n : Nat) (i : Int) : St := ⟨slotsOf 33 [(5, one (.sl 0 0 L)), (18, one (.ro BB xss n)), (19, one (.int false .i64 n)), (20, one (.int false .i64 i))], [.arr B1 xs 0 []]⟩
theorem a (s : ByteArray) (xss : XS) (n : Nat) : pieceT [1, 5] [] [1] [true, true] (r 7 [.code (cd Tryd.f94)] (s0 s xss n)) =
    some ([decide (s.size < 9223372036854775808), HRf.rm (8 + (strI s).length)], K1, st1 (le8 s.size ++ strI s) (8 + (strI s).length) xss n) := by kernel_rfl
theorem b (xs : List Int) (L : Nat) (xss : XS) (n : Nat) : pieceT [5, 18, 19, 20] [20] [1] [true] (r 400 K1 (st1 xs L xss n)) =
    some ([decide (L = xs.length) && decide (L ≤ 1099511627700)], K2, st2 (List.append xs (le8 n)) (L + 8) xss n (0 : Nat)) := by kernel_rfl
theorem c (xs : List Int) (L : Nat) (xss : XS) (n i : Nat) : pieceT [5, 18, 19, 20] [20] [2] [true, true, true, true] (r 400 K2 (st2 xs L xss n i)) =
    some ([decide ((i : Int) < n), decide (0 ≤ (i : Int) ∧ (i : Int) < n), decide (L = xs.length) && decide (L ≤ 1099511627700),
      decide (L + 8 = (List.append xs (le8 (xss.getD i ([], 0)).2)).length) && HRf.rm (L + 8 + ((xss.getD i ([], 0)).1.take (xss.getD i ([], 0)).2).length)], K2,
      st2 (List.append xs (le8 (xss.getD i ([], 0)).2) ++ (xss.getD i ([], 0)).1.take (xss.getD i ([], 0)).2) (L + 8 + ((xss.getD i ([], 0)).1.take (xss.getD i ([], 0)).2).length) xss n (iw ((i : Int) + 1))) := by kernel_rfl
theorem d (xs : List Int) (L : Nat) (xss : XS) (n i : Nat) : endT Tryd.prog Tryd.f94 [0] [false] (r 400 K2 (st2 xs L xss n i)) =
    some ([decide ((i : Int) < n)], .one (.c (.sl 0 0 L)), [.arr B1 xs 0 []]) := by kernel_rfl
theorem tk_len {xss : XS} {i : Nat} (hx : ∀ p ∈ xss, p.2 ≤ p.1.length) (h : i < xss.length) : ((xss.getD i ([], 0)).1.take (xss.getD i ([], 0)).2).length = (xss.getD i ([], 0)).2 := by
  have hm : xss.getD i ([], 0) ∈ xss := by
    rw [List.getD_eq_getElem?_getD, List.getElem?_eq_getElem h]; exact List.getElem_mem h
  have := hx _ hm
  rw [List.length_take]; omega
def H (s : ByteArray) (n : Nat) : List Int := le8 s.size ++ strI s ++ le8 n
theorem H_len (s : ByteArray) (n : Nat) : (H s n).length = 16 + s.size := by
  unfold H
  rw [List.length_append, List.length_append, le8_len, le8_len, strI_len]; omega
theorem runs {s : ByteArray} {xss : XS} {n : Nat} (hx : ∀ p ∈ xss, p.2 ≤ p.1.length) (hn : n ≤ xss.length) (hb : (frame s xss n).length ≤ 1099511627000) (hn2 : n ≤ 1099511627776) :
    Runs Tryd.prog A1 Tryd.f94 0 [.code (cd Tryd.f94)] (s0 s xss n) (.one (.c (.sl 0 0 (frame s xss n).length))) [.arr B1 (frame s xss n) 0 []] := by
  have hlen := frame_len s xss n
  have ha := a s xss n
  rw [decide_eq_true (by omega), strI_len, HRf.rm_true (by omega)] at ha
  refine Runs.piece okA1 mx ha rfl (by rfl) ?_
  have hb' := b (le8 s.size ++ strI s) (8 + s.size) xss n
  have e0 : (le8 s.size ++ strI s).length = 8 + s.size := by rw [List.length_append, le8_len, strI_len]
  rw [e0, decide_eq_true rfl, decide_eq_true (by omega)] at hb'
  refine Runs.piece okA1 mx hb' rfl (by rfl) ?_
  have key := loopG (P := Tryd.prog) (S := A1) (fn := Tryd.f94) (m := 0) (K := K2) (v := .one (.c (.sl 0 0 (frame s xss n).length))) (hl := [.arr B1 (frame s xss n) 0 []])
    (st := fun i (_ : Unit) => st2 (H s n ++ frB (xss.take i)) (16 + s.size + (frB (xss.take i)).length) xss n i) (I := fun _ _ => True) (n := n)
    (fun i u hi _ => ⟨(), trivial, fun hr => ?_⟩) (fun u _ => ?_) n 0 () (by omega) trivial
  · have h0 : frB (xss.take 0) = [] := by rw [List.take_zero]; rfl
    rw [h0, List.append_nil] at key
    have e1 : 16 + s.size + ([] : List Int).length = 8 + s.size + 8 := by simp; omega
    rw [e1] at key
    exact key
  · have hil : i < xss.length := by omega
    have hl0 := frB_le (xss := xss) (n := n) (i + 1) (by omega)
    have hl1 : (H s n ++ frB (xss.take i)).length = 16 + s.size + (frB (xss.take i)).length := by rw [List.length_append, H_len]
    have hsu := frB_succ hil
    have htk := tk_len hx hil
    have hpl := congrArg List.length hsu
    rw [List.length_append, frP_len (by rw [List.length_take] at htk; omega)] at hpl
    have hc := c (H s n ++ frB (xss.take i)) (16 + s.size + (frB (xss.take i)).length) xss n i
    have e2 : (List.append (H s n ++ frB (xss.take i)) (le8 (xss.getD i ([], 0)).2)).length = 16 + s.size + (frB (xss.take i)).length + 8 := by
      show List.length (H s n ++ frB (xss.take i) ++ le8 (xss.getD i ([], 0)).2) = _
      rw [List.length_append, hl1, le8_len]
    have e3 : List.append (H s n ++ frB (xss.take i)) (le8 (xss.getD i ([], 0)).2) ++ (xss.getD i ([], 0)).1.take (xss.getD i ([], 0)).2 = H s n ++ frB (xss.take (i + 1)) := by
      rw [hsu]
      show (H s n ++ frB (xss.take i) ++ le8 (xss.getD i ([], 0)).2) ++ (xss.getD i ([], 0)).1.take (xss.getD i ([], 0)).2 = _
      unfold frP
      simp only [List.append_assoc]
    rw [e3, e2, hl1, htk, decide_eq_true rfl, decide_eq_true rfl, decide_eq_true (by omega), decide_eq_true (by omega), decide_eq_true (by omega), HRf.rm_true (by omega), iwk (by omega),
      show 16 + s.size + (frB (xss.take i)).length + 8 + (xss.getD i ([], 0)).2 = 16 + s.size + (frB (xss.take (i + 1))).length by omega] at hc
    exact Runs.piece okA1 mx hc rfl (by rfl) hr
  · have hd := d (H s n ++ frB (xss.take n)) (16 + s.size + (frB (xss.take n)).length) xss n n
    rw [decide_eq_false (by omega)] at hd
    rw [hlen]
    exact Runs.last okA1 mx hd rfl (by rfl)
end Fr
def TFrame (vs : List V1) (hl : Heap) : Tree (SV × Heap) :=
  match vs, hl with
  | [.c (.str s), .c (.ro (.sl (.int .u8)) xss n)], [] => Tree.chk (decide (n ≤ 1099511627776) && decide ((frame s xss n).length ≤ 1099511627000)) (.ret (.one (.c (.sl 0 0 (frame s xss n).length)), [.arr B1 (frame s xss n) 0 []]))
  | _, _ => .fail
theorem ok_tFrame0 : EntryOk Tryd.prog G1 94 TFrame := by
  refine EntryOk.runs (S := A1) (fn := Tryd.f94) (c := cd Tryd.f94) (by kernel_rfl) (by kernel_rfl) (by kernel_rfl) (fun vs hl r hl' ok h => ?_)
  unfold TFrame at h
  split at h
  · rename_i s xss n
    obtain ⟨h1, h2⟩ := val_chk h
    rw [Bool.and_eq_true] at h1
    have q1 := of_decide_eq_true h1.1
    have q2 := of_decide_eq_true h1.2
    obtain ⟨rfl, rfl⟩ := Prod.mk.inj (val_ret h2)
    exact Fr.runs (xss := xss) (fun p hp => (ok.2.1.2 p hp).1) ok.2.1.1 q2 q1
  · cases h

namespace Fq
noncomputable def r (k : Nat) (is : List Item) (s : St) : Tree Out := runK A1 Tryd.prog noLoops k is s
noncomputable def s0 (s : ByteArray) (xss : XS) (n : Nat) : St := ⟨enterT Tryd.f99 [.c (.str s), .c (.ro BB xss n)], []⟩
noncomputable def K2 : List Item := leftT [true, true, true] (r 400 [.code (cd Tryd.f99)] (s0 ByteArray.empty [] 0))
noncomputable def st2 (xs : List Int) (L : Nat) (xss : XS) (n : Nat) (i : Int) : St := ⟨slotsOf 38 [(1, one (.ro BB xss n)), (5, one (.sl 0 0 L)), (6, one (.int false .i64 i))], [.arr B1 xs 0 []]⟩
theorem a (s : ByteArray) (xss : XS) (n : Nat) : pieceT [1, 5, 6] [6] [3] [true, true, true] (r 400 [.code (cd Tryd.f99)] (s0 s xss n)) =
    some ([decide (s.size < 9223372036854775808), HRf.rm (8 + (strI s).length), decide (8 + (strI s).length = (le8 s.size ++ strI s).length) && HRf.rm (8 + (strI s).length + 8)], K2,
      st2 (le8 s.size ++ strI s ++ (le8 n).take 8) (8 + (strI s).length + 8) xss n (0 : Nat)) := by kernel_rfl
theorem c (xs : List Int) (L : Nat) (xss : XS) (n i : Nat) : pieceT [1, 5, 6] [6] [3] [true, true, true, true, true] (r 400 K2 (st2 xs L xss n i)) =
    some ([decide ((i : Int) < n), decide (0 ≤ (i : Int) ∧ (i : Int) < n), decide (L = xs.length) && HRf.rm (L + 8), decide (0 ≤ (i : Int) ∧ (i : Int) < n),
      decide (L + 8 = (xs ++ (le8 (xss.getD i ([], 0)).2).take 8).length) && HRf.rm (L + 8 + ((xss.getD i ([], 0)).1.take (xss.getD i ([], 0)).2).length)], K2,
      st2 (xs ++ (le8 (xss.getD i ([], 0)).2).take 8 ++ (xss.getD i ([], 0)).1.take (xss.getD i ([], 0)).2) (L + 8 + ((xss.getD i ([], 0)).1.take (xss.getD i ([], 0)).2).length) xss n (iw ((i : Int) + 1))) := by kernel_rfl
theorem d (xs : List Int) (L : Nat) (xss : XS) (n i : Nat) : endT Tryd.prog Tryd.f99 [0] [false] (r 400 K2 (st2 xs L xss n i)) =
    some ([decide ((i : Int) < n)], .one (.c (.sl 0 0 L)), [.arr B1 xs 0 []]) := by kernel_rfl
theorem le8_take (n : Int) : (le8 n).take 8 = le8 n := List.take_of_length_le (Nat.le_refl _)
theorem runs {s : ByteArray} {xss : XS} {n : Nat} (hx : ∀ p ∈ xss, p.2 ≤ p.1.length) (hn : n ≤ xss.length) (hb : (frame s xss n).length ≤ 1099511627000) (hn2 : n ≤ 1099511627776) :
    Runs Tryd.prog A1 Tryd.f99 0 [.code (cd Tryd.f99)] (s0 s xss n) (.one (.c (.sl 0 0 (frame s xss n).length))) [.arr B1 (frame s xss n) 0 []] := by
  have hlen := frame_len s xss n
  have ha := a s xss n
  have e0 : (le8 s.size ++ strI s).length = 8 + s.size := by rw [List.length_append, le8_len, strI_len]
  rw [e0, decide_eq_true (show s.size < 9223372036854775808 by omega), strI_len, HRf.rm_true (by omega), HRf.rm_true (by omega), decide_eq_true rfl, le8_take] at ha
  refine Runs.piece okA1 mx ha rfl (by rfl) ?_
  have key := loopG (P := Tryd.prog) (S := A1) (fn := Tryd.f99) (m := 0) (K := K2) (v := .one (.c (.sl 0 0 (frame s xss n).length))) (hl := [.arr B1 (frame s xss n) 0 []])
    (st := fun i (_ : Unit) => st2 (Fr.H s n ++ frB (xss.take i)) (16 + s.size + (frB (xss.take i)).length) xss n i) (I := fun _ _ => True) (n := n)
    (fun i u hi _ => ⟨(), trivial, fun hr => ?_⟩) (fun u _ => ?_) n 0 () (by omega) trivial
  · have h0 : frB (xss.take 0) = [] := by rw [List.take_zero]; rfl
    rw [h0, List.append_nil] at key
    have e1 : 16 + s.size + ([] : List Int).length = 8 + s.size + 8 := by simp; omega
    rw [e1] at key
    exact key
  · have hil : i < xss.length := by omega
    have hl0 := frB_le (xss := xss) (n := n) (i + 1) (by omega)
    have hl1 : (Fr.H s n ++ frB (xss.take i)).length = 16 + s.size + (frB (xss.take i)).length := by rw [List.length_append, Fr.H_len]
    have hsu := frB_succ hil
    have htk := Fr.tk_len hx hil
    have hpl := congrArg List.length hsu
    rw [List.length_append, frP_len (by rw [List.length_take] at htk; omega)] at hpl
    have hc := c (Fr.H s n ++ frB (xss.take i)) (16 + s.size + (frB (xss.take i)).length) xss n i
    have e2 : ((Fr.H s n ++ frB (xss.take i)) ++ (le8 (xss.getD i ([], 0)).2)).length = 16 + s.size + (frB (xss.take i)).length + 8 := by
      rw [List.length_append, hl1, le8_len]
    have e3 : (Fr.H s n ++ frB (xss.take i)) ++ (le8 (xss.getD i ([], 0)).2) ++ (xss.getD i ([], 0)).1.take (xss.getD i ([], 0)).2 = Fr.H s n ++ frB (xss.take (i + 1)) := by
      rw [hsu]
      unfold frP
      simp only [List.append_assoc]
    rw [le8_take, e3, e2, hl1, htk, decide_eq_true rfl, decide_eq_true rfl, decide_eq_true (show (i : Int) < n by omega), decide_eq_true (show 0 ≤ (i : Int) ∧ (i : Int) < n by omega), HRf.rm_true (by omega), HRf.rm_true (by omega), iwk (by omega),
      show 16 + s.size + (frB (xss.take i)).length + 8 + (xss.getD i ([], 0)).2 = 16 + s.size + (frB (xss.take (i + 1))).length by omega] at hc
    exact Runs.piece okA1 mx hc rfl (by rfl) hr
  · have hd := d (Fr.H s n ++ frB (xss.take n)) (16 + s.size + (frB (xss.take n)).length) xss n n
    rw [decide_eq_false (by omega)] at hd
    rw [hlen]
    exact Runs.last okA1 mx hd rfl (by rfl)
end Fq
theorem ok_r8Frame0 : EntryOk Tryd.prog G1 99 TFrame := by
  refine EntryOk.runs (S := A1) (fn := Tryd.f99) (c := cd Tryd.f99) (by kernel_rfl) (by kernel_rfl) (by kernel_rfl) (fun vs hl r hl' ok h => ?_)
  unfold TFrame at h
  split at h
  · rename_i s xss n
    obtain ⟨h1, h2⟩ := val_chk h
    rw [Bool.and_eq_true] at h1
    have q1 := of_decide_eq_true h1.1
    have q2 := of_decide_eq_true h1.2
    obtain ⟨rfl, rfl⟩ := Prod.mk.inj (val_ret h2)
    exact Fq.runs (xss := xss) (fun p hp => (ok.2.1.2 p hp).1) ok.2.1.1 q2 q1
  · cases h
/-- nil parts, too -/
def TFrameN (vs : List V1) (hl : Heap) : Tree (SV × Heap) := TFrame (normL [none, some BB] vs) hl
noncomputable def A2 : Tab := (A1.put 94 1 TFrameN).put 99 1 TFrameN
theorem okA2 : SpecOk Tryd.prog A2 := (okA1.put (ok_tFrame0.norm [none, some BB] rfl)).put (ok_r8Frame0.norm [none, some BB] rfl)
end Go.Sc

namespace Go.Sc
open Go Go.SX Go.Proofs

def nxS (st : List Int) (w : ByteArray) (xss : XS) (n : Nat) : List Int := sha kT iT (frame w ((st, 64) :: xss.take n) (n + 1))
def rm24 (n : Nat) : Bool := SX.room n 24 && SX.room n 1
theorem rm24_true {n : Nat} (h : n ≤ 1099511627776) : rm24 n = true := by
  unfold rm24; simp [SX.room]; omega
def FX (st : List Int) (w : ByteArray) (xss : XS) (n : Nat) : List Int := frame w ((st, 64) :: xss.take n) (1 + (xss.take n).length)
theorem FX_eq (st : List Int) (w : ByteArray) {xss : XS} {n : Nat} (h : n ≤ xss.length) : FX st w xss n = frame w ((st, 64) :: xss.take n) (n + 1) := by
  unfold FX
  rw [List.length_take, Nat.min_eq_left h, Nat.add_comm]
theorem joined_one (xs : List Int) : joined [(xs, xs.length)] = xs := by
  unfold joined; simp
theorem tnext_b (st : List Int) (l m : Bool) (w : ByteArray) (xss : XS) (n : Nat) : (bodyT A2 Tryd.prog allLoops Tryd.f96 (cd Tryd.f96) [.g [.ws .u8 64 st, .c (.bool l m)], .c (.str w), .c (.ro BB xss n)] []).path [true, true, true, true] =
    some ([true, rm24 (1 + (xss.take n).length), decide (1 + (xss.take n).length ≤ 1099511627776) && decide ((FX st w xss n).length ≤ 1099511627000), decide ((joined [(FX st w xss n, (FX st w xss n).length)]).length ≤ 1099511627776)],
      .one (.g [.ws .u8 64 (sha kT iT (joined [(FX st w xss n, (FX st w xss n).length)]))]), []) := by kernel_rfl
def cp64 (st : List Int) : List Int := (List.range 64).map fun i => st.getD i 0
theorem cp64_eq {st : List Int} (h : st.length = 64) : cp64 st = st := by
  apply List.ext_getElem?
  intro i
  unfold cp64
  rw [List.getElem?_map]
  by_cases hi : i < 64
  · rw [List.getElem?_range hi, List.getElem?_eq_getElem (by omega)]
    simp [List.getD_eq_getElem?_getD, List.getElem?_eq_getElem (show i < st.length by omega)]
  · rw [List.getElem?_eq_none (by simpa using hi), List.getElem?_eq_none (by omega)]; rfl
theorem r8Next_b (st : List Int) (w : ByteArray) (xss : XS) (n : Nat) : (bodyT A2 Tryd.prog allLoops Tryd.f100 (cd Tryd.f100) [.g [.ws .u8 64 st], .c (.str w), .c (.ro BB xss n)] []).path (true :: List.replicate 64 true ++ [true, true, true]) =
    some (true :: List.replicate 64 true ++ [rm24 (1 + (xss.take n).length), decide (1 + (xss.take n).length ≤ 1099511627776) && decide ((FX (cp64 st) w xss n).length ≤ 1099511627000), decide ((FX (cp64 st) w xss n).length ≤ 1097000000000)],
      .one (.g [.ws .u8 64 (sha kT iT ((FX (cp64 st) w xss n).take (FX (cp64 st) w xss n).length))]), []) := by kernel_rfl
def Tnext (vs : List V1) (hl : Heap) : Tree (SV × Heap) :=
  match vs, hl with
  | [.g [.ws .u8 64 st, .c (.bool _ _)], .c (.str w), .c (.ro (.sl (.int .u8)) xss n)], [] => Tree.chk (decide (n ≤ 1099511627775) && decide ((frame w ((st, 64) :: List.take n xss) (n + 1)).length ≤ 1097000000000)) (.ret (.one (.g [.ws .u8 64 (nxS st w xss n)]), []))
  | _, _ => .fail
def Tr8Next (vs : List V1) (hl : Heap) : Tree (SV × Heap) :=
  match vs, hl with
  | [.g [.ws .u8 64 st], .c (.str w), .c (.ro (.sl (.int .u8)) xss n)], [] => Tree.chk (decide (n ≤ 1099511627775) && decide ((frame w ((st, 64) :: List.take n xss) (n + 1)).length ≤ 1097000000000)) (.ret (.one (.g [.ws .u8 64 (nxS st w xss n)]), []))
  | _, _ => .fail
theorem tnext_c (st : List Int) (l m : Bool) (w : ByteArray) (xss : XS) (n : Nat) (hn : n ≤ xss.length) (h1 : n ≤ 1099511627775) (h2 : (frame w ((st, 64) :: List.take n xss) (n + 1)).length ≤ 1097000000000) :
    (bodyT A2 Tryd.prog allLoops Tryd.f96 (cd Tryd.f96) [.g [.ws .u8 64 st, .c (.bool l m)], .c (.str w), .c (.ro BB xss n)] []).path [true, true, true, true] = some ([true, true, true, true], .one (.g [.ws .u8 64 (nxS st w xss n)]), []) := by
  rw [tnext_b, FX_eq _ _ hn, joined_one, List.length_take, Nat.min_eq_left hn, rm24_true (by omega), decide_eq_true (by omega), decide_eq_true (by omega), decide_eq_true (by omega)]
  rfl
theorem r8Next_c (st : List Int) (w : ByteArray) (xss : XS) (n : Nat) (hs : st.length = 64) (hn : n ≤ xss.length) (h1 : n ≤ 1099511627775) (h2 : (frame w ((st, 64) :: List.take n xss) (n + 1)).length ≤ 1097000000000) :
    (bodyT A2 Tryd.prog allLoops Tryd.f100 (cd Tryd.f100) [.g [.ws .u8 64 st], .c (.str w), .c (.ro BB xss n)] []).path (true :: List.replicate 64 true ++ [true, true, true]) = some (true :: List.replicate 64 true ++ [true, true, true], .one (.g [.ws .u8 64 (nxS st w xss n)]), []) := by
  rw [r8Next_b, cp64_eq hs, FX_eq _ _ hn, List.take_length, List.length_take, Nat.min_eq_left hn, rm24_true (by omega), decide_eq_true (by omega), decide_eq_true (by omega), decide_eq_true (by omega)]
  rfl
theorem ok_tnext0 : EntryOk Tryd.prog G1 96 Tnext := by
  refine EntryOk.sub (bodyT_ok okA2 mx (un := allLoops) (fn := Tryd.f96) (c := cd Tryd.f96) (by kernel_rfl) (by kernel_rfl) (by kernel_rfl)) (fun vs hl r ok h => ?_)
  unfold Tnext at h
  split at h
  · rename_i st l m w xss n
    obtain ⟨h1, h2⟩ := val_chk h
    rw [Bool.and_eq_true] at h1
    obtain rfl := val_ret h2
    exact Tree.path_val (tnext_c st l m w xss n ok.2.2.1.1 (of_decide_eq_true h1.1) (of_decide_eq_true h1.2))
  · cases h
theorem ok_r8Next0 : EntryOk Tryd.prog G1 100 Tr8Next := by
  refine EntryOk.sub (bodyT_ok okA2 mx (un := allLoops) (fn := Tryd.f100) (c := cd Tryd.f100) (by kernel_rfl) (by kernel_rfl) (by kernel_rfl)) (fun vs hl r ok h => ?_)
  unfold Tr8Next at h
  split at h
  · rename_i st w xss n
    obtain ⟨h1, h2⟩ := val_chk h
    rw [Bool.and_eq_true] at h1
    obtain rfl := val_ret h2
    exact Tree.path_val (r8Next_c st w xss n ok.1.1.1 ok.2.2.1.1 (of_decide_eq_true h1.1) (of_decide_eq_true h1.2))
  · cases h
noncomputable def A3 : Tab := (A2.put 96 0 Tnext).put 100 0 Tr8Next
theorem okA3 : SpecOk Tryd.prog A3 := (okA2.put ok_tnext0).put ok_r8Next0

/-! ### new transcripts -/
def tvS : ByteArray := ⟨#[118, 101, 105, 108, 32, 116, 114, 97, 110, 115, 99, 114, 105, 112, 116]⟩
def newS (s : ByteArray) : List Int := sha kT iT (frame tvS [(strI s, s.size)] 1)
def FN (s : ByteArray) : List Int := frame tvS [(strI s, s.size)] 1
theorem tNew_b (s : ByteArray) : (bodyT A3 Tryd.prog allLoops Tryd.f80 (cd Tryd.f80) [.c (.str s)] []).path [true, true, true] =
    some ([decide (s.size ≤ 140737488355328), decide ((FN s).length ≤ 1099511627000), decide ((joined [(FN s, (FN s).length)]).length ≤ 1099511627776)],
      .one (.c (.ptr 0 0 0 0 0 0)), [.vals [.ws .u8 64 (sha kT iT (joined [(FN s, (FN s).length)])), .c (.bool true true)]]) := by kernel_rfl
theorem r8New_b (s : ByteArray) : (bodyT A3 Tryd.prog allLoops Tryd.f84 (cd Tryd.f84) [.c (.str s)] []).path [true, true, true] =
    some ([decide (s.size ≤ 140737488355328), decide ((FN s).length ≤ 1099511627000), decide ((FN s).length ≤ 1097000000000)],
      .one (.g [.ws .u8 64 (sha kT iT ((FN s).take (FN s).length))]), []) := by kernel_rfl
def TtNew (vs : List V1) (hl : Heap) : Tree (SV × Heap) :=
  match vs, hl with
  | [.c (.str s)], [] => Tree.chk (decide (s.size ≤ 1000000000000)) (.ret (.one (.c (.ptr 0 0 0 0 0 0)), [.vals [.ws .u8 64 (newS s), .c (.bool true true)]]))
  | _, _ => .fail
def Tr8New (vs : List V1) (hl : Heap) : Tree (SV × Heap) :=
  match vs, hl with
  | [.c (.str s)], [] => Tree.chk (decide (s.size ≤ 1000000000000)) (.ret (.one (.g [.ws .u8 64 (newS s)]), []))
  | _, _ => .fail
theorem FN_len (s : ByteArray) : (FN s).length = 39 + s.size := by
  unfold FN
  rw [frame_len]
  have e : frB (List.take 1 [(strI s, s.size)]) = frP (strI s, s.size) := by
    show (([frP (strI s, s.size)]).flatten) = _
    simp
  rw [e, frP_len (by rw [strI_len]; exact Nat.le_refl _)]
  show 16 + 15 + (8 + s.size) = _
  omega
theorem ok_tNew : EntryOk Tryd.prog G1 80 TtNew := by
  refine EntryOk.sub (bodyT_ok okA3 mx (un := allLoops) (fn := Tryd.f80) (c := cd Tryd.f80) (by kernel_rfl) (by kernel_rfl) (by kernel_rfl)) (fun vs hl r ok h => ?_)
  unfold TtNew at h
  split at h
  · rename_i s
    obtain ⟨h1, h2⟩ := val_chk h
    have h1 := of_decide_eq_true h1
    obtain rfl := val_ret h2
    have hp := tNew_b s
    have hl := FN_len s
    rw [joined_one, decide_eq_true (by omega), decide_eq_true (by omega), decide_eq_true (by omega)] at hp
    exact Tree.path_val hp
  · cases h
theorem ok_r8New : EntryOk Tryd.prog G1 84 Tr8New := by
  refine EntryOk.sub (bodyT_ok okA3 mx (un := allLoops) (fn := Tryd.f84) (c := cd Tryd.f84) (by kernel_rfl) (by kernel_rfl) (by kernel_rfl)) (fun vs hl r ok h => ?_)
  unfold Tr8New at h
  split at h
  · rename_i s
    obtain ⟨h1, h2⟩ := val_chk h
    have h1 := of_decide_eq_true h1
    obtain rfl := val_ret h2
    have hp := r8New_b s
    have hl := FN_len s
    rw [List.take_length, decide_eq_true (by omega), decide_eq_true (by omega), decide_eq_true (by omega)] at hp
    exact Tree.path_val hp
  · cases h
def tb (st : List Int) (l : Bool) : Blk := .vals [.ws .u8 64 st, .c (.bool l true)]
theorem lives_b (st : List Int) : (bodyT A3 Tryd.prog allLoops Tryd.f95 (cd Tryd.f95) [ptr0] [tb st false]).path [] = some ([], .one (.c (.bool false true)), [tb st false]) := by kernel_rfl
def Tlives (vs : List V1) (hl : Heap) : Tree (SV × Heap) :=
  match vs, hl with
  | [.c (.ptr 0 0 0 0 0 0)], [.vals [.ws .u8 64 st, .c (.bool _ true)]] => .ret (.one (.c (.bool false true)), [tb st false])
  | _, _ => .fail
theorem ok_lives : EntryOk Tryd.prog G1 95 Tlives := by
  refine EntryOk.subH (bodyT_ok okA3 mx (un := allLoops) (fn := Tryd.f95) (c := cd Tryd.f95) (by kernel_rfl) (by kernel_rfl) (by kernel_rfl)) (fun vs hl r ok okh h => ?_)
  unfold Tlives at h
  split at h
  · rename_i st l
    obtain rfl := val_ret h
    exact Tree.path_val (lives_b st)
  · cases h
noncomputable def A4 : Tab := ((A3.put 80 1 TtNew).put 84 0 Tr8New).put 95 0 Tlives
theorem okA4 : SpecOk Tryd.prog A4 := ((okA3.put ok_tNew).put ok_r8New).put ok_lives
end Go.Sc

namespace Go.Sc
open Go Go.SX Go.Proofs

def encL (xs : List Int) : List Int := (List.range 32).map fun i => u8 ((xs.getD (i / 8) 0).fdiv (2 ^ (8 * (i % 8))))
def TEnc (vs : List V1) (hl : Heap) : Tree (SV × Heap) :=
  match vs, hl with
  | [.g [.ws .u64 4 xs]], [] => .ret (.one (.g [.ws .u8 32 (encL (limbs (val xs % ell)))]), [])
  | _, _ => .fail
def TrEnc (vs : List V1) (hl : Heap) : Tree (SV × Heap) :=
  match vs, hl with
  | [.g [.ws .u64 4 xs]], [] => .ret (.one (.g [.ws .u8 32 (encL xs)]), [])
  | _, _ => .fail
def TIsZ (vs : List V1) (hl : Heap) : Tree (SV × Heap) :=
  match vs, hl with
  | [.g [.ws .u64 4 xs]], [] => .ret (.one (.c (.bool false (decide (val xs % ell = 0)))), [])
  | _, _ => .fail
theorem Enc_b (xs : List Int) : (bodyT A4 Tryd.prog allLoops Tryd.f60 (cd Tryd.f60) [ws xs] []).path [] = some ([], .one (.g [.ws .u8 32 (encL (limbs (val xs % ell)))]), []) := by kernel_rfl
theorem rEnc_b (xs : List Int) : (bodyT A4 Tryd.prog allLoops Tryd.f43 (cd Tryd.f43) [ws xs] []).path [] = some ([], .one (.g [.ws .u8 32 (encL xs)]), []) := by kernel_rfl
theorem IsZ_b (xs : List Int) : (bodyT A4 Tryd.prog allLoops Tryd.f97 (cd Tryd.f97) [ws xs] []).path [] = some ([], .one (.c (.bool false (limbs (val xs % ell) == [0, 0, 0, 0] && true))), []) := by kernel_rfl
theorem ok_Enc : EntryOk Tryd.prog G1 60 TEnc := by
  refine EntryOk.sub (bodyT_ok okA4 mx (un := allLoops) (fn := Tryd.f60) (c := cd Tryd.f60) (by kernel_rfl) (by kernel_rfl) (by kernel_rfl)) (fun vs hl r ok h => ?_)
  unfold TEnc at h
  split at h
  · rename_i xs
    obtain rfl := val_ret h
    exact Tree.path_val (Enc_b xs)
  · cases h
theorem ok_rEnc : EntryOk Tryd.prog G1 43 TrEnc := by
  refine EntryOk.sub (bodyT_ok okA4 mx (un := allLoops) (fn := Tryd.f43) (c := cd Tryd.f43) (by kernel_rfl) (by kernel_rfl) (by kernel_rfl)) (fun vs hl r ok h => ?_)
  unfold TrEnc at h
  split at h
  · rename_i xs
    obtain rfl := val_ret h
    exact Tree.path_val (rEnc_b xs)
  · cases h
theorem ok_IsZ : EntryOk Tryd.prog G1 97 TIsZ := by
  refine EntryOk.sub (bodyT_ok okA4 mx (un := allLoops) (fn := Tryd.f97) (c := cd Tryd.f97) (by kernel_rfl) (by kernel_rfl) (by kernel_rfl)) (fun vs hl r ok h => ?_)
  unfold TIsZ at h
  split at h
  · rename_i xs
    obtain rfl := val_ret h
    have hp := IsZ_b xs
    rw [isZero_eq (okL_limbs _), val_mod] at hp
    exact Tree.path_val hp
  · cases h

def abS : ByteArray := ⟨#[97, 98, 115, 111, 114, 98]⟩
def drS : ByteArray := ⟨#[100, 114, 97, 119]⟩
def dnS : ByteArray := ⟨#[100, 114, 97, 119, 110]⟩
def absF (w : ByteArray) (xss : XS) (n : Nat) : XS := [(frame w xss n, (frame w xss n).length)]
def absS (st : List Int) (w : ByteArray) (xss : XS) (n : Nat) : List Int := nxS st abS (absF w xss n) 1
theorem tAbs_b (st : List Int) (w : ByteArray) (xss : XS) (n : Nat) : (bodyT A4 Tryd.prog allLoops Tryd.f82 (cd Tryd.f82) [ptr0, .c (.str w), .c (.ro BB xss n)] [tb st false]).path [true, true, true] =
    some ([true, decide (n ≤ 1099511627776) && decide ((frame w xss n).length ≤ 1099511627000), decide ((frame abS ((st, 64) :: List.take 1 (absF w xss n)) 2).length ≤ 1097000000000)], .tup [], [tb (absS st w xss n) false]) := by kernel_rfl
theorem r8Abs_b (st : List Int) (w : ByteArray) (xss : XS) (n : Nat) : (bodyT A4 Tryd.prog allLoops Tryd.f85 (cd Tryd.f85) [.g [.ws .u8 64 st], .c (.str w), .c (.ro BB xss n)] []).path [true, true] =
    some ([decide (n ≤ 1099511627776) && decide ((frame w xss n).length ≤ 1099511627000), decide ((frame abS ((st, 64) :: List.take 1 (absF w xss n)) 2).length ≤ 1097000000000)], .one (.g [.ws .u8 64 (absS st w xss n)]), []) := by kernel_rfl
theorem fr1_len (st : List Int) (w : ByteArray) (xs : List Int) (n : Nat) (hs : st.length = 64) (hn : n ≤ xs.length) : (frame w ((st, 64) :: List.take 1 [(xs, n)]) 2).length = 96 + w.size + n := by
  rw [frame_len]
  have e : frB (List.take 2 ((st, 64) :: List.take 1 [(xs, n)])) = frP (st, 64) ++ frP (xs, n) := by
    show (([frP (st, 64), frP (xs, n)]).flatten) = _
    simp
  rw [e, List.length_append, frP_len (by rw [hs]; exact Nat.le_refl _), frP_len hn]
  show 16 + w.size + (8 + 64 + (8 + n)) = _
  omega
theorem absF_len (st : List Int) (w : ByteArray) (xss : XS) (n : Nat) (hs : st.length = 64) : (frame abS ((st, 64) :: List.take 1 (absF w xss n)) 2).length = 102 + (frame w xss n).length := by
  unfold absF
  rw [fr1_len st abS _ _ hs (Nat.le_refl _)]
  show 96 + 6 + _ = _
  omega
def TtAbs0 (vs : List V1) (hl : Heap) : Tree (SV × Heap) :=
  match vs, hl with
  | [.c (.ptr 0 0 0 0 0 0), .c (.str w), .c (.ro (.sl (.int .u8)) xss n)], [.vals [.ws .u8 64 st, .c (.bool _ true)]] => Tree.chk (decide (n ≤ 1099511627776) && decide ((frame w xss n).length ≤ 1096000000000)) (.ret (.tup [], [tb (absS st w xss n) false]))
  | _, _ => .fail
def Tr8Abs0 (vs : List V1) (hl : Heap) : Tree (SV × Heap) :=
  match vs, hl with
  | [.g [.ws .u8 64 st], .c (.str w), .c (.ro (.sl (.int .u8)) xss n)], [] => Tree.chk (decide (n ≤ 1099511627776) && decide ((frame w xss n).length ≤ 1096000000000)) (.ret (.one (.g [.ws .u8 64 (absS st w xss n)]), []))
  | _, _ => .fail
theorem ok_tAbs : EntryOk Tryd.prog G1 82 TtAbs0 := by
  refine EntryOk.subH (bodyT_ok okA4 mx (un := allLoops) (fn := Tryd.f82) (c := cd Tryd.f82) (by kernel_rfl) (by kernel_rfl) (by kernel_rfl)) (fun vs hl r ok okh h => ?_)
  unfold TtAbs0 at h
  split at h
  · rename_i w xss n st l
    obtain ⟨h1, h2⟩ := val_chk h
    rw [Bool.and_eq_true] at h1
    have q1 := of_decide_eq_true h1.1
    have q2 := of_decide_eq_true h1.2
    obtain rfl := val_ret h2
    have hp := tAbs_b st w xss n
    have hs : st.length = 64 := (okh _ (List.mem_cons_self ..)).1.1
    rw [absF_len st w xss n hs, decide_eq_true q1, decide_eq_true (by omega), decide_eq_true (by omega)] at hp
    exact Tree.path_val hp
  · cases h
theorem ok_r8Abs : EntryOk Tryd.prog G1 85 Tr8Abs0 := by
  refine EntryOk.sub (bodyT_ok okA4 mx (un := allLoops) (fn := Tryd.f85) (c := cd Tryd.f85) (by kernel_rfl) (by kernel_rfl) (by kernel_rfl)) (fun vs hl r ok h => ?_)
  unfold Tr8Abs0 at h
  split at h
  · rename_i st w xss n
    obtain ⟨h1, h2⟩ := val_chk h
    rw [Bool.and_eq_true] at h1
    have q1 := of_decide_eq_true h1.1
    have q2 := of_decide_eq_true h1.2
    obtain rfl := val_ret h2
    have hp := r8Abs_b st w xss n
    have hs : st.length = 64 := ok.1.1.1
    rw [absF_len st w xss n hs, decide_eq_true q1, decide_eq_true (by omega), decide_eq_true (by omega)] at hp
    exact Tree.path_val hp
  · cases h
noncomputable def A5 : Tab := ((((A4.put 60 0 TEnc).put 43 0 TrEnc).put 97 0 TIsZ).put 82 0 TtAbs0).put 85 0 Tr8Abs0
theorem okA5 : SpecOk Tryd.prog A5 := ((((okA4.put ok_Enc).put ok_rEnc).put ok_IsZ).put ok_tAbs).put ok_r8Abs
end Go.Sc

namespace Go.Sc
open Go Go.SX Go.Proofs

def drF (w : ByteArray) : XS := [(strI w, w.size)]
def drw (st : List Int) (w : ByteArray) : List Int := nxS st drS (drF w) 1
def drn (st : List Int) (w : ByteArray) : List Int := nxS st dnS [(drw st w, 64)] 1
def dch (st : List Int) (w : ByteArray) : Int := dg 256 (drw st w) % ell
noncomputable def A6 : Tab := (A5.own [26]).view [96]
theorem okA6 : SpecOk Tryd.prog A6 := okA5.own.view
theorem outB_len (v : List Int) : (outB v).length = 64 := by
  unfold outB
  rfl
theorem sha_len (K h m : List Int) : (sha K h m).length = 64 := outB_len _
theorem nxS_len (st : List Int) (w : ByteArray) (xss : XS) (n : Nat) : (nxS st w xss n).length = 64 := sha_len _ _ _
theorem tDraw_b (st : List Int) (w : ByteArray) (z : Bool) : (bodyT A6 Tryd.prog allLoops Tryd.f83 (cd Tryd.f83) [ptr0, .c (.str w)] [tb st false]).path [false, true, true, true, true, z] =
    some ([false, decide (w.size ≤ 140737488355328), decide ((frame drS ((st, 64) :: List.take 1 (drF w)) 2).length ≤ 1097000000000), true, decide ((frame dnS ((st, 64) :: List.take 1 [(drw st w, 64)]) 2).length ≤ 1097000000000),
      decide (val (limbs (dch st w)) % ell = 0)], .tup [bif z then ws [0, 0, 0, 0] else ws (limbs (dch st w)), .c (.int true .i64 (bif z then 4 else 0))], [tb (drn st w) false]) := by
  cases z <;> kernel_rfl
theorem r8Draw_b (st : List Int) (w : ByteArray) (z : Bool) : (bodyT A6 Tryd.prog allLoops Tryd.f86 (cd Tryd.f86) [.g [.ws .u8 64 st], .c (.str w)] []).path ([true, true, true] ++ List.replicate 64 true ++ [true, z]) =
    some ([decide (w.size ≤ 140737488355328), decide ((frame drS ((st, 64) :: List.take 1 (drF w)) 2).length ≤ 1097000000000), true] ++ List.replicate 64 true ++ [decide ((frame dnS ((st, 64) :: List.take 1 [(cp64 (drw st w), 64)]) 2).length ≤ 1097000000000),
      (limbs (dch st w) == [0, 0, 0, 0] && true)], .tup [.g [.ws .u8 64 (nxS st dnS [(cp64 (drw st w), 64)] 1)], ws (limbs (dch st w)), .c (.int true .i64 (bif z then 4 else 0))], []) := by
  cases z <;> kernel_rfl
theorem dch_bound (st : List Int) (w : ByteArray) : 0 ≤ dch st w ∧ dch st w < ell := by
  unfold dch; exact mod_bound _
def eZ (c : Int) : Int := if c = 0 then 4 else 0
def TtDraw1 (vs : List V1) (hl : Heap) : Tree (SV × Heap) :=
  match vs, hl with
  | [.c (.ptr 0 0 0 0 0 0), .c (.str w)], [.vals [.ws .u8 64 st, .c (.bool _ true)]] => Tree.chk (decide (w.size ≤ 1000000000000)) (.ret (.tup [ws (limbs (dch st w)), .c (.int true .i64 (eZ (dch st w)))], [tb (drn st w) false]))
  | _, _ => .fail
def TtDraw (vs : List V1) (hl : Heap) : Tree (SV × Heap) :=
  match vs, hl with
  | [.c (.ptr 0 0 0 0 0 0), .c (.str w)], [.vals [.ws .u8 64 st, .c (.bool _ true)]] => Tree.chk (decide (w.size ≤ 1000000000000)) (.ret (.tup [ws (limbs (dch st w)), .c (.int false .i64 (eZ (dch st w)))], [tb (drn st w) false]))
  | _, _ => .fail
def Tr8Draw (vs : List V1) (hl : Heap) : Tree (SV × Heap) :=
  match vs, hl with
  | [.g [.ws .u8 64 st], .c (.str w)], [] => Tree.chk (decide (w.size ≤ 1000000000000)) (.ret (.tup [.g [.ws .u8 64 (drn st w)], ws (limbs (dch st w)), .c (.int false .i64 (eZ (dch st w)))], []))
  | _, _ => .fail
theorem limbs_zero : limbs 0 = [0, 0, 0, 0] := by decide
theorem dr_len1 (st : List Int) (w : ByteArray) (hs : st.length = 64) : (frame drS ((st, 64) :: List.take 1 (drF w)) 2).length = 100 + w.size := by
  unfold drF
  rw [fr1_len st drS (strI w) w.size hs (by rw [strI_len]; exact Nat.le_refl _)]
  show 96 + 4 + w.size = _
  omega
theorem dr_len2 (st : List Int) (xs : List Int) (hs : st.length = 64) (hx : xs.length = 64) : (frame dnS ((st, 64) :: List.take 1 [(xs, 64)]) 2).length = 165 := by
  rw [fr1_len st dnS xs 64 hs (by omega)]; rfl
theorem ok_tDraw1 : EntryOk Tryd.prog G1 83 TtDraw1 := by
  refine EntryOk.subH (bodyT_ok okA6 mx (un := allLoops) (fn := Tryd.f83) (c := cd Tryd.f83) (by kernel_rfl) (by kernel_rfl) (by kernel_rfl)) (fun vs hl r ok okh h => ?_)
  unfold TtDraw1 at h
  split at h
  · rename_i w st l
    obtain ⟨h1, h2⟩ := val_chk h
    have q1 := of_decide_eq_true h1
    obtain rfl := val_ret h2
    have hs : st.length = 64 := (okh _ (List.mem_cons_self ..)).1.1
    have e2 : val (limbs (dch st w)) % ell = dch st w := by
      unfold dch; rw [val_mod, Int.emod_emod_of_dvd _ (Int.dvd_refl _)]
    by_cases hz : dch st w = 0
    · have hp := tDraw_b st w true
      rw [dr_len1 st w hs, dr_len2 st (drw st w) hs (nxS_len ..), e2, decide_eq_true (by omega), decide_eq_true (by omega), decide_eq_true (by omega), decide_eq_true hz] at hp
      rw [hz, limbs_zero]
      exact Tree.path_val hp
    · have hp := tDraw_b st w false
      have e : eZ (dch st w) = 0 := if_neg hz
      rw [dr_len1 st w hs, dr_len2 st (drw st w) hs (nxS_len ..), e2, decide_eq_true (by omega), decide_eq_true (by omega), decide_eq_true (by omega), decide_eq_false hz] at hp
      rw [e]
      exact Tree.path_val hp
  · cases h
theorem ok_tDraw : EntryOk Tryd.prog G1 83 TtDraw := by
  refine EntryOk.subU ok_tDraw1 (fun vs hl r ok h => ?_)
  unfold TtDraw at h
  split at h
  · rename_i w st l
    obtain ⟨h1, h2⟩ := val_chk h
    obtain rfl := val_ret h2
    refine ⟨.tup [ws (limbs (dch st w)), .c (.int true .i64 (eZ (dch st w)))], ?_, rfl⟩
    show (Tree.chk (decide (w.size ≤ 1000000000000)) (.ret (SV.tup [ws (limbs (dch st w)), .c (.int true .i64 (eZ (dch st w)))], [tb (drn st w) false]))).val = _
    rw [h1]; rfl
  · cases h
theorem ok_r8Draw : EntryOk Tryd.prog G1 86 Tr8Draw := by
  refine EntryOk.subU (bodyT_ok okA6 mx (un := allLoops) (fn := Tryd.f86) (c := cd Tryd.f86) (by kernel_rfl) (by kernel_rfl) (by kernel_rfl)) (fun vs hl r ok h => ?_)
  unfold Tr8Draw at h
  split at h
  · rename_i st w
    obtain ⟨h1, h2⟩ := val_chk h
    have q1 := of_decide_eq_true h1
    obtain rfl := val_ret h2
    have hs : st.length = 64 := ok.1.1.1
    have hb := dch_bound st w
    have e2 : val (limbs (dch st w)) = dch st w := by
      unfold dch; rw [val_mod]
    have hd : cp64 (drw st w) = drw st w := cp64_eq (nxS_len ..)
    refine ⟨.tup [.g [.ws .u8 64 (drn st w)], ws (limbs (dch st w)), .c (.int true .i64 (eZ (dch st w)))], ?_, rfl⟩
    by_cases hz : dch st w = 0
    · have hp := r8Draw_b st w true
      rw [isZero_eq (okL_limbs _), e2, hd, dr_len1 st w hs, dr_len2 st (drw st w) hs (nxS_len ..), decide_eq_true (by omega), decide_eq_true (by omega), decide_eq_true (by omega), decide_eq_true hz] at hp
      have e : eZ (dch st w) = 4 := if_pos hz
      rw [e]
      exact Tree.path_val hp
    · have hp := r8Draw_b st w false
      rw [isZero_eq (okL_limbs _), e2, hd, dr_len1 st w hs, dr_len2 st (drw st w) hs (nxS_len ..), decide_eq_true (by omega), decide_eq_true (by omega), decide_eq_true (by omega), decide_eq_false hz] at hp
      have e : eZ (dch st w) = 0 := if_neg hz
      rw [e]
      exact Tree.path_val hp
  · cases h
noncomputable def A7 : Tab := (A5.put 83 0 TtDraw).put 86 0 Tr8Draw
theorem okA7 : SpecOk Tryd.prog A7 := (okA5.put ok_tDraw).put ok_r8Draw
end Go.Sc

namespace Go.Sc
open Go Go.SX Go.Proofs

/-- the document's oracle: what it bears -/
def ob (l : Bool) (st : List Int) (ls at_ : FCell) (hd : Cell) : Blk := .vals [.c (.bool l false), .ws .u8 64 st, ls, at_, .c hd]
abbrev ol (st : List Int) (hd : Cell) : Blk := ob false st (.c .nils) (.c (.int false .i64 0)) hd
abbrev SAID : DTy := .pair .bool (.pair .str (.pair (.sl (.sl (.int .u8))) .unit))
abbrev Said := Bool × (ByteArray × ((List (List Int × Nat) × Nat) × Unit))
def cpP (p : List Int × Nat) : List Int × Nat := (p.1.take p.2, (p.1.take p.2).length)
def hdB (hv : Bool) (hs : List Said) : Heap := match hv with | true => [.arr SAID hs 0 []] | false => []
def hdC (hv : Bool) (m : Nat) : Cell := match hv with | true => .sl 1 0 m | false => .nils
namespace Oa
noncomputable def r (k : Nat) (is : List Item) (s : St) : Tree Out := runK A7 Tryd.prog noLoops k is s
noncomputable def s0 (hv : Bool) (hs : List Said) (m : Nat) (st : List Int) (w : ByteArray) (xss : XS) (n : Nat) : St := ⟨enterT Tryd.f63 [ptr0, .c (.str w), .c (.ro BB xss n)], ol st (hdC hv m) :: hdB hv hs⟩
noncomputable def K0 : List Item := leftT [] (r 400 [.code (cd Tryd.f63)] (s0 false [] 0 [] ByteArray.empty [] 0))
def sdB (w : ByteArray) (c : Cell) : Blk := .vals [.c (.bool true false), .c (.str w), .c c]
def pC (hv pv : Bool) (k : Nat) : Cell := match pv, hv with | true, true => .sl 3 0 k | true, false => .sl 2 0 k | false, _ => .nils
def pH (pv : Bool) (ys : XS) : Heap := match pv with | true => [.arr BB ys 0 []] | false => []
def sP (hv : Bool) : SV := match hv with | true => pt 2 | false => pt 1
noncomputable def s1 (hv : Bool) (hs : List Said) (m : Nat) (st : List Int) (w : ByteArray) (xss : XS) (n : Nat) (pv : Bool) (ys : XS) (k : Nat) (i : Int) : St := ⟨slotsOf 51 [(0, pt 0), (1, one (.str w)), (2, one (.ro BB xss n)), (6, sP hv), (7, one (.int false .i64 i))],
  (ol st (hdC hv m) :: hdB hv hs) ++ (sdB w (pC hv pv k) :: pH pv ys)⟩
def kp (hv pv : Bool) : List Nat := match hv, pv with | true, true => [0, 1, 2, 6] | true, false => [0, 1, 2, 5] | false, true => [0, 1, 5] | false, false => [0, 1, 4]
def kS (hv : Bool) : List Nat := match hv with | true => [0, 1, 2] | false => [0, 1]
theorem a (hv : Bool) (hs : List Said) (m : Nat) (st : List Int) (w : ByteArray) (xss : XS) (n : Nat) : pieceT [0, 1, 2, 6, 7] [7] (kS hv) [] (r 400 [.code (cd Tryd.f63)] (s0 hv hs m st w xss n)) =
    some ([], K0, s1 hv hs m st w xss n false [] 0 (0 : Nat)) := by
  cases hv <;> kernel_rfl
theorem f (hv : Bool) (hs : List Said) (m : Nat) (st : List Int) (w : ByteArray) (xss : XS) (n i : Nat) : pieceT [0, 1, 2, 6, 7] [7] (kp hv false) [true, true, true, true] (r 400 K0 (s1 hv hs m st w xss n false [] 0 i)) =
    some ([decide ((i : Int) < n), decide (0 ≤ (i : Int) ∧ (i : Int) < n), HRf.rm ((xss.getD i ([], 0)).1.take (xss.getD i ([], 0)).2).length, rm24 1], K0,
      s1 hv hs m st w xss n true [cpP (xss.getD i ([], 0))] 1 (iw ((i : Int) + 1))) := by
  cases hv <;> kernel_rfl
theorem c (hv : Bool) (hs : List Said) (m : Nat) (st : List Int) (w : ByteArray) (xss : XS) (n : Nat) (ys : XS) (k i : Nat) : pieceT [0, 1, 2, 6, 7] [7] (kp hv true) [true, true, true, true] (r 400 K0 (s1 hv hs m st w xss n true ys k i)) =
    some ([decide ((i : Int) < n), decide (0 ≤ (i : Int) ∧ (i : Int) < n), HRf.rm ((xss.getD i ([], 0)).1.take (xss.getD i ([], 0)).2).length, decide (k = ys.length) && rm24 (k + 1)], K0,
      s1 hv hs m st w xss n true (ys ++ [cpP (xss.getD i ([], 0))]) (k + 1) (iw ((i : Int) + 1))) := by
  cases hv <;> kernel_rfl
def sdD (w : ByteArray) (pv : Bool) (ys : XS) (k : Nat) : Said := (false, w, (match pv with | true => (ys, k) | false => ([], 0)), ())
def rmS (n : Nat) : Bool := SX.room n 48 && SX.room n 1
def eids (hv pv : Bool) : List Nat := match hv, pv with | true, true => [0, 1, 5] | true, false => [0, 1, 4] | false, true => [0, 4] | false, false => [0, 3]
theorem e1 (hs : List Said) (m : Nat) (st : List Int) (w : ByteArray) (xss : XS) (n : Nat) (pv : Bool) (ys : XS) (k i : Nat) : endT Tryd.prog Tryd.f63 (eids true pv) [false, true, true, true] (r 400 K0 (s1 true hs m st w xss n pv ys k i)) =
    some ([decide ((i : Int) < n), decide (m = hs.length) && rmS (m + 1), true, decide (n ≤ 1099511627776) && decide ((frame w xss n).length ≤ 1096000000000)], .tup [],
      [ol (absS st w xss n) (.sl 2 0 (m + 1)), .frz SAID hs, .arr SAID (hs ++ [sdD w pv ys k]) m [1]]) := by
  cases pv <;> kernel_rfl
theorem e0 (hs : List Said) (m : Nat) (st : List Int) (w : ByteArray) (xss : XS) (n : Nat) (pv : Bool) (ys : XS) (k i : Nat) : endT Tryd.prog Tryd.f63 (eids false pv) [false, true, true, true] (r 400 K0 (s1 false hs m st w xss n pv ys k i)) =
    some ([decide ((i : Int) < n), rmS 1, true, decide (n ≤ 1099511627776) && decide ((frame w xss n).length ≤ 1096000000000)], .tup [],
      [ol (absS st w xss n) (.sl 1 0 1), .arr SAID [sdD w pv ys k] 0 []]) := by
  cases pv <;> kernel_rfl
theorem rmS_true {n : Nat} (h : n ≤ 1099511627776) : rmS n = true := by
  unfold rmS; simp [SX.room]; omega
theorem getD_mem {xss : XS} {i : Nat} (h : i < xss.length) : xss.getD i ([], 0) ∈ xss := by
  rw [List.getD_eq_getElem?_getD, List.getElem?_eq_getElem h]; exact List.getElem_mem h
theorem cps_succ {xss : XS} {i : Nat} (h : i < xss.length) : (xss.take (i + 1)).map cpP = (xss.take i).map cpP ++ [cpP (xss.getD i ([], 0))] := by
  rw [List.take_succ_eq_append_getElem h, List.map_append, List.getD_eq_getElem?_getD, List.getElem?_eq_getElem h]; rfl
theorem part_le {w : ByteArray} {xss : XS} {n i : Nat} (hx : ∀ p ∈ xss, p.2 ≤ p.1.length) (hn : n ≤ xss.length) (hi : i < n) : (xss.getD i ([], 0)).2 ≤ (frame w xss n).length := by
  have h1 := frB_le (xss := xss) (n := n) (i + 1) (by omega)
  have h2 := congrArg List.length (frB_succ (xss := xss) (i := i) (by omega))
  rw [List.length_append, frP_len (hx _ (getD_mem (by omega)))] at h2
  have h3 := frame_len w xss n
  omega
theorem loop {hv : Bool} {hs : List Said} {m : Nat} {st : List Int} {w : ByteArray} {xss : XS} {n M : Nat} {hl : Heap} (hx : ∀ p ∈ xss, p.2 ≤ p.1.length) (hn : n ≤ xss.length) (hb : (frame w xss n).length ≤ 1096000000000) (hn2 : n ≤ 1099511627775) (h0 : 0 < n)
    (hM : M = (kS hv).length - 1)
    (hlast : Runs Tryd.prog A7 Tryd.f63 M K0 (s1 hv hs m st w xss n true ((xss.take n).map cpP) n (n : Nat)) (.tup []) hl) :
    Runs Tryd.prog A7 Tryd.f63 M K0 (s1 hv hs m st w xss n false [] 0 (0 : Nat)) (.tup []) hl := by
  have hids : ∀ b, idsOk M (kp hv b) = true := fun b => by subst hM; cases hv <;> cases b <;> rfl
  have hpl : ∀ i, i < n → ((xss.getD i ([], 0)).1.take (xss.getD i ([], 0)).2).length ≤ 1096000000000 := fun i hi => by
    have := part_le (w := w) hx hn hi
    rw [List.length_take]; omega
  have key := loopG (P := Tryd.prog) (S := A7) (fn := Tryd.f63) (m := M) (K := K0) (v := .tup []) (hl := hl)
    (st := fun i (_ : Unit) => s1 hv hs m st w xss n true ((xss.take (i + 1)).map cpP) (i + 1) ((i + 1 : Nat) : Int)) (I := fun _ _ => True) (n := n - 1)
    (fun i u hi _ => ⟨(), trivial, fun hr => ?_⟩) (fun u _ => ?_) (n - 1) 0 () (by omega) trivial
  · have hf := f hv hs m st w xss n 0
    have hp := hpl 0 h0
    have e1 : (xss.take (0 + 1)).map cpP = [cpP (xss.getD 0 ([], 0))] := by
      rw [cps_succ (by omega), List.take_zero]; rfl
    rw [decide_eq_true (by omega), decide_eq_true (by omega), HRf.rm_true (by omega), rm24_true (by omega), iwk (by omega)] at hf
    refine Runs.piece okA7 mx hf rfl (hids false) ?_
    rw [e1] at key
    exact key
  · have hc := c hv hs m st w xss n ((xss.take (i + 1)).map cpP) (i + 1) (i + 1)
    have hp := hpl (i + 1) (by omega)
    have hl1 : ((xss.take (i + 1)).map cpP).length = i + 1 := by rw [List.length_map, List.length_take]; omega
    rw [← cps_succ (by omega), hl1, decide_eq_true (by omega), decide_eq_true (by omega), decide_eq_true rfl, HRf.rm_true (by omega), rm24_true (by omega), iwk (by omega)] at hc
    exact Runs.piece okA7 mx hc rfl (hids true) hr
  · show Runs _ _ _ _ _ (s1 hv hs m st w xss n true ((xss.take (n - 1 + 1)).map cpP) (n - 1 + 1) ((n - 1 + 1 : Nat) : Int)) _ _
    rw [Nat.sub_add_cancel h0]
    exact hlast
end Oa
def saidA (w : ByteArray) (xss : XS) (n : Nat) : Said := (false, w, ((xss.take n).map cpP, n), ())
theorem Oa.runs0 {st : List Int} {w : ByteArray} {xss : XS} {n : Nat} (hx : ∀ p ∈ xss, p.2 ≤ p.1.length) (hn : n ≤ xss.length) (hb : (frame w xss n).length ≤ 1096000000000) (hn2 : n ≤ 1099511627775) :
    Runs Tryd.prog A7 Tryd.f63 1 [.code (cd Tryd.f63)] (Oa.s0 false [] 0 st w xss n) (.tup []) [ol (absS st w xss n) (.sl 1 0 1), .arr SAID [saidA w xss n] 0 []] := by
  refine Runs.piece okA7 mx (Oa.a false [] 0 st w xss n) rfl (by rfl) ?_
  have h1 : (1 : Nat) ≤ 1099511627776 := by decide
  rcases Nat.eq_zero_or_pos n with h0 | h0
  · subst h0
    have he := Oa.e0 [] 0 st w xss 0 false [] 0 0
    rw [decide_eq_false (by omega), Oa.rmS_true h1, decide_eq_true (by omega), decide_eq_true hb] at he
    exact Runs.last okA7 mx he rfl (by rfl)
  · refine Oa.loop hx hn hb hn2 h0 rfl ?_
    have he := Oa.e0 [] 0 st w xss n true ((xss.take n).map cpP) n n
    rw [decide_eq_false (by omega), Oa.rmS_true h1, decide_eq_true (by omega), decide_eq_true hb] at he
    exact Runs.last okA7 mx he rfl (by rfl)
theorem Oa.runs1 {hs : List Said} {m : Nat} {st : List Int} {w : ByteArray} {xss : XS} {n : Nat} (hx : ∀ p ∈ xss, p.2 ≤ p.1.length) (hn : n ≤ xss.length) (hb : (frame w xss n).length ≤ 1096000000000) (hn2 : n ≤ 1099511627775) (hm : m = hs.length) (hm2 : m ≤ 1099511627775) :
    Runs Tryd.prog A7 Tryd.f63 2 [.code (cd Tryd.f63)] (Oa.s0 true hs m st w xss n) (.tup []) [ol (absS st w xss n) (.sl 2 0 (m + 1)), .frz SAID hs, .arr SAID (List.append (α := Said) hs [saidA w xss n]) m [1]] := by
  refine Runs.piece okA7 mx (Oa.a true hs m st w xss n) rfl (by rfl) ?_
  rcases Nat.eq_zero_or_pos n with h0 | h0
  · subst h0
    have he := Oa.e1 hs m st w xss 0 false [] 0 0
    rw [decide_eq_false (by omega), decide_eq_true hm, Oa.rmS_true (by omega), decide_eq_true (by omega), decide_eq_true hb] at he
    exact Runs.last okA7 mx he rfl (by rfl)
  · refine Oa.loop hx hn hb hn2 h0 rfl ?_
    have he := Oa.e1 hs m st w xss n true ((xss.take n).map cpP) n n
    rw [decide_eq_false (by omega), decide_eq_true hm, Oa.rmS_true (by omega), decide_eq_true (by omega), decide_eq_true hb] at he
    exact Runs.last okA7 mx he rfl (by rfl)
def TOAbs (vs : List V1) (hl : Heap) : Tree (SV × Heap) :=
  match vs, hl with
  | [.c (.ptr 0 0 0 0 0 0), .c (.str w), .c (.ro (.sl (.int .u8)) xss n)], [.vals [.c (.bool _ false), .ws .u8 64 st, .c .nils, .c (.int _ .i64 0), .c .nils]] => Tree.chk (decide (n ≤ 1099511627775) && decide ((frame w xss n).length ≤ 1096000000000)) (.ret (.tup [], [ol (absS st w xss n) (.sl 1 0 1), .arr SAID [saidA w xss n] 0 []]))
  | [.c (.ptr 0 0 0 0 0 0), .c (.str w), .c (.ro (.sl (.int .u8)) xss n)], [.vals [.c (.bool _ false), .ws .u8 64 st, .c .nils, .c (.int _ .i64 0), .c (.sl 1 0 m)], .arr (.pair .bool (.pair .str (.pair (.sl (.sl (.int .u8))) .unit))) hs 0 []] =>
    Tree.chk (decide (n ≤ 1099511627775) && decide ((frame w xss n).length ≤ 1096000000000) && (decide (m = List.length (α := Said) hs) && decide (m ≤ 1099511627775))) (.ret (.tup [], [ol (absS st w xss n) (.sl 2 0 (m + 1)), .frz SAID hs, .arr SAID (List.append (α := Said) hs [saidA w xss n]) m [1]]))
  | _, _ => .fail
theorem ok_OAbs : EntryOk Tryd.prog G1 63 TOAbs := by
  refine EntryOk.unlitHRuns (S := A7) (fn := Tryd.f63) (c := cd Tryd.f63) (by kernel_rfl) (by kernel_rfl) (by kernel_rfl) (fun vs hl r hl' ok okh h => ?_)
  unfold TOAbs at h
  split at h
  · rename_i w xss n l st l'
    obtain ⟨h1, h2⟩ := val_chk h
    rw [Bool.and_eq_true] at h1
    obtain ⟨rfl, rfl⟩ := Prod.mk.inj (val_ret h2)
    exact Oa.runs0 (fun p hp => (ok.2.2.1.2 p hp).1) ok.2.2.1.1 (of_decide_eq_true h1.2) (of_decide_eq_true h1.1)
  · rename_i w xss n l st l' m hs
    obtain ⟨h1, h2⟩ := val_chk h
    rw [Bool.and_eq_true, Bool.and_eq_true, Bool.and_eq_true] at h1
    obtain ⟨rfl, rfl⟩ := Prod.mk.inj (val_ret h2)
    exact Oa.runs1 (fun p hp => (ok.2.2.1.2 p hp).1) ok.2.2.1.1 (of_decide_eq_true h1.1.2) (of_decide_eq_true h1.1.1) (of_decide_eq_true h1.2.1) (of_decide_eq_true h1.2.2)
  · cases h

/-! ### Transcript, Draw -/
def TTrans (vs : List V1) (hl : Heap) : Tree (SV × Heap) :=
  match vs, hl with
  | [.c (.str s)], [] => Tree.chk (decide (s.size ≤ 1000000000000)) (.ret (.one (.c (.ptr 0 0 0 0 0 0)), [.vals [.c (.bool true false), .ws .u8 64 (newS s), .c .nils, .c (.int true .i64 0), .c .nils]]))
  | _, _ => .fail
theorem Trans_b (s : ByteArray) : (bodyT A7 Tryd.prog allLoops Tryd.f61 (cd Tryd.f61) [.c (.str s)] []).path [true] =
    some ([decide (s.size ≤ 1000000000000)], .one (.c (.ptr 0 0 0 0 0 0)), [.vals [.c (.bool true false), .ws .u8 64 (newS s), .c .nils, .c (.int true .i64 0), .c .nils]]) := by kernel_rfl
theorem ok_Trans : EntryOk Tryd.prog G1 61 TTrans := by
  refine EntryOk.sub (bodyT_ok okA7 mx (un := allLoops) (fn := Tryd.f61) (c := cd Tryd.f61) (by kernel_rfl) (by kernel_rfl) (by kernel_rfl)) (fun vs hl r ok h => ?_)
  unfold TTrans at h
  split at h
  · rename_i s
    obtain ⟨h1, h2⟩ := val_chk h
    obtain rfl := val_ret h2
    have hp := Trans_b s
    rw [h1] at hp
    exact Tree.path_val hp
  · cases h
def sdW (w : ByteArray) : Said := (true, w, ([], 0), ())
theorem ODraw_b1 (hs : List Said) (m : Nat) (st : List Int) (w : ByteArray) : (bodyT A7 Tryd.prog allLoops Tryd.f64 (cd Tryd.f64) [ptr0, .c (.str w)] [ol st (.sl 1 0 m), .arr SAID hs 0 []]).path [true, true, true] =
    some ([decide (m = hs.length) && Oa.rmS (m + 1), true, decide (w.size ≤ 1000000000000)], .tup [ws (limbs (dch st w)), .c (.int false .i64 (eZ (dch st w)))], [ol (drn st w) (.sl 2 0 (m + 1)), .frz SAID hs, .arr SAID (List.append (α := Said) hs [sdW w]) m [1]]) := by kernel_rfl
theorem ODraw_b0 (st : List Int) (w : ByteArray) : (bodyT A7 Tryd.prog allLoops Tryd.f64 (cd Tryd.f64) [ptr0, .c (.str w)] [ol st .nils]).path [true, true, true] =
    some ([Oa.rmS 1, true, decide (w.size ≤ 1000000000000)], .tup [ws (limbs (dch st w)), .c (.int false .i64 (eZ (dch st w)))], [ol (drn st w) (.sl 1 0 1), .arr SAID [sdW w] 0 []]) := by kernel_rfl
def TODraw (vs : List V1) (hl : Heap) : Tree (SV × Heap) :=
  match vs, hl with
  | [.c (.ptr 0 0 0 0 0 0), .c (.str w)], [.vals [.c (.bool _ false), .ws .u8 64 st, .c .nils, .c (.int _ .i64 0), .c .nils]] => Tree.chk (decide (w.size ≤ 1000000000000)) (.ret (.tup [ws (limbs (dch st w)), .c (.int false .i64 (eZ (dch st w)))], [ol (drn st w) (.sl 1 0 1), .arr SAID [sdW w] 0 []]))
  | [.c (.ptr 0 0 0 0 0 0), .c (.str w)], [.vals [.c (.bool _ false), .ws .u8 64 st, .c .nils, .c (.int _ .i64 0), .c (.sl 1 0 m)], .arr (.pair .bool (.pair .str (.pair (.sl (.sl (.int .u8))) .unit))) hs 0 []] =>
    Tree.chk (decide (w.size ≤ 1000000000000) && (decide (m = List.length (α := Said) hs) && decide (m ≤ 1099511627775))) (.ret (.tup [ws (limbs (dch st w)), .c (.int false .i64 (eZ (dch st w)))], [ol (drn st w) (.sl 2 0 (m + 1)), .frz SAID hs, .arr SAID (List.append (α := Said) hs [sdW w]) m [1]]))
  | _, _ => .fail
theorem ok_ODraw : EntryOk Tryd.prog G1 64 TODraw := by
  refine EntryOk.subH (bodyT_ok okA7 mx (un := allLoops) (fn := Tryd.f64) (c := cd Tryd.f64) (by kernel_rfl) (by kernel_rfl) (by kernel_rfl)) (fun vs hl r ok okh h => ?_)
  unfold TODraw at h
  split at h
  · rename_i w l st l'
    obtain ⟨h1, h2⟩ := val_chk h
    obtain rfl := val_ret h2
    have hp := ODraw_b0 st w
    rw [h1, Oa.rmS_true (by decide)] at hp
    exact Tree.path_val hp
  · rename_i w l st l' m hs
    obtain ⟨h1, h2⟩ := val_chk h
    rw [Bool.and_eq_true, Bool.and_eq_true] at h1
    have q1 := of_decide_eq_true h1.2.1
    have q2 := of_decide_eq_true h1.2.2
    obtain rfl := val_ret h2
    have hp := ODraw_b1 hs m st w
    rw [h1.1, decide_eq_true q1, Oa.rmS_true (by omega)] at hp
    exact Tree.path_val hp
  · cases h
noncomputable def A8 : Tab := ((A7.put 63 2 TOAbs).put 61 1 TTrans).put 64 2 TODraw
theorem okA8 : SpecOk Tryd.prog A8 := ((okA7.put ok_OAbs).put ok_Trans).put ok_ODraw
end Go.Sc

namespace Go.Sc
open Go Go.SX Go.Proofs

abbrev W32 : DTy := .ws .u8 32
abbrev ITEM : DTy := .pair .str (.pair (.pair (.int .i64) (.pair (.int .i64) .unit)) (.pair (.sl W32) (.pair (.sl (.int .u8)) .unit)))
abbrev BIt := ByteArray × ((Int × (Int × Unit)) × ((List (List Int) × Nat) × ((List Int × Nat) × Unit)))
def itS : ByteArray := ⟨#[105, 116, 101, 109]⟩
def wtS : ByteArray := ⟨#[119, 101, 105, 103, 104, 116]⟩
def vbS : ByteArray := ⟨#[118, 101, 105, 108, 32, 98, 97, 116, 99, 104]⟩
def dfI : BIt := ITEM.dflt
def p4 (x : BIt) : XS := [(strI x.1, x.1.size), (le8 x.2.1.1, 8), (le8 x.2.1.2.1, 8), (x.2.2.2.1.1, x.2.2.2.1.2)]
def vP (v : List Int) : List Int × Nat := (v, 32)
def parts (x : BIt) : XS := p4 x ++ (x.2.2.1.1.take x.2.2.1.2).map vP
def wIt (st : List Int) (x : BIt) : List Int := absS st itS (parts x) (4 + x.2.2.1.2)
def wSt (xs : List BIt) : Nat → List Int
  | 0 => newS vbS
  | i + 1 => wIt (wSt xs i) (xs.getD i dfI)
def itF (x : BIt) : Blk := .vals [.c (.str x.1), .c (.int false .i64 x.2.1.1), .c (.int false .i64 x.2.1.2.1), .c (.ro W32 x.2.2.1.1 x.2.2.1.2), .c (.ro (.int .u8) x.2.2.2.1.1 x.2.2.2.1.2)]
abbrev SC : DTy := .ws .u64 4
namespace Bw
noncomputable def r (k : Nat) (is : List Item) (s : St) : Tree Out := runK A8 Tryd.prog noLoops k is s
noncomputable def s0 (xs : List BIt) (n : Nat) : St := ⟨enterT Tryd.f59 [.c (.ro ITEM xs n)], []⟩
noncomputable def K1 : List Item := leftT [false, true] (r 400 [.code (cd Tryd.f59)] (s0 [] 0))
noncomputable def stA (xs : List BIt) (n : Nat) (st : List Int) (l : Bool) (i : Int) : St := ⟨slotsOf 73 [(0, one (.ro ITEM xs n)), (4, pt 0), (16, one (.ro ITEM xs n)), (17, one (.int false .i64 n)), (18, one (.int false .i64 i))], [tb st l]⟩
noncomputable def K2 : List Item := leftT [true, true, true] (r 400 K1 (stA [] 0 [] true 0))
noncomputable def stB (xs : List BIt) (n : Nat) (st : List Int) (l : Bool) (i : Int) (x : BIt) (ys : XS) (k : Nat) (j : Int) : St := ⟨slotsOf 73 [(0, one (.ro ITEM xs n)), (4, pt 0), (6, pt 1), (7, one (.sl 2 0 k)), (16, one (.ro ITEM xs n)), (17, one (.int false .i64 n)), (18, one (.int false .i64 i)),
  (37, one (.ro W32 x.2.2.1.1 x.2.2.1.2)), (38, one (.int false .i64 x.2.2.1.2)), (39, one (.int false .i64 j))], [tb st l, itF x, .arr BB ys 0 []]⟩
theorem a1 (xs : List BIt) (n : Nat) : endT Tryd.prog Tryd.f59 [] [true] (r 400 [.code (cd Tryd.f59)] (s0 xs n)) = some ([decide ((n : Int) > 64)], .tup [.c .nils, .c (.int true .i64 1)], []) := by kernel_rfl
theorem a (xs : List BIt) (n : Nat) : pieceT [0, 4, 16, 17, 18] [18] [0] [false, true] (r 400 [.code (cd Tryd.f59)] (s0 xs n)) = some ([decide ((n : Int) > 64), true], K1, stA xs n (newS vbS) true (0 : Nat)) := by kernel_rfl
theorem b (xs : List BIt) (n : Nat) (st : List Int) (l : Bool) (i : Nat) : pieceT [0, 4, 6, 7, 16, 17, 18, 37, 38, 39] [39] [0, 1, 5] [true, true, true] (r 400 K1 (stA xs n st l i)) =
    some ([decide ((i : Int) < n), decide (0 ≤ (i : Int) ∧ (i : Int) < n), decide ((xs.getD i dfI).1.size ≤ 140737488355328)], K2, stB xs n st l i (xs.getD i dfI) (p4 (xs.getD i dfI)) 4 (0 : Nat)) := by kernel_rfl
theorem c (xs : List BIt) (n : Nat) (st : List Int) (l : Bool) (i : Nat) (x : BIt) (ys : XS) (k j : Nat) : pieceT [0, 4, 6, 7, 16, 17, 18, 37, 38, 39] [39] [0, 1, 4] [true, true, true, true] (r 400 K2 (stB xs n st l i x ys k j)) =
    some ([decide ((j : Int) < x.2.2.1.2), decide (0 ≤ (j : Int) ∧ (j : Int) < x.2.2.1.2), true, decide (k = ys.length) && rm24 (k + 1)], K2,
      stB xs n st l i x (ys ++ [vP (x.2.2.1.1.getD j (List.replicate 32 0))]) (k + 1) (iw ((j : Int) + 1))) := by kernel_rfl
theorem d (xs : List BIt) (n : Nat) (st : List Int) (l : Bool) (i : Nat) (x : BIt) (ys : XS) (k j : Nat) : pieceT [0, 4, 16, 17, 18] [18] [0] [false, true] (r 400 K2 (stB xs n st l i x ys k j)) =
    some ([decide ((j : Int) < x.2.2.1.2), decide (k ≤ 1099511627776) && decide ((frame itS ys k).length ≤ 1096000000000)], K1, stA xs n (absS st itS ys k) false (iw ((i : Int) + 1))) := by kernel_rfl
def oC (o : Bool) (k : Nat) : Cell := match o with | true => .sl 1 0 k | false => .nils
def oH (o : Bool) (ks : List (List Int)) : Heap := match o with | true => [.arr SC ks 0 []] | false => []
noncomputable def K3 : List Item := leftT [false] (r 400 K1 (stA [] 0 [] true 0))
noncomputable def stC (n : Nat) (st : List Int) (l : Bool) (o : Bool) (ks : List (List Int)) (k : Nat) (i : Int) : St := ⟨slotsOf 73 [(4, pt 0), (9, one (oC o k)), (56, one (.int false .i64 n)), (57, one (.int false .i64 i))], tb st l :: oH o ks⟩
theorem e (xs : List BIt) (n : Nat) (st : List Int) (l : Bool) (i : Nat) : pieceT [4, 9, 56, 57] [57] [0] [false] (r 400 K1 (stA xs n st l i)) =
    some ([decide ((i : Int) < n)], K3, stC n st l false [] 0 (0 : Nat)) := by kernel_rfl
def oI (o : Bool) : List Nat := match o with | true => [0, 4] | false => [0, 3]
def oN (o : Bool) (k : Nat) (ks : List (List Int)) : Bool := match o with | true => decide (k = ks.length) && (SX.room (k + 1) 32 && SX.room (k + 1) 1) | false => SX.room 1 32 && SX.room 1 1
theorem f (n : Nat) (st : List Int) (l : Bool) (o : Bool) (ks : List (List Int)) (k i : Nat) : pieceT [4, 9, 56, 57] [57] (oI o) [true, true, false, true] (r 400 K3 (stC n st l o ks k i)) =
    some ([decide ((i : Int) < n), true, (eZ (dch st wtS) != 0), oN o k ks], K3, stC n (drn st wtS) false true (match o with | true => ks ++ [limbs (dch st wtS)] | false => [limbs (dch st wtS)]) (match o with | true => k + 1 | false => 1) (iw ((i : Int) + 1))) := by
  cases o <;> kernel_rfl
theorem g (n : Nat) (st : List Int) (l : Bool) (o : Bool) (ks : List (List Int)) (k i : Nat) : endT Tryd.prog Tryd.f59 [] [true, true, true] (r 400 K3 (stC n st l o ks k i)) =
    some ([decide ((i : Int) < n), true, (eZ (dch st wtS) != 0)], .tup [.c .nils, .c (.int false .i64 (eZ (dch st wtS)))], []) := by
  cases o <;> kernel_rfl
def oE (o : Bool) : List Nat := match o with | true => [1] | false => []
def oR (o : Bool) (k : Nat) : Cell := match o with | true => .sl 0 0 k | false => .nils
theorem h (n : Nat) (st : List Int) (l : Bool) (o : Bool) (ks : List (List Int)) (k i : Nat) : endT Tryd.prog Tryd.f59 (oE o) [false] (r 400 K3 (stC n st l o ks k i)) =
    some ([decide ((i : Int) < n)], .tup [.c (oR o k), .c (.int true .i64 0)], oH o ks) := by
  cases o <;> kernel_rfl
end Bw
end Go.Sc

namespace Go.Sc
open Go Go.SX Go.Proofs

namespace Rw
noncomputable def r (k : Nat) (is : List Item) (s : St) : Tree Out := runK A8 Tryd.prog noLoops k is s
noncomputable def s0 (xs : List BIt) (n : Nat) : St := ⟨enterT Tryd.f42 [.c (.ro ITEM xs n)], []⟩
noncomputable def K1 : List Item := leftT [false, true] (r 400 [.code (cd Tryd.f42)] (s0 [] 0))
noncomputable def stA (xs : List BIt) (n : Nat) (st : List Int) (l : Bool) (hv : Bool) (hs : List Said) (m : Nat) (i : Int) : St := ⟨slotsOf 83 [(0, one (.ro ITEM xs n)), (4, pt 0), (5, one (.int false .i64 i))], ob l st (.c .nils) (.c (.int l .i64 0)) (hdC hv m) :: hdB hv hs⟩
noncomputable def K2 : List Item := leftT [true, true, true] (r 400 K1 (stA [] 0 [] false false [] 0 0))
def iP (hv : Bool) : SV := match hv with | true => pt 2 | false => pt 1
def pS (hv : Bool) (k : Nat) : SV := match hv with | true => one (.sl 3 0 k) | false => one (.sl 2 0 k)
noncomputable def stB (xs : List BIt) (n : Nat) (st : List Int) (l : Bool) (hv : Bool) (hs : List Said) (m : Nat) (i : Int) (x : BIt) (ys : XS) (k : Nat) (j : Int) : St := ⟨slotsOf 83 [(0, one (.ro ITEM xs n)), (4, pt 0), (5, one (.int false .i64 i)), (6, iP hv), (7, pS hv k),
  (8, one (.int false .i64 j))], (ob l st (.c .nils) (.c (.int l .i64 0)) (hdC hv m) :: hdB hv hs) ++ [itF x, .arr BB ys 0 []]⟩
def bI (hv : Bool) : List Nat := match hv with | true => [0, 1, 2, 6] | false => [0, 1, 5]
def cI (hv : Bool) : List Nat := match hv with | true => [0, 1, 2, 6] | false => [0, 1, 5]
def dI (hv : Bool) : List Nat := match hv with | true => [0, 4] | false => [0, 3]
theorem a1 (xs : List BIt) (n : Nat) : endT Tryd.prog Tryd.f42 [] [true] (r 400 [.code (cd Tryd.f42)] (s0 xs n)) = some ([decide ((n : Int) > 64)], .tup [.c .nils, .c (.int true .i64 1)], []) := by kernel_rfl
theorem a (xs : List BIt) (n : Nat) : pieceT [0, 4, 5] [5] [0] [false, true] (r 400 [.code (cd Tryd.f42)] (s0 xs n)) = some ([decide ((n : Int) > 64), true], K1, stA xs n (newS vbS) true false [] 0 (0 : Nat)) := by kernel_rfl
theorem b (xs : List BIt) (n : Nat) (st : List Int) (l : Bool) (hv : Bool) (hs : List Said) (m : Nat) (i : Nat) : pieceT [0, 4, 5, 6, 7, 8] [8] (bI hv) [true, true, true] (r 400 K1 (stA xs n st l hv hs m i)) =
    some ([decide ((i : Int) < n), decide (0 ≤ (i : Int) ∧ (i : Int) < n), decide ((xs.getD i dfI).1.size ≤ 140737488355328)], K2, stB xs n st l hv hs m i (xs.getD i dfI) (p4 (xs.getD i dfI)) 4 (0 : Nat)) := by
  cases hv <;> kernel_rfl
def cpV (v : List Int) : List Int := splice (List.replicate 32 0) 0 ((v.take 32).take (min (v.take 32).length 32))
theorem c (xs : List BIt) (n : Nat) (st : List Int) (l : Bool) (hv : Bool) (hs : List Said) (m : Nat) (i : Nat) (x : BIt) (ys : XS) (k j : Nat) : pieceT [0, 4, 5, 6, 7, 8] [8] (cI hv) [true, true, true, true, true] (r 400 K2 (stB xs n st l hv hs m i x ys k j)) =
    some ([decide ((j : Int) < x.2.2.1.2), true, decide (0 ≤ (j : Int) ∧ (j : Int) < x.2.2.1.2), true, decide (k = ys.length) && rm24 (k + 1)], K2,
      stB xs n st l hv hs m i x (ys ++ [vP (cpV (x.2.2.1.1.getD j (List.replicate 32 0)))]) (k + 1) (iw ((j : Int) + 1))) := by
  cases hv <;> kernel_rfl
theorem d0 (xs : List BIt) (n : Nat) (st : List Int) (l : Bool) (i : Nat) (x : BIt) (ys : XS) (k j : Nat) : pieceT [0, 4, 5] [5] (dI false) [false, true] (r 400 K2 (stB xs n st l false [] 0 i x ys k j)) =
    some ([decide ((j : Int) < x.2.2.1.2), decide (k ≤ 1099511627775) && decide ((frame itS ys k).length ≤ 1096000000000)], K1, stA xs n (absS st itS ys k) false true [saidA itS ys k] 1 (iw ((i : Int) + 1))) := by kernel_rfl
theorem d1 (xs : List BIt) (n : Nat) (st : List Int) (l : Bool) (hs : List Said) (m : Nat) (i : Nat) (x : BIt) (ys : XS) (k j : Nat) : pieceT [0, 4, 5] [5] (dI true) [false, true] (r 400 K2 (stB xs n st l true hs m i x ys k j)) =
    some ([decide ((j : Int) < x.2.2.1.2), decide (k ≤ 1099511627775) && decide ((frame itS ys k).length ≤ 1096000000000) && (decide (m = hs.length) && decide (m ≤ 1099511627775))], K1, stA xs n (absS st itS ys k) false true (hs ++ [saidA itS ys k]) (m + 1) (iw ((i : Int) + 1))) := by kernel_rfl
def oC (hv o : Bool) (k : Nat) : Cell := match o, hv with | true, true => .sl 2 0 k | true, false => .sl 1 0 k | false, _ => .nils
noncomputable def K3 : List Item := leftT [false] (r 400 K1 (stA [] 0 [] false false [] 0 0))
noncomputable def stC (xs : List BIt) (n : Nat) (st : List Int) (l : Bool) (hv : Bool) (hs : List Said) (m : Nat) (o : Bool) (ks : List (List Int)) (k : Nat) (i : Int) : St := ⟨slotsOf 83 [(0, one (.ro ITEM xs n)), (4, pt 0), (10, one (oC hv o k)), (11, one (.int false .i64 i))],
  (ob l st (.c .nils) (.c (.int l .i64 0)) (hdC hv m) :: hdB hv hs) ++ Bw.oH o ks⟩
def eI (hv : Bool) : List Nat := match hv with | true => [0, 1] | false => [0]
theorem e (xs : List BIt) (n : Nat) (st : List Int) (l : Bool) (hv : Bool) (hs : List Said) (m : Nat) (i : Nat) : pieceT [0, 4, 10, 11] [11] (eI hv) [false] (r 400 K1 (stA xs n st l hv hs m i)) =
    some ([decide ((i : Int) < n)], K3, stC xs n st l hv hs m false [] 0 (0 : Nat)) := by
  cases hv <;> kernel_rfl
def fI (hv o : Bool) : List Nat := match hv, o with | true, true => [0, 3, 7] | true, false => [0, 2, 6] | false, true => [0, 2, 6] | false, false => [0, 1, 5]
def hN (hv : Bool) (m : Nat) (hs : List Said) : Bool := match hv with | true => decide (m = hs.length) && decide (m ≤ 1099511627775) | false => true
def hsN (hv : Bool) (hs : List Said) : List Said := match hv with | true => hs ++ [sdW wtS] | false => [sdW wtS]
def mN (hv : Bool) (m : Nat) : Nat := match hv with | true => m + 1 | false => 1
theorem f (xs : List BIt) (n : Nat) (st : List Int) (l : Bool) (hv : Bool) (hs : List Said) (m : Nat) (o : Bool) (ks : List (List Int)) (k i : Nat) : pieceT [0, 4, 10, 11] [11] (fI hv o) [true, true, false, true] (r 400 K3 (stC xs n st l hv hs m o ks k i)) =
    some ([decide ((i : Int) < n), hN hv m hs, (eZ (dch st wtS) != 0), Bw.oN o k ks], K3,
      stC xs n (drn st wtS) false true (hsN hv hs) (mN hv m) true (match o with | true => ks ++ [limbs (dch st wtS)] | false => [limbs (dch st wtS)]) (match o with | true => k + 1 | false => 1) (iw ((i : Int) + 1))) := by
  cases o <;> cases hv <;> kernel_rfl
theorem g (xs : List BIt) (n : Nat) (st : List Int) (l : Bool) (hv : Bool) (hs : List Said) (m : Nat) (o : Bool) (ks : List (List Int)) (k i : Nat) : endT Tryd.prog Tryd.f42 [] [true, true, true] (r 400 K3 (stC xs n st l hv hs m o ks k i)) =
    some ([decide ((i : Int) < n), hN hv m hs, (eZ (dch st wtS) != 0)], .tup [.c .nils, .c (.int false .i64 (eZ (dch st wtS)))], []) := by
  cases o <;> cases hv <;> kernel_rfl
def hE (hv o : Bool) : List Nat := match o, hv with | true, true => [2] | true, false => [1] | false, _ => []
theorem h (xs : List BIt) (n : Nat) (st : List Int) (l : Bool) (hv : Bool) (hs : List Said) (m : Nat) (o : Bool) (ks : List (List Int)) (k i : Nat) : endT Tryd.prog Tryd.f42 (hE hv o) [false] (r 400 K3 (stC xs n st l hv hs m o ks k i)) =
    some ([decide ((i : Int) < n)], .tup [.c (Bw.oR o k), .c (.int true .i64 0)], Bw.oH o ks) := by
  cases o <;> cases hv <;> kernel_rfl
end Rw
end Go.Sc

namespace Go.Sc
open Go Go.SX Go.Proofs

def wDraws : Nat → List Int → List (List Int) → Option (List (List Int))
  | 0, _, ks => some ks
  | d + 1, st, ks => if dch st wtS = 0 then none else wDraws d (drn st wtS) (ks ++ [limbs (dch st wtS)])
def nE (ks : List (List Int)) : Bool := match ks with | [] => false | _ :: _ => true
def wRes (o : Option (List (List Int))) : SV × Heap :=
  match o with
  | none => (.tup [.c .nils, .c (.int false .i64 4)], [])
  | some ks => (.tup [.c (Bw.oR (nE ks) ks.length), .c (.int false .i64 0)], Bw.oH (nE ks) ks)
theorem nE_append (ks : List (List Int)) (x : List Int) : nE (ks ++ [x]) = true := by cases ks <;> rfl
theorem eZ_ne {c : Int} (h : ¬ c = 0) : (eZ c != 0) = false := by unfold eZ; rw [if_neg h]; rfl
theorem eZ_eq {c : Int} (h : c = 0) : eZ c = 4 ∧ (eZ c != 0) = true := by unfold eZ; rw [if_pos h]; exact ⟨rfl, rfl⟩
theorem rm32 {n : Nat} (h : n ≤ 1000000) : (SX.room n 32 && SX.room n 1) = true := by simp [SX.room]; omega
theorem oN_true {ks : List (List Int)} (h : ks.length ≤ 1000) : Bw.oN (nE ks) ks.length ks = true := by
  cases ks with
  | nil => decide
  | cons a l =>
    show (decide ((a :: l).length = (a :: l).length) && (SX.room ((a :: l).length + 1) 32 && SX.room ((a :: l).length + 1) 1)) = true
    rw [decide_eq_true rfl, rm32 (by omega)]; rfl
/-- what is asked of the items' sizes -/
def itOk (x : BIt) : Prop := (frame itS (parts x) (4 + x.2.2.1.2)).length ≤ 1096000000000 ∧ x.2.2.1.2 ≤ 1000000000 ∧ x.1.size ≤ 1000000000
instance (x : BIt) : Decidable (itOk x) := by unfold itOk; infer_instance
/-- what is known of an item -/
def itGood (x : BIt) : Prop := x.2.2.1.2 ≤ x.2.2.1.1.length ∧ (∀ v ∈ x.2.2.1.1, v.length = 32) ∧ x.2.2.2.1.2 ≤ x.2.2.2.1.1.length
theorem parts_succ {x : BIt} {j : Nat} (h : j < x.2.2.1.1.length) : p4 x ++ (x.2.2.1.1.take (j + 1)).map vP = (p4 x ++ (x.2.2.1.1.take j).map vP) ++ [vP (x.2.2.1.1.getD j (List.replicate 32 0))] := by
  rw [List.take_succ_eq_append_getElem h, List.map_append, List.append_assoc, List.getD_eq_getElem?_getD, List.getElem?_eq_getElem h]; rfl
theorem p4_len (x : BIt) (j : Nat) (h : j ≤ x.2.2.1.1.length) : (p4 x ++ (x.2.2.1.1.take j).map vP).length = 4 + j := by
  rw [List.length_append, List.length_map, List.length_take, Nat.min_eq_left h]; rfl
namespace Bw
theorem draws {n : Nat} (hn : n ≤ 64) : ∀ (d i : Nat) (ks : List (List Int)) (l : Bool) (st : List Int), i + d = n → ks.length = i →
    Runs Tryd.prog A8 Tryd.f59 0 K3 (stC n st l (nE ks) ks i i) (wRes (wDraws d st ks)).1 (wRes (wDraws d st ks)).2
  | 0, i, ks, l, st, h, hk => by
    have hh := Bw.h n st l (nE ks) ks i i
    rw [decide_eq_false (by omega)] at hh
    subst hk
    have h9 := Runs.resU (Runs.last (m := 0) okA8 mx hh rfl (by cases ks <;> rfl))
    rw [show unlR (.tup [.c (Bw.oR (nE ks) ks.length), .c (.int true .i64 0)]) = .tup [.c (Bw.oR (nE ks) ks.length), .c (.int false .i64 0)] by cases ks <;> rfl] at h9
    exact h9
  | d + 1, i, ks, l, st, h, hk => by
    unfold wDraws
    by_cases hz : dch st wtS = 0
    · obtain ⟨e1, e2⟩ := eZ_eq hz
      have hh := Bw.g n st l (nE ks) ks i i
      rw [decide_eq_true (by omega), e2, e1] at hh
      rw [if_pos hz]
      exact Runs.last okA8 mx hh rfl (by rfl)
    · have hh := Bw.f n st l (nE ks) ks i i
      have hN : oN (nE ks) i ks = true := by rw [← hk]; exact oN_true (by omega)
      rw [decide_eq_true (by omega), eZ_ne hz, hN, iwk (by omega)] at hh
      rw [if_neg hz]
      refine Runs.piece okA8 mx hh rfl (by cases ks <;> rfl) ?_
      have ih := draws hn d (i + 1) (ks ++ [limbs (dch st wtS)]) false (drn st wtS) (by omega) (by rw [List.length_append, hk]; rfl)
      rw [nE_append] at ih
      cases ks with
      | nil => obtain rfl : i = 0 := hk.symm; exact ih
      | cons a t => exact ih
theorem inner {v : SV} {hl : Heap} {xs : List BIt} {n i : Nat} {st : List Int} {l : Bool} {x : BIt} (hg : itGood x) (ho : itOk x)
    (hr : Runs Tryd.prog A8 Tryd.f59 0 K1 (stA xs n (wIt st x) false (iw ((i : Int) + 1))) v hl) :
    Runs Tryd.prog A8 Tryd.f59 0 K2 (stB xs n st l i x (p4 x) 4 (0 : Nat)) v hl := by
  obtain ⟨g1, g2, g3⟩ := hg
  obtain ⟨o1, o2, o3⟩ := ho
  have key := loopG (P := Tryd.prog) (S := A8) (fn := Tryd.f59) (m := 0) (K := K2) (v := v) (hl := hl)
    (st := fun j (_ : Unit) => stB xs n st l i x (p4 x ++ (x.2.2.1.1.take j).map vP) (4 + j) j) (I := fun _ _ => True) (n := x.2.2.1.2)
    (fun j u hj _ => ⟨(), trivial, fun hr => ?_⟩) (fun u _ => ?_) x.2.2.1.2 0 () (by omega) trivial
  · rw [List.take_zero, List.map_nil, List.append_nil] at key
    exact key
  · have hc := Bw.c xs n st l i x (p4 x ++ (x.2.2.1.1.take j).map vP) (4 + j) j
    rw [p4_len x j (by omega), ← parts_succ (by omega), decide_eq_true (by omega), decide_eq_true (by omega), decide_eq_true rfl, rm24_true (by omega), iwk (by omega)] at hc
    exact Runs.piece okA8 mx hc rfl (by rfl) hr
  · have hd := Bw.d xs n st l i x (p4 x ++ (x.2.2.1.1.take x.2.2.1.2).map vP) (4 + x.2.2.1.2) x.2.2.1.2
    have o1 : (frame itS (p4 x ++ (x.2.2.1.1.take x.2.2.1.2).map vP) (4 + x.2.2.1.2)).length ≤ 1096000000000 := o1
    rw [decide_eq_false (by omega), decide_eq_true (by omega), decide_eq_true o1] at hd
    exact Runs.piece okA8 mx hd rfl (by rfl) hr
theorem runs {xs : List BIt} {n : Nat} (hn : n ≤ 64) (hx : n ≤ xs.length) (hg : ∀ x ∈ xs, itGood x) (ho : ∀ i, i < n → itOk (xs.getD i dfI)) :
    Runs Tryd.prog A8 Tryd.f59 0 [.code (cd Tryd.f59)] (s0 xs n) (wRes (wDraws n (wSt xs n) [])).1 (wRes (wDraws n (wSt xs n) [])).2 := by
  have ha := Bw.a xs n
  rw [decide_eq_false (by omega)] at ha
  refine Runs.piece okA8 mx ha rfl (by rfl) ?_
  refine loopG (st := fun i (l : Bool) => stA xs n (wSt xs i) l i) (I := fun _ _ => True) (n := n) (fun i l hi _ => ⟨false, trivial, fun hr => ?_⟩) (fun l _ => ?_) n 0 true (by omega) trivial
  · have hm : xs.getD i dfI ∈ xs := by
      rw [List.getD_eq_getElem?_getD, List.getElem?_eq_getElem (by omega)]; exact List.getElem_mem _
    have hb := Bw.b xs n (wSt xs i) l i
    have h3 := (ho i hi).2.2
    rw [decide_eq_true (by omega), decide_eq_true (by omega), decide_eq_true (by omega)] at hb
    refine Runs.piece okA8 mx hb rfl (by rfl) (inner (hg _ hm) (ho i hi) ?_)
    rw [iwk (by omega)]
    exact hr
  · have he := Bw.e xs n (wSt xs n) l n
    rw [decide_eq_false (by omega)] at he
    refine Runs.piece okA8 mx he rfl (by rfl) ?_
    exact draws hn n 0 [] l (wSt xs n) (by omega) rfl
end Bw
namespace Rw
theorem draws {xs : List BIt} {n : Nat} (hn : n ≤ 64) : ∀ (d i : Nat) (ks : List (List Int)) (l : Bool) (st : List Int) (hv : Bool) (hs : List Said) (m : Nat), i + d = n → ks.length = i → (hv = true → m = hs.length ∧ m + d ≤ 1000) →
    Runs Tryd.prog A8 Tryd.f42 0 K3 (stC xs n st l hv hs m (nE ks) ks i i) (wRes (wDraws d st ks)).1 (wRes (wDraws d st ks)).2
  | 0, i, ks, l, st, hv, hs, m, h, hk, hm => by
    have hh := Rw.h xs n st l hv hs m (nE ks) ks i i
    rw [decide_eq_false (by omega)] at hh
    subst hk
    have h9 := Runs.resU (Runs.last (m := 0) okA8 mx hh rfl (by cases ks <;> cases hv <;> rfl))
    rw [show unlR (.tup [.c (Bw.oR (nE ks) ks.length), .c (.int true .i64 0)]) = .tup [.c (Bw.oR (nE ks) ks.length), .c (.int false .i64 0)] by cases ks <;> rfl] at h9
    exact h9
  | d + 1, i, ks, l, st, hv, hs, m, h, hk, hm => by
    unfold wDraws
    have hN2 : hN hv m hs = true := by
      cases hv with
      | false => rfl
      | true =>
        obtain ⟨q1, q2⟩ := hm rfl
        show (decide (m = hs.length) && decide (m ≤ 1099511627775)) = true
        rw [decide_eq_true q1, decide_eq_true (by omega)]; rfl
    by_cases hz : dch st wtS = 0
    · obtain ⟨e1, e2⟩ := eZ_eq hz
      have hh := Rw.g xs n st l hv hs m (nE ks) ks i i
      rw [decide_eq_true (by omega), e2, e1, hN2] at hh
      rw [if_pos hz]
      exact Runs.last okA8 mx hh rfl (by rfl)
    · have hh := Rw.f xs n st l hv hs m (nE ks) ks i i
      have hN : Bw.oN (nE ks) i ks = true := by rw [← hk]; exact oN_true (by omega)
      rw [decide_eq_true (by omega), eZ_ne hz, hN, hN2, iwk (by omega)] at hh
      rw [if_neg hz]
      refine Runs.piece okA8 mx hh rfl (by cases ks <;> cases hv <;> rfl) ?_
      have hm' : mN hv m = (hsN hv hs).length ∧ mN hv m + d ≤ 1000 := by
        cases hv with
        | false => exact ⟨rfl, by show 1 + d ≤ 1000; omega⟩
        | true =>
          obtain ⟨q1, q2⟩ := hm rfl
          exact ⟨by show m + 1 = (hs ++ [sdW wtS]).length; rw [List.length_append, q1]; rfl, by show m + 1 + d ≤ 1000; omega⟩
      have hkl : (ks ++ [limbs (dch st wtS)]).length = i + 1 := by rw [List.length_append, hk]; rfl
      have ih := draws (xs := xs) hn d (i + 1) (ks ++ [limbs (dch st wtS)]) false (drn st wtS) true (hsN hv hs) (mN hv m) (by omega) hkl (fun _ => hm')
      rw [nE_append] at ih
      cases ks with
      | nil => obtain rfl : i = 0 := hk.symm; exact ih
      | cons a t => exact ih
theorem cpV_eq {v : List Int} (h : v.length = 32) : cpV v = v := by
  have e : v.take 32 = v := List.take_of_length_le (by omega)
  unfold cpV
  rw [e]
  exact cp32_eq h
theorem inner {v : SV} {hl : Heap} {xs : List BIt} {n i : Nat} {st : List Int} {l hv : Bool} {hs : List Said} {m : Nat} {x : BIt} (hg : itGood x) (ho : itOk x) (hm : hv = true → m = hs.length ∧ m ≤ 1000) (hm0 : hv = false → hs = [] ∧ m = 0)
    (hr : Runs Tryd.prog A8 Tryd.f42 0 K1 (stA xs n (wIt st x) false true (hs ++ [saidA itS (parts x) (4 + x.2.2.1.2)]) (m + 1) (iw ((i : Int) + 1))) v hl) :
    Runs Tryd.prog A8 Tryd.f42 0 K2 (stB xs n st l hv hs m i x (p4 x) 4 (0 : Nat)) v hl := by
  obtain ⟨g1, g2, g3⟩ := hg
  obtain ⟨o1, o2, o3⟩ := ho
  have key := loopG (P := Tryd.prog) (S := A8) (fn := Tryd.f42) (m := 0) (K := K2) (v := v) (hl := hl)
    (st := fun j (_ : Unit) => stB xs n st l hv hs m i x (p4 x ++ (x.2.2.1.1.take j).map vP) (4 + j) j) (I := fun _ _ => True) (n := x.2.2.1.2)
    (fun j u hj _ => ⟨(), trivial, fun hr => ?_⟩) (fun u _ => ?_) x.2.2.1.2 0 () (by omega) trivial
  · rw [List.take_zero, List.map_nil, List.append_nil] at key
    exact key
  · have hc := Rw.c xs n st l hv hs m i x (p4 x ++ (x.2.2.1.1.take j).map vP) (4 + j) j
    have hv32 : (x.2.2.1.1.getD j (List.replicate 32 0)).length = 32 := by
      rw [List.getD_eq_getElem?_getD, List.getElem?_eq_getElem (by omega)]; exact g2 _ (List.getElem_mem _)
    rw [cpV_eq hv32, p4_len x j (by omega), ← parts_succ (by omega), decide_eq_true (by omega), decide_eq_true (by omega), decide_eq_true rfl, rm24_true (by omega), iwk (by omega)] at hc
    exact Runs.piece okA8 mx hc rfl (by cases hv <;> rfl) hr
  · have o1 : (frame itS (p4 x ++ (x.2.2.1.1.take x.2.2.1.2).map vP) (4 + x.2.2.1.2)).length ≤ 1096000000000 := o1
    cases hv with
    | false =>
      obtain ⟨rfl, rfl⟩ := hm0 rfl
      have hd := Rw.d0 xs n st l i x (p4 x ++ (x.2.2.1.1.take x.2.2.1.2).map vP) (4 + x.2.2.1.2) x.2.2.1.2
      rw [decide_eq_false (by omega), decide_eq_true (by omega), decide_eq_true o1] at hd
      exact Runs.piece okA8 mx hd rfl (by rfl) hr
    | true =>
      obtain ⟨q1, q2⟩ := hm rfl
      have hd := Rw.d1 xs n st l hs m i x (p4 x ++ (x.2.2.1.1.take x.2.2.1.2).map vP) (4 + x.2.2.1.2) x.2.2.1.2
      rw [decide_eq_false (by omega), decide_eq_true (by omega), decide_eq_true o1, decide_eq_true q1, decide_eq_true (by omega)] at hd
      exact Runs.piece okA8 mx hd rfl (by rfl) hr
def hsS (xs : List BIt) : Nat → List Said
  | 0 => []
  | i + 1 => hsS xs i ++ [saidA itS (parts (xs.getD i dfI)) (4 + (xs.getD i dfI).2.2.1.2)]
theorem hsS_len (xs : List BIt) : ∀ i, (hsS xs i).length = i
  | 0 => rfl
  | i + 1 => by unfold hsS; rw [List.length_append, hsS_len xs i]; rfl
theorem runs {xs : List BIt} {n : Nat} (hn : n ≤ 64) (hx : n ≤ xs.length) (hg : ∀ x ∈ xs, itGood x) (ho : ∀ i, i < n → itOk (xs.getD i dfI)) :
    Runs Tryd.prog A8 Tryd.f42 0 [.code (cd Tryd.f42)] (s0 xs n) (wRes (wDraws n (wSt xs n) [])).1 (wRes (wDraws n (wSt xs n) [])).2 := by
  have ha := Rw.a xs n
  rw [decide_eq_false (by omega)] at ha
  refine Runs.piece okA8 mx ha rfl (by rfl) ?_
  refine loopG (st := fun i (l : Bool) => stA xs n (wSt xs i) l (decide (0 < i)) (hsS xs i) i i) (I := fun i l => True) (n := n) (fun i l hi _ => ⟨false, trivial, fun hr => ?_⟩) (fun l _ => ?_) n 0 true (by omega) trivial
  · have hm : xs.getD i dfI ∈ xs := by
      rw [List.getD_eq_getElem?_getD, List.getElem?_eq_getElem (by omega)]; exact List.getElem_mem _
    have hb := Rw.b xs n (wSt xs i) l (decide (0 < i)) (hsS xs i) i i
    have h3 := (ho i hi).2.2
    rw [decide_eq_true (show (i : Int) < n by omega), decide_eq_true (show 0 ≤ (i : Int) ∧ (i : Int) < n by omega), decide_eq_true (show (xs.getD i dfI).1.size ≤ 140737488355328 by omega)] at hb
    have hq : decide (0 < i) = false → hsS xs i = [] ∧ i = 0 := fun h => by
      have : ¬ 0 < i := of_decide_eq_false h
      obtain rfl : i = 0 := by omega
      exact ⟨rfl, rfl⟩
    have e : decide (0 < i + 1) = true := decide_eq_true (by omega)
    have hr : Runs _ _ _ _ _ (stA xs n (wSt xs (i + 1)) false (decide (0 < i + 1)) (hsS xs (i + 1)) (i + 1) ((i + 1 : Nat) : Int)) _ _ := hr
    rw [e] at hr
    show Runs _ _ _ _ _ (stA xs n (wSt xs i) l (decide (0 < i)) (hsS xs i) i i) _ _
    generalize decide (0 < i) = b at hb hq ⊢
    refine Runs.piece (m := 0) okA8 mx hb rfl (by cases b <;> rfl) (inner (hg _ hm) (ho i hi) (fun _ => ⟨(hsS_len xs i).symm, by omega⟩) hq ?_)
    rw [iwk (by omega)]
    exact hr
  · have he := Rw.e xs n (wSt xs n) l (decide (0 < n)) (hsS xs n) n n
    rw [decide_eq_false (show ¬ (n : Int) < n by omega)] at he
    refine Runs.piece okA8 mx he rfl (by cases decide (0 < n) <;> rfl) ?_
    exact draws hn n 0 [] l (wSt xs n) (decide (0 < n)) (hsS xs n) n (by omega) rfl (fun _ => ⟨(hsS_len xs n).symm, by omega⟩)
end Rw
def wAll (xs : List BIt) (n : Nat) : SV × Heap := if 64 < n then (.tup [.c .nils, .c (.int false .i64 1)], []) else wRes (wDraws n (wSt xs n) [])
def TbW (vs : List V1) (hl : Heap) : Tree (SV × Heap) :=
  match vs, hl with
  | [.c (.ro (.pair .str (.pair (.pair (.int .i64) (.pair (.int .i64) .unit)) (.pair (.sl (.ws .u8 32)) (.pair (.sl (.int .u8)) .unit)))) xs n)], [] => Tree.chk (decide (∀ i, i < n → itOk (List.getD (α := BIt) xs i dfI))) (.ret (wAll xs n))
  | _, _ => .fail
theorem good_of {xs : List BIt} {n : Nat} (h : okC (.ro ITEM xs n)) : ∀ x ∈ xs, itGood x := fun x hx => by
  have := h.2 x hx
  obtain ⟨_, _, ⟨h1, h2⟩, ⟨h3, _⟩, _⟩ := this
  exact ⟨h1, fun v hv => (h2 v hv).1, h3⟩
theorem ok_bweights : EntryOk Tryd.prog G1 59 TbW := by
  refine EntryOk.runs (S := A8) (fn := Tryd.f59) (c := cd Tryd.f59) (by kernel_rfl) (by kernel_rfl) (by kernel_rfl) (fun vs hl r hl' ok h => ?_)
  unfold TbW at h
  split at h
  · rename_i xs n
    obtain ⟨h1, h2⟩ := val_chk h
    have h1 := of_decide_eq_true h1
    have h3 := val_ret h2
    unfold wAll at h3
    split at h3
    · rename_i hn
      obtain ⟨rfl, rfl⟩ := Prod.mk.inj h3
      have ha := Bw.a1 xs n
      rw [decide_eq_true (by omega)] at ha
      exact Runs.resU (Runs.last (m := 0) okA8 mx ha rfl (by rfl))
    · rename_i hn
      obtain ⟨rfl, rfl⟩ := Prod.mk.inj h3
      exact Bw.runs (by omega) ok.1.1 (good_of ok.1) h1
  · cases h
theorem ok_r15Weights : EntryOk Tryd.prog G1 42 TbW := by
  refine EntryOk.runs (S := A8) (fn := Tryd.f42) (c := cd Tryd.f42) (by kernel_rfl) (by kernel_rfl) (by kernel_rfl) (fun vs hl r hl' ok h => ?_)
  unfold TbW at h
  split at h
  · rename_i xs n
    obtain ⟨h1, h2⟩ := val_chk h
    have h1 := of_decide_eq_true h1
    have h3 := val_ret h2
    unfold wAll at h3
    split at h3
    · rename_i hn
      obtain ⟨rfl, rfl⟩ := Prod.mk.inj h3
      have ha := Rw.a1 xs n
      rw [decide_eq_true (by omega)] at ha
      exact Runs.resU (Runs.last (m := 0) okA8 mx ha rfl (by rfl))
    · rename_i hn
      obtain ⟨rfl, rfl⟩ := Prod.mk.inj h3
      exact Rw.runs (by omega) ok.1.1 (good_of ok.1) h1
  · cases h
noncomputable def A9 : Tab := (A8.put 59 1 TbW).put 42 1 TbW
theorem okA9 : SpecOk Tryd.prog A9 := (okA8.put ok_bweights).put ok_r15Weights
end Go.Sc

namespace Go.Sc
open Go Go.SX Go.Proofs

def wD (xs : List BIt) (n : Nat) : Option (List (List Int)) := wDraws n (wSt xs n) []
def wK (xs : List BIt) (n : Nat) : List (List Int) := (wD xs n).getD []
theorem wDraws_len : ∀ (d : Nat) (st : List Int) (ks ks' : List (List Int)), wDraws d st ks = some ks' → ks'.length = ks.length + d
  | 0, st, ks, ks', h => by
    obtain rfl := Option.some.inj h; rfl
  | d + 1, st, ks, ks', h => by
    unfold wDraws at h
    split at h
    · cases h
    · have := wDraws_len d _ _ _ h
      rw [List.length_append] at this
      simp at this; omega
def TbW2 (vs : List V1) (hl : Heap) : Tree (SV × Heap) :=
  match vs, hl with
  | [.c (.ro (.pair .str (.pair (.pair (.int .i64) (.pair (.int .i64) .unit)) (.pair (.sl (.ws .u8 32)) (.pair (.sl (.int .u8)) .unit)))) xs n)], [] => Tree.chk (decide (∀ i, i < n → itOk (List.getD (α := BIt) xs i dfI)))
    (.br (decide (64 < n)) (.ret (.tup [.c .nils, .c (.int false .i64 1)], [])) (.br (Option.isNone (wD xs n)) (.ret (.tup [.c .nils, .c (.int false .i64 4)], []))
      (.br (decide (n = 0)) (.ret (.tup [.c .nils, .c (.int false .i64 0)], [])) (.ret (.tup [.c (.sl 0 0 n), .c (.int false .i64 0)], [.arr SC (wK xs n) 0 []])))))
  | _, _ => .fail
theorem val_br {α : Type} {b : Bool} {t e : Tree α} {r : α} (h : (Tree.br b t e).val = some r) : (b = true ∧ t.val = some r) ∨ (b = false ∧ e.val = some r) := by
  cases b with
  | true => exact .inl ⟨rfl, h⟩
  | false => exact .inr ⟨rfl, h⟩
theorem TbW2_val {vs : List V1} {hl : Heap} {r : SV × Heap} (h : (TbW2 vs hl).val = some r) : (TbW vs hl).val = some r := by
  unfold TbW2 at h
  split at h
  · rename_i xs n
    obtain ⟨h1, h2⟩ := val_chk h
    show (Tree.chk (decide (∀ i, i < n → itOk (List.getD (α := BIt) xs i dfI))) (.ret (wAll xs n))).val = some r
    rw [h1]
    show some (wAll xs n) = some r
    unfold wAll
    rcases val_br h2 with ⟨q1, q2⟩ | ⟨q1, q2⟩
    · rw [if_pos (of_decide_eq_true q1)]; exact q2
    rw [if_neg (of_decide_eq_false q1)]
    show some (wRes (wD xs n)) = some r
    have q1 : ¬ 64 < n := of_decide_eq_false q1
    unfold wK at q2
    cases hd : wD xs n with
    | none =>
      rw [hd] at q2
      exact q2
    | some ks =>
      rw [hd] at q2
      have hl : ks.length = n := by have := wDraws_len n _ _ _ hd; simpa using this
      rcases val_br q2 with ⟨q3, q4⟩ | ⟨q3, q4⟩
      · cases q3
      rcases val_br q4 with ⟨q5, q6⟩ | ⟨q5, q6⟩
      · obtain rfl : n = 0 := of_decide_eq_true q5
        obtain rfl : ks = [] := List.eq_nil_of_length_eq_zero hl
        exact q6
      · have : ¬ n = 0 := of_decide_eq_false q5
        cases ks with
        | nil => exact (this hl.symm).elim
        | cons a t =>
          rw [← hl] at q6
          exact q6
  · cases h
noncomputable def Aa : Tab := (A9.put 59 1 TbW2).put 42 1 TbW2
theorem ok_bw2 : EntryOk Tryd.prog G1 59 TbW2 := EntryOk.sub ok_bweights fun _ _ _ _ h => TbW2_val h
theorem ok_rw2 : EntryOk Tryd.prog G1 42 TbW2 := EntryOk.sub ok_r15Weights fun _ _ _ _ h => TbW2_val h
theorem okAa : SpecOk Tryd.prog Aa := (okA9.put ok_bw2).put ok_rw2

def encP (x : List Int) : List Int := encL (limbs (val x % ell))
namespace Ww
noncomputable def r (k : Nat) (is : List Item) (s : St) : Tree Out := runK Aa Tryd.prog noLoops k is s
noncomputable def s0 (xs : List BIt) (n : Nat) : St := ⟨enterT Tryd.f41 [.c (.ro ITEM xs n)], []⟩
def okI (xs : List BIt) (n : Nat) : Bool := decide (∀ i, i < n → itOk (List.getD (α := BIt) xs i dfI))
def bad (xs : List BIt) (n : Nat) : Bool := Option.isNone (wD xs n)
noncomputable def K1 : List Item := leftT [true, false, false, false, false] (r 400 [.code (cd Tryd.f41)] (s0 [] 0))
def oC (o : Bool) (k : Nat) : Cell := match o with | true => .sl 1 0 k | false => .nils
def oH (o : Bool) (ks : List (List Int)) : Heap := match o with | true => [.arr W32 ks 0 []] | false => []
noncomputable def stE : St := ⟨slotsOf 30 [(6, one .nils), (18, one (.int true .i64 (0 : Nat))), (19, one (.int true .i64 0))], []⟩
noncomputable def stD (ks : List (List Int)) (n : Nat) (o : Bool) (os : List (List Int)) (k : Nat) (i : Int) : St := ⟨slotsOf 30 [(6, one (oC o k)), (17, one (.sl 0 0 n)), (18, one (.int false .i64 n)), (19, one (.int false .i64 i))], .arr SC ks 0 [] :: oH o os⟩
theorem a1 (xs : List BIt) (n : Nat) : endT Tryd.prog Tryd.f41 [] [true, true, true] (r 400 [.code (cd Tryd.f41)] (s0 xs n)) = some ([okI xs n, decide (64 < n), true], .tup [.c .nils, .c (.int false .i64 1)], []) := by kernel_rfl
theorem a2 (xs : List BIt) (n : Nat) : endT Tryd.prog Tryd.f41 [] [true, false, true, true] (r 400 [.code (cd Tryd.f41)] (s0 xs n)) = some ([okI xs n, decide (64 < n), bad xs n, true], .tup [.c .nils, .c (.int false .i64 4)], []) := by kernel_rfl
theorem a3 (xs : List BIt) (n : Nat) : pieceT [6, 18, 19] [] [] [true, false, false, true, false] (r 400 [.code (cd Tryd.f41)] (s0 xs n)) = some ([okI xs n, decide (64 < n), bad xs n, decide (n = 0), false], K1, stE) := by kernel_rfl
theorem a4 (xs : List BIt) (n : Nat) : pieceT [6, 17, 18, 19] [19] [0] [true, false, false, false, false] (r 400 [.code (cd Tryd.f41)] (s0 xs n)) = some ([okI xs n, decide (64 < n), bad xs n, decide (n = 0), false], K1, stD (wK xs n) n false [] 0 (0 : Nat)) := by kernel_rfl
theorem b : endT Tryd.prog Tryd.f41 [] [] (r 400 K1 stE) = some ([], .tup [.c .nils, .c (.int true .i64 0)], []) := by kernel_rfl
def oI (o : Bool) : List Nat := match o with | true => [0, 4] | false => [0, 3]
def oN (o : Bool) (k : Nat) (ks : List (List Int)) : Bool := match o with | true => decide (k = ks.length) && (SX.room (k + 1) 32 && SX.room (k + 1) 1) | false => SX.room 1 32 && SX.room 1 1
theorem c (ks : List (List Int)) (n : Nat) (o : Bool) (os : List (List Int)) (k i : Nat) : pieceT [6, 17, 18, 19] [19] (oI o) [true, true, true] (r 400 K1 (stD ks n o os k i)) =
    some ([decide ((i : Int) < n), decide (0 ≤ (i : Int) ∧ (i : Int) < n), oN o k os], K1, stD ks n true (match o with | true => os ++ [encP (ks.getD (0 + i) [0, 0, 0, 0])] | false => [encP (ks.getD (0 + i) [0, 0, 0, 0])]) (match o with | true => k + 1 | false => 1) (iw ((i : Int) + 1))) := by
  cases o <;> kernel_rfl
theorem d (ks : List (List Int)) (n : Nat) (os : List (List Int)) (k i : Nat) : endT Tryd.prog Tryd.f41 [1] [false] (r 400 K1 (stD ks n true os k i)) =
    some ([decide ((i : Int) < n)], .tup [.c (.sl 0 0 k), .c (.int true .i64 0)], [.arr W32 os 0 []]) := by kernel_rfl
theorem oN_true {o : Bool} {os : List (List Int)} {k : Nat} (hk : k = os.length) (h : k ≤ 1000) : oN o k os = true := by
  cases o with
  | false => exact rm32 (n := 1) (by omega)
  | true =>
    show (decide (k = os.length) && (SX.room (k + 1) 32 && SX.room (k + 1) 1)) = true
    rw [decide_eq_true hk, rm32 (by omega)]; rfl
theorem enc_succ {ks : List (List Int)} {i : Nat} (h : i < ks.length) : (ks.take (i + 1)).map encP = (ks.take i).map encP ++ [encP (ks.getD (0 + i) [0, 0, 0, 0])] := by
  rw [List.take_succ_eq_append_getElem h, List.map_append, Nat.zero_add, List.getD_eq_getElem?_getD, List.getElem?_eq_getElem h]; rfl
theorem loop {ks : List (List Int)} {n : Nat} (hn : n ≤ 64) (h0 : 0 < n) (hk : ks.length = n) :
    Runs Tryd.prog Aa Tryd.f41 0 K1 (stD ks n false [] 0 (0 : Nat)) (.tup [.c (.sl 0 0 n), .c (.int false .i64 0)]) [.arr W32 (ks.map encP) 0 []] := by
  have key := loopG (P := Tryd.prog) (S := Aa) (fn := Tryd.f41) (m := 0) (K := K1) (v := .tup [.c (.sl 0 0 n), .c (.int false .i64 0)]) (hl := [.arr W32 (ks.map encP) 0 []])
    (st := fun i (_ : Unit) => stD ks n true ((ks.take (i + 1)).map encP) (i + 1) ((i + 1 : Nat) : Int)) (I := fun _ _ => True) (n := n - 1)
    (fun i u hi _ => ⟨(), trivial, fun hr => ?_⟩) (fun u _ => ?_) (n - 1) 0 () (by omega) trivial
  · have hc := c ks n false [] 0 0
    have e1 : (ks.take (0 + 1)).map encP = [encP (ks.getD (0 + 0) [0, 0, 0, 0])] := by
      rw [enc_succ (by omega), List.take_zero]; rfl
    rw [decide_eq_true (by omega), decide_eq_true (by omega), show oN false 0 [] = true from oN_true rfl (by omega), iwk (by omega)] at hc
    refine Runs.piece okAa mx hc rfl (by rfl) ?_
    rw [e1] at key
    exact key
  · have hl1 : ((ks.take (i + 1)).map encP).length = i + 1 := by rw [List.length_map, List.length_take]; omega
    have hc := c ks n true ((ks.take (i + 1)).map encP) (i + 1) (i + 1)
    rw [decide_eq_true (by omega), decide_eq_true (by omega), oN_true hl1.symm (by omega), iwk (by omega)] at hc
    refine Runs.piece okAa mx hc rfl (by rfl) ?_
    have hr : Runs _ _ _ _ _ (stD ks n true ((ks.take (i + 1 + 1)).map encP) (i + 1 + 1) ((i + 1 + 1 : Nat) : Int)) _ _ := hr
    rw [enc_succ (by omega)] at hr
    exact hr
  · have hd := d ks n ((ks.take (n - 1 + 1)).map encP) (n - 1 + 1) (n - 1 + 1)
    rw [decide_eq_false (by omega)] at hd
    have h9 := Runs.resU (Runs.last (m := 0) okAa mx hd rfl (by rfl))
    have e : (ks.take (n - 1 + 1)).map encP = ks.map encP := by rw [List.take_of_length_le (by omega)]
    show Runs _ _ _ _ _ (stD ks n true ((ks.take (n - 1 + 1)).map encP) (n - 1 + 1) ((n - 1 + 1 : Nat) : Int)) _ _
    rw [e] at h9 ⊢
    have e2 : n - 1 + 1 = n := by omega
    rw [e2] at h9 ⊢
    exact h9
end Ww
def TBw (vs : List V1) (hl : Heap) : Tree (SV × Heap) :=
  match vs, hl with
  | [.c (.ro (.pair .str (.pair (.pair (.int .i64) (.pair (.int .i64) .unit)) (.pair (.sl (.ws .u8 32)) (.pair (.sl (.int .u8)) .unit)))) xs n)], [] => Tree.chk (Ww.okI xs n)
    (.br (decide (64 < n)) (.ret (.tup [.c .nils, .c (.int false .i64 1)], [])) (.br (Ww.bad xs n) (.ret (.tup [.c .nils, .c (.int false .i64 4)], []))
      (.br (decide (n = 0)) (.ret (.tup [.c .nils, .c (.int false .i64 0)], [])) (.ret (.tup [.c (.sl 0 0 n), .c (.int false .i64 0)], [.arr W32 ((wK xs n).map encP) 0 []])))))
  | _, _ => .fail
theorem wK_len {xs : List BIt} {n : Nat} (h : Ww.bad xs n = false) : (wK xs n).length = n := by
  unfold wK
  unfold Ww.bad at h
  cases hd : wD xs n with
  | none => rw [hd] at h; cases h
  | some ks => have := wDraws_len n _ _ _ hd; simpa using this
theorem ok_bWeights : EntryOk Tryd.prog G1 41 TBw := by
  refine EntryOk.runs (S := Aa) (fn := Tryd.f41) (c := cd Tryd.f41) (by kernel_rfl) (by kernel_rfl) (by kernel_rfl) (fun vs hl r hl' ok h => ?_)
  unfold TBw at h
  split at h
  · rename_i xs n
    obtain ⟨h1, h2⟩ := val_chk h
    rcases val_br h2 with ⟨q1, q2⟩ | ⟨q1, q2⟩
    · obtain ⟨rfl, rfl⟩ := Prod.mk.inj (val_ret q2)
      have ha := Ww.a1 xs n
      rw [h1, q1] at ha
      exact Runs.last (m := 0) okAa mx ha rfl (by rfl)
    rcases val_br q2 with ⟨q3, q4⟩ | ⟨q3, q4⟩
    · obtain ⟨rfl, rfl⟩ := Prod.mk.inj (val_ret q4)
      have ha := Ww.a2 xs n
      rw [h1, q1, q3] at ha
      exact Runs.last (m := 0) okAa mx ha rfl (by rfl)
    rcases val_br q4 with ⟨q5, q6⟩ | ⟨q5, q6⟩
    · obtain ⟨rfl, rfl⟩ := Prod.mk.inj (val_ret q6)
      have ha := Ww.a3 xs n
      rw [h1, q1, q3, q5] at ha
      refine Runs.piece (m := 0) okAa mx ha rfl (by rfl) ?_
      exact Runs.resU (Runs.last (m := 0) okAa mx Ww.b rfl (by rfl))
    · obtain ⟨rfl, rfl⟩ := Prod.mk.inj (val_ret q6)
      have ha := Ww.a4 xs n
      rw [h1, q1, q3, q5] at ha
      refine Runs.piece (m := 0) okAa mx ha rfl (by rfl) ?_
      have hn : ¬ 64 < n := of_decide_eq_false q1
      have hn0 : ¬ n = 0 := of_decide_eq_false q5
      exact Ww.loop (by omega) (by omega) (wK_len q3)
  · cases h
noncomputable def Ab : Tab := Aa.put 41 1 TBw
theorem okAb : SpecOk Tryd.prog Ab := okAa.put ok_bWeights
end Go.Sc

namespace Go.Sc
open Go Go.SX Go.Proofs

def itV (x : BIt) : V1 := .g [.c (.str x.1), .c (.int false .i64 x.2.1.1), .c (.int false .i64 x.2.1.2.1), .c (.ro W32 x.2.2.1.1 x.2.2.1.2), .c (.ro (.int .u8) x.2.2.2.1.1 x.2.2.2.1.2)]
def tV (x : BIt) : List (List Int) := x.2.2.1.1.take x.2.2.1.2
def tP (x : BIt) : List Int := x.2.2.2.1.1.take x.2.2.2.1.2
def twD (x : BIt) : BIt := (x.1, x.2.1, (tV x, (tV x).length), (tP x, (tP x).length), ())
def rmV (n : Nat) : Bool := SX.room n 32 && SX.room n 1
theorem twin_b (x : BIt) : (bodyT Ab Tryd.prog allLoops Tryd.f18 (cd Tryd.f18) [itV x] []).path [true, true] =
    some ([rmV (tV x).length, HRf.rm (tP x).length], .one (.g [.c (.str x.1), .c (.int false .i64 x.2.1.1), .c (.int false .i64 x.2.1.2.1), .c (.sl 0 0 (tV x).length), .c (.sl 1 0 (tP x).length)]),
      [.arr W32 (tV x) 0 [], .arr (.int .u8) (tP x) 0 []]) := by kernel_rfl
namespace Kp
noncomputable def r (k : Nat) (is : List Item) (s : St) : Tree Out := runK Ab Tryd.prog noLoops k is s
noncomputable def s0 (ps : List BIt) (n : Nat) (rs : List BIt) (m : Nat) : St := ⟨enterT Tryd.f20 [.g [.c (.ro ITEM ps n), .c (.ro ITEM rs m), .c .nils]], []⟩
noncomputable def K1 : List Item := leftT [] (r 400 [.code (cd Tryd.f20)] (s0 [] 0 [] 0))
noncomputable def st1 (ps : List BIt) (n : Nat) (rs : List BIt) (m : Nat) (i : Int) : St := ⟨slotsOf 89 [(1, pt 0), (3, one (.int false .i64 i))], [.vals [.c (.ro ITEM ps n), .c (.ro ITEM rs m), .c .nils]]⟩
theorem a (ps : List BIt) (n : Nat) (rs : List BIt) (m : Nat) : pieceT [1, 3] [3] [0] [] (r 400 [.code (cd Tryd.f20)] (s0 ps n rs m)) = some ([], K1, st1 ps n rs m (0 : Nat)) := by kernel_rfl
def it (xs : List BIt) (i : Nat) : BIt := xs.getD i dfI
def pB (x : BIt) : List Int := x.2.2.2.1.1.take x.2.2.2.1.2
noncomputable def K2 : List Item := leftT [true, true, true, true, true, true, true, true, true, false] (r 400 K1 (st1 [] 0 [] 0 0))
noncomputable def st2 (ps : List BIt) (n : Nat) (rs : List BIt) (m : Nat) (i j : Int) : St := ⟨slotsOf 89 [(1, pt 0), (3, one (.int false .i64 i)), (4, one (.int false .i64 j))], [.vals [.c (.ro ITEM ps n), .c (.ro ITEM rs m), .c .nils]]⟩
theorem b (ps : List BIt) (n : Nat) (rs : List BIt) (m i : Nat) : pieceT [1, 3, 4] [4] [0] [true, true, true, true, true, true, true, true, true, false] (r 400 K1 (st1 ps n rs m i)) =
    some ([decide ((i : Int) < n), decide (0 ≤ (i : Int) ∧ (i : Int) < n), decide (0 ≤ (i : Int) ∧ (i : Int) < m), ((!((strOf (pB (it ps i))).toList == (strOf (pB (it rs i))).toList)) == false),
      decide (0 ≤ (i : Int) ∧ (i : Int) < n), decide (0 ≤ (i : Int) ∧ (i : Int) < m), (((it ps i).2.2.1.2 : Int) != ((it rs i).2.2.1.2 : Int)) == false, decide (0 ≤ (i : Int) ∧ (i : Int) < n), decide (0 ≤ (i : Int) ∧ (i : Int) < m),
      !((it ps i).2.1.1 == (it rs i).2.1.1 && ((it ps i).2.1.2.1 == (it rs i).2.1.2.1 && true))], K2, st2 ps n rs m i (0 : Nat)) := by kernel_rfl
def z32 : List Int := List.replicate 32 0
theorem c (ps : List BIt) (n : Nat) (rs : List BIt) (m i j : Nat) : pieceT [1, 3, 4] [4] [0] [true, true, true, true, true, true, false] (r 400 K2 (st2 ps n rs m i j)) =
    some ([decide (0 ≤ (i : Int) ∧ (i : Int) < n), decide ((j : Int) < (it ps i).2.2.1.2), decide (0 ≤ (i : Int) ∧ (i : Int) < n), decide (0 ≤ (j : Int) ∧ (j : Int) < (it ps i).2.2.1.2), decide (0 ≤ (i : Int) ∧ (i : Int) < m), decide (0 ≤ (j : Int) ∧ (j : Int) < (it rs i).2.2.1.2),
      !(((it ps i).2.2.1.1.getD j z32) == ((it rs i).2.2.1.1.getD j z32) && true)], K2, st2 ps n rs m i (iw ((j : Int) + 1))) := by kernel_rfl
theorem d (ps : List BIt) (n : Nat) (rs : List BIt) (m i j : Nat) : pieceT [1, 3] [3] [0] [true, false] (r 400 K2 (st2 ps n rs m i j)) =
    some ([decide (0 ≤ (i : Int) ∧ (i : Int) < n), decide ((j : Int) < (it ps i).2.2.1.2)], K1, st1 ps n rs m (iw ((i : Int) + 1))) := by kernel_rfl
theorem e (ps : List BIt) (n : Nat) (rs : List BIt) (m i : Nat) : endT Tryd.prog Tryd.f20 [] [false] (r 400 K1 (st1 ps n rs m i)) = some ([decide ((i : Int) < n)], .one (.c (.bool true true)), []) := by kernel_rfl
theorem pB_tw (x : BIt) : pB (twD x) = pB x := by
  show List.take (tP x).length (tP x) = tP x
  rw [List.take_length]
theorem getD_tV {x : BIt} {j : Nat} (h : j < x.2.2.1.2) : (tV x).getD j z32 = x.2.2.1.1.getD j z32 := by
  unfold tV
  rw [List.getD_eq_getElem?_getD, List.getD_eq_getElem?_getD, List.getElem?_take, if_pos h]
theorem runs {ps : List BIt} {n : Nat} {rs : List BIt} {m : Nat} (hn : n ≤ 1000000000) (hm : n ≤ m) (hx : n ≤ ps.length) (hg : ∀ x ∈ ps, itGood x) (hs : ∀ i, i < n → (it ps i).2.2.1.2 ≤ 1000000000) (hr : ∀ i, i < n → it rs i = twD (it ps i)) :
    Runs Tryd.prog Ab Tryd.f20 0 [.code (cd Tryd.f20)] (s0 ps n rs m) (.one (.c (.bool true true))) [] := by
  refine Runs.piece okAb mx (a ps n rs m) rfl (by rfl) ?_
  refine loopG (st := fun i (_ : Unit) => st1 ps n rs m i) (I := fun _ _ => True) (n := n) (fun i u hi _ => ⟨(), trivial, fun hq => ?_⟩) (fun u _ => ?_) n 0 () (by omega) trivial
  · have hin : it ps i ∈ ps := by
      unfold it
      rw [List.getD_eq_getElem?_getD, List.getElem?_eq_getElem (by omega)]; exact List.getElem_mem _
    have hgi := hg _ hin
    have hvl : (tV (it ps i)).length = (it ps i).2.2.1.2 := by
      unfold tV
      rw [List.length_take]; have := hgi.1; omega
    have hb := b ps n rs m i
    have e1 : (it rs i).2.2.1.2 = (it ps i).2.2.1.2 := by rw [hr i hi]; exact hvl
    have e2 : (it rs i).2.1 = (it ps i).2.1 := by rw [hr i hi]; rfl
    have e3 : pB (it rs i) = pB (it ps i) := by rw [hr i hi]; exact pB_tw _
    have c1 : (((it ps i).2.2.1.2 : Int) != ((it ps i).2.2.1.2 : Int)) = false := by simp
    have c2 : ((it ps i).2.1.1 == (it ps i).2.1.1 && ((it ps i).2.1.2.1 == (it ps i).2.1.2.1 && true)) = true := by
      show (((it ps i).2.1.1 : Int) == (it ps i).2.1.1 && (((it ps i).2.1.2.1 : Int) == (it ps i).2.1.2.1 && true)) = true
      simp
    have c3 : ((strOf (pB (it ps i))).toList == (strOf (pB (it ps i))).toList) = true := by simp
    rw [e1, e2, e3, c1, c2, c3, decide_eq_true (by omega), decide_eq_true (show 0 ≤ (i : Int) ∧ (i : Int) < n by omega), decide_eq_true (show 0 ≤ (i : Int) ∧ (i : Int) < m by omega)] at hb
    refine Runs.piece okAb mx hb rfl (by rfl) ?_
    refine loopG (st := fun j (_ : Unit) => st2 ps n rs m i j) (I := fun _ _ => True) (n := (it ps i).2.2.1.2) (fun j u hj _ => ⟨(), trivial, fun hq => ?_⟩) (fun u _ => ?_) (it ps i).2.2.1.2 0 () (by omega) trivial
    · have hc := c ps n rs m i j
      have hsz := hs i hi
      have e4 : (it rs i).2.2.1.1.getD j z32 = (it ps i).2.2.1.1.getD j z32 := by
        rw [hr i hi]; exact getD_tV hj
      have c4 : (((it ps i).2.2.1.1.getD j z32) == ((it ps i).2.2.1.1.getD j z32) && true) = true := by
        rw [Bool.and_true]
        exact beq_self_eq_true (α := List Int) _
      rw [e1, e4, c4, decide_eq_true (show 0 ≤ (i : Int) ∧ (i : Int) < n by omega), decide_eq_true (show 0 ≤ (i : Int) ∧ (i : Int) < m by omega), decide_eq_true (show (j : Int) < (it ps i).2.2.1.2 by omega),
        decide_eq_true (show 0 ≤ (j : Int) ∧ (j : Int) < (it ps i).2.2.1.2 by omega), iwk (by omega)] at hc
      exact Runs.piece okAb mx hc rfl (by rfl) hq
    · have hd := d ps n rs m i (it ps i).2.2.1.2
      rw [decide_eq_true (show 0 ≤ (i : Int) ∧ (i : Int) < n by omega), decide_eq_false (by omega), iwk (by omega)] at hd
      exact Runs.piece okAb mx hd rfl (by rfl) hq
  · have he := e ps n rs m n
    rw [decide_eq_false (by omega)] at he
    exact Runs.last okAb mx he rfl (by rfl)
end Kp
/-- are these the twins of those? -/
def tws (ps : List BIt) (n : Nat) (rs : List BIt) (m : Nat) : Prop := n ≤ 1000000000 ∧ n ≤ m ∧ ∀ i, i < n → (Kp.it ps i).2.2.1.2 ≤ 1000000000 ∧ Kp.it rs i = twD (Kp.it ps i)
noncomputable def decP (p : Prop) : Bool := @decide p (Classical.propDecidable p)
theorem decP_true {p : Prop} (h : p) : decP p = true := @decide_eq_true p (Classical.propDecidable p) h
theorem of_decP {p : Prop} (h : decP p = true) : p := @of_decide_eq_true p (Classical.propDecidable p) h
noncomputable def Tkept (vs : List V1) (hl : Heap) : Tree (SV × Heap) :=
  match vs, hl with
  | [.g [.c (.ro (.pair .str (.pair (.pair (.int .i64) (.pair (.int .i64) .unit)) (.pair (.sl (.ws .u8 32)) (.pair (.sl (.int .u8)) .unit)))) ps n),
      .c (.ro (.pair .str (.pair (.pair (.int .i64) (.pair (.int .i64) .unit)) (.pair (.sl (.ws .u8 32)) (.pair (.sl (.int .u8)) .unit)))) rs m), .c .nils]], [] => Tree.chk (decP (tws ps n rs m)) (.ret (.one (.c (.bool true true)), []))
  | _, _ => .fail
theorem ok_kept0 : EntryOk Tryd.prog G1 20 Tkept := by
  refine EntryOk.runs (S := Ab) (fn := Tryd.f20) (c := cd Tryd.f20) (by kernel_rfl) (by kernel_rfl) (by kernel_rfl) (fun vs hl r hl' ok h => ?_)
  unfold Tkept at h
  split at h
  · rename_i ps n rs m
    obtain ⟨h1, h2⟩ := val_chk h
    obtain ⟨t1, t2, t3⟩ := of_decP h1
    obtain ⟨rfl, rfl⟩ := Prod.mk.inj (val_ret h2)
    exact Kp.runs t1 t2 ok.1.1.1 (good_of ok.1.1) (fun i hi => (t3 i hi).1) (fun i hi => (t3 i hi).2)
  · cases h
noncomputable def TkeptN (vs : List V1) (hl : Heap) : Tree (SV × Heap) := Tkept (normLG [[some ITEM, some ITEM, none]] vs) hl
def Ttwin (vs : List V1) (hl : Heap) : Tree (SV × Heap) :=
  match vs, hl with
  | [.g [.c (.str s), .c (.int _ .i64 b), .c (.int _ .i64 c), .c (.ro (.ws .u8 32) v vn), .c (.ro (.int .u8) p pn)]], [] => Tree.chk (decide (vn ≤ 1000000000) && decide (pn ≤ 1000000000))
    (.ret (.one (.g [.c (.str s), .c (.int false .i64 b), .c (.int false .i64 c), .c (.sl 0 0 (List.take (α := List Int) vn v).length), .c (.sl 1 0 (List.take (α := Int) pn p).length)]), [.arr W32 (List.take (α := List Int) vn v) 0 [], .arr (.int .u8) (List.take (α := Int) pn p) 0 []]))
  | _, _ => .fail
theorem ok_twin : EntryOk Tryd.prog G1 18 Ttwin := by
  refine EntryOk.sub (bodyT_ok okAb mx (un := allLoops) (fn := Tryd.f18) (c := cd Tryd.f18) (by kernel_rfl) (by kernel_rfl) (by kernel_rfl)).unlitG (fun vs hl r ok h => ?_)
  unfold Ttwin at h
  split at h
  · rename_i s l b l' c v vn p pn
    obtain ⟨h1, h2⟩ := val_chk h
    rw [Bool.and_eq_true] at h1
    have q1 := of_decide_eq_true h1.1
    have q2 := of_decide_eq_true h1.2
    obtain rfl := val_ret h2
    have hp := twin_b (s, (b, c, ()), (v, vn), (p, pn), ())
    have r1 : rmV (tV (s, (b, c, ()), (v, vn), (p, pn), ())).length = true := by
      have : (tV (s, (b, c, ()), (v, vn), (p, pn), ())).length ≤ 1000000000 := by
        show (List.take vn v).length ≤ _
        rw [List.length_take]; omega
      unfold rmV; simp [SX.room]; omega
    have r2 : (tP (s, (b, c, ()), (v, vn), (p, pn), ())).length ≤ 1000000000 := by
      show (List.take pn p).length ≤ _
      rw [List.length_take]; omega
    rw [r1, HRf.rm_true (by omega)] at hp
    exact Tree.path_val hp
  · cases h
noncomputable def Ac : Tab := (Ab.put 20 0 TkeptN).put 18 2 Ttwin
theorem okAc : SpecOk Tryd.prog Ac := (okAb.put (ok_kept0.normG [[some ITEM, some ITEM, none]] rfl)).put ok_twin
end Go.Sc

namespace Go.Sc
open Go Go.SX Go.Proofs

namespace Lw
noncomputable def r (k : Nat) (is : List Item) (s : St) : Tree Out := runK Ac Tryd.prog noLoops k is s
noncomputable def s0 (ps : List BIt) (n : Nat) (rs : List BIt) (m : Nat) : St := ⟨enterT Tryd.f19 [.g [.c (.ro ITEM ps n), .c (.ro ITEM rs m), .c .nils]], []⟩
def two (ps : List BIt) (n : Nat) (rs : List BIt) (m : Nat) : Blk := .vals [.c (.ro ITEM ps n), .c (.ro ITEM rs m), .c .nils]
def chs (q : List Bool) : List Bool := q ++ q ++ q
noncomputable def K1 : List Item := leftT [true, true, true, true, true, true, true] (r 400 [.code (cd Tryd.f19)] (s0 [] 0 [] 0))
noncomputable def stX (a c b : Cell) (s : Nat) (i : Int) (ps : List BIt) (n : Nat) (rs : List BIt) (m : Nat) (h : Heap) : St := ⟨slotsOf 100 [(1, pt 0), (3, one a), (5, one c), (7, one b), (s, one (.int false .i64 i))], two ps n rs m :: h⟩
noncomputable def xA (s : Nat) := stX .nils .nils .nils s
theorem a1 (ps : List BIt) (n : Nat) (rs : List BIt) (m : Nat) : pieceT [1, 3, 5, 7, 9] [9] [0] [true, true, true, true, true, true, true] (r 400 [.code (cd Tryd.f19)] (s0 ps n rs m)) =
    some ([Ww.okI ps n, decide (64 < n), Ww.okI ps n, decide (64 < n), Ww.okI rs m, decide (64 < m), true], K1, xA 9 (0 : Nat) ps n rs m []) := by kernel_rfl
theorem a2 (ps : List BIt) (n : Nat) (rs : List BIt) (m : Nat) : pieceT [1, 3, 5, 7, 9] [9] [0] [true, false, true, true, false, true, true, false, true, true] (r 400 [.code (cd Tryd.f19)] (s0 ps n rs m)) =
    some ([Ww.okI ps n, decide (64 < n), Ww.bad ps n, Ww.okI ps n, decide (64 < n), Ww.bad ps n, Ww.okI rs m, decide (64 < m), Ww.bad rs m, true], K1, xA 9 (0 : Nat) ps n rs m []) := by kernel_rfl
theorem a3 (ps : List BIt) (n : Nat) (rs : List BIt) (m : Nat) : pieceT [1, 3, 5, 7, 9] [9] [0] [true, false, false, true, true, false, false, true, true, false, false, true, true] (r 400 [.code (cd Tryd.f19)] (s0 ps n rs m)) =
    some ([Ww.okI ps n, decide (64 < n), Ww.bad ps n, decide (n = 0), Ww.okI ps n, decide (64 < n), Ww.bad ps n, decide (n = 0), Ww.okI rs m, decide (64 < m), Ww.bad rs m, decide (m = 0), true], K1, xA 9 (0 : Nat) ps n rs m []) := by kernel_rfl
noncomputable def yA (s : Nat) (i : Int) (ps : List BIt) (n : Nat) (rs : List BIt) (m : Nat) (A C B : List (List Int)) (L : Nat) : St := stX (.sl 1 0 L) (.sl 2 0 n) (.sl 3 0 m) s i ps n rs m [.arr W32 A 0 [], .arr W32 C 0 [], .arr SC B 0 []]
theorem a4 (ps : List BIt) (n : Nat) (rs : List BIt) (m : Nat) : pieceT [1, 3, 5, 7, 9] [9] [0, 1, 2, 3] [true, false, false, false, true, false, false, false, true, false, false, false, true, true, false] (r 400 [.code (cd Tryd.f19)] (s0 ps n rs m)) =
    some ([Ww.okI ps n, decide (64 < n), Ww.bad ps n, decide (n = 0), Ww.okI ps n, decide (64 < n), Ww.bad ps n, decide (n = 0), Ww.okI rs m, decide (64 < m), Ww.bad rs m, decide (m = 0), true, ((n : Int) != m) == false, (n : Int) != m], K1,
      yA 9 (0 : Nat) ps n rs m ((wK ps n).map encP) ((wK ps n).map encP) (wK rs m) n) := by kernel_rfl
noncomputable def K2 : List Item := leftT [false] (r 400 K1 (xA 9 (0 : Nat) [] 0 [] 0 []))
noncomputable def K3 : List Item := leftT [false] (r 400 K2 (xA 10 (0 : Nat) [] 0 [] 0 []))
noncomputable def K4 : List Item := leftT [false] (r 400 K3 (xA 11 (0 : Nat) [] 0 [] 0 []))
def nine : List Int := (List.replicate 32 0).set 0 9
theorem x1 (ps : List BIt) (n : Nat) (rs : List BIt) (m i : Nat) : pieceT [1, 3, 5, 7, 10] [10] [0] [false] (r 400 K1 (xA 9 i ps n rs m [])) = some ([decide ((i : Int) < 0)], K2, xA 10 (0 : Nat) ps n rs m []) := by kernel_rfl
theorem x2 (ps : List BIt) (n : Nat) (rs : List BIt) (m i : Nat) : pieceT [1, 3, 5, 7, 11] [11] [0] [false] (r 400 K2 (xA 10 i ps n rs m [])) = some ([decide ((i : Int) < 0)], K3, xA 11 (0 : Nat) ps n rs m []) := by kernel_rfl
noncomputable def xL (s : Nat) (i : Int) (ps : List BIt) (n : Nat) (rs : List BIt) (m : Nat) (A : List (List Int)) (L : Nat) : St := stX (.sl 1 0 L) .nils .nils s i ps n rs m [.arr W32 A 0 []]
theorem x3 (ps : List BIt) (n : Nat) (rs : List BIt) (m i : Nat) : pieceT [1, 3, 5, 7, 11] [11] [0, 2] [true, true] (r 400 K3 (xA 11 i ps n rs m [])) = some ([decide ((i : Int) < 40), SX.room 1 32 && SX.room 1 1], K3, xL 11 (iw ((i : Int) + 1)) ps n rs m [nine] 1) := by kernel_rfl
theorem x4 (ps : List BIt) (n : Nat) (rs : List BIt) (m i : Nat) (A : List (List Int)) (L : Nat) : pieceT [1, 3, 5, 7, 11] [11] [0, 3] [true, true] (r 400 K3 (xL 11 i ps n rs m A L)) =
    some ([decide ((i : Int) < 40), decide (L = A.length) && (SX.room (L + 1) 32 && SX.room (L + 1) 1)], K3, xL 11 (iw ((i : Int) + 1)) ps n rs m (A ++ [nine]) (L + 1)) := by kernel_rfl
theorem x5 (ps : List BIt) (n : Nat) (rs : List BIt) (m i : Nat) (A : List (List Int)) (L : Nat) : pieceT [1, 5, 7, 12] [12] [0] [false] (r 400 K3 (xL 11 i ps n rs m A L)) =
    some ([decide ((i : Int) < 40)], K4, ⟨slotsOf 100 [(1, pt 0), (5, one .nils), (7, one .nils), (12, one (.int false .i64 (0 : Nat)))], [two ps n rs m]⟩) := by kernel_rfl
theorem x6 (ps : List BIt) (n : Nat) (rs : List BIt) (m i : Nat) : endT Tryd.prog Tryd.f19 [] [false, true] (r 400 K4 (⟨slotsOf 100 [(1, pt 0), (5, one .nils), (7, one .nils), (12, one (.int false .i64 i))], [two ps n rs m]⟩)) =
    some ([decide ((i : Int) < 0), decP (tws ps n rs m)], .one (.c (.bool true true)), []) := by kernel_rfl
theorem y1 (ps : List BIt) (n : Nat) (rs : List BIt) (m : Nat) (A C B : List (List Int)) (L i : Nat) : pieceT [1, 3, 5, 7, 9] [9] [0, 1, 2, 3] [true, true, true, false] (r 400 K1 (yA 9 i ps n rs m A C B L)) =
    some ([decide ((i : Int) < L), decide (0 ≤ (i : Int) ∧ (i : Int) < L), decide (0 ≤ (i : Int) ∧ (i : Int) < m), !((A.getD (0 + i) (List.replicate 32 0) == encL (B.getD (0 + i) [0, 0, 0, 0])) && true)], K1, yA 9 (iw ((i : Int) + 1)) ps n rs m A C B L) := by kernel_rfl
theorem y2 (ps : List BIt) (n : Nat) (rs : List BIt) (m : Nat) (A C B : List (List Int)) (L i : Nat) : pieceT [1, 3, 5, 7, 10] [10] [0, 1, 2, 3] [false] (r 400 K1 (yA 9 i ps n rs m A C B L)) =
    some ([decide ((i : Int) < L)], K2, yA 10 (0 : Nat) ps n rs m A C B L) := by kernel_rfl
theorem y3 (ps : List BIt) (n : Nat) (rs : List BIt) (m : Nat) (A C B : List (List Int)) (L i : Nat) : pieceT [1, 3, 5, 7, 10] [10] [0, 1, 2, 3] [true, true] (r 400 K2 (yA 10 i ps n rs m A C B L)) =
    some ([decide ((i : Int) < L), decide (0 ≤ (i : Int) ∧ (i : Int) < L)], K2, yA 10 (iw ((i : Int) + 1)) ps n rs m (A.set (0 + i) nine) C B L) := by kernel_rfl
theorem y4 (ps : List BIt) (n : Nat) (rs : List BIt) (m : Nat) (A C B : List (List Int)) (L i : Nat) : pieceT [1, 3, 5, 7, 11] [11] [0, 1, 2, 3] [false] (r 400 K2 (yA 10 i ps n rs m A C B L)) =
    some ([decide ((i : Int) < L)], K3, yA 11 (0 : Nat) ps n rs m A C B L) := by kernel_rfl
theorem y5 (ps : List BIt) (n : Nat) (rs : List BIt) (m : Nat) (A C B : List (List Int)) (L i : Nat) : pieceT [1, 3, 5, 7, 11] [11] [0, 5, 2, 3] [true, true] (r 400 K3 (yA 11 i ps n rs m A C B L)) =
    some ([decide ((i : Int) < 40), decide (L = A.length) && (SX.room (L + 1) 32 && SX.room (L + 1) 1)], K3, yA 11 (iw ((i : Int) + 1)) ps n rs m (A ++ [nine]) C B (L + 1)) := by kernel_rfl
theorem y6 (ps : List BIt) (n : Nat) (rs : List BIt) (m : Nat) (A C B : List (List Int)) (L i : Nat) : pieceT [1, 3, 5, 7, 12] [12] [0, 1, 2, 3] [false] (r 400 K3 (yA 11 i ps n rs m A C B L)) =
    some ([decide ((i : Int) < 40)], K4, yA 12 (0 : Nat) ps n rs m A C B L) := by kernel_rfl
theorem y7 (ps : List BIt) (n : Nat) (rs : List BIt) (m : Nat) (A C B : List (List Int)) (L i : Nat) : pieceT [1, 3, 5, 7, 12] [12] [0, 1, 2, 3] [true, true, true, false] (r 400 K4 (yA 12 i ps n rs m A C B L)) =
    some ([decide ((i : Int) < n), decide (0 ≤ (i : Int) ∧ (i : Int) < n), decide (0 ≤ (i : Int) ∧ (i : Int) < m), !((C.getD (0 + i) (List.replicate 32 0) == encL (B.getD (0 + i) [0, 0, 0, 0])) && true)], K4, yA 12 (iw ((i : Int) + 1)) ps n rs m A C B L) := by kernel_rfl
theorem y8 (ps : List BIt) (n : Nat) (rs : List BIt) (m : Nat) (A C B : List (List Int)) (L i : Nat) : endT Tryd.prog Tryd.f19 [] [false, true] (r 400 K4 (yA 12 i ps n rs m A C B L)) =
    some ([decide ((i : Int) < n), decP (tws ps n rs m)], .one (.c (.bool true true)), []) := by kernel_rfl
variable {ps rs : List BIt} {n m : Nat}
theorem xTail (ht : tws ps n rs m) : Runs Tryd.prog Ac Tryd.f19 0 K1 (xA 9 (0 : Nat) ps n rs m []) (.one (.c (.bool true true))) [] := by
  refine Runs.piece (m := 0) okAc mx (x1 ps n rs m 0) rfl (by rfl) ?_
  refine Runs.piece (m := 0) okAc mx (x2 ps n rs m 0) rfl (by rfl) ?_
  have h3 := x3 ps n rs m 0
  rw [rm32 (n := 1) (by omega)] at h3
  refine Runs.piece (m := 0) okAc mx h3 rfl (by rfl) ?_
  refine loopG (st := fun i (_ : Unit) => xL 11 ((i + 1 : Nat) : Int) ps n rs m (List.replicate (i + 1) nine) (i + 1)) (I := fun _ _ => True) (n := 39) (fun i u hi _ => ⟨(), trivial, fun hr => ?_⟩) (fun u _ => ?_) 39 0 () (by omega) trivial
  · have h4 := x4 ps n rs m (i + 1) (List.replicate (i + 1) nine) (i + 1)
    rw [List.length_replicate, rm32 (by omega), decide_eq_true (by omega), decide_eq_true rfl, iwk (by omega), ← List.replicate_succ'] at h4
    exact Runs.piece okAc mx h4 rfl (by rfl) hr
  · refine Runs.piece (m := 0) okAc mx (x5 ps n rs m 40 (List.replicate 40 nine) 40) rfl (by rfl) ?_
    have h6 := x6 ps n rs m 0
    rw [decP_true ht] at h6
    exact Runs.last okAc mx h6 rfl (by rfl)
theorem yTail {A C B : List (List Int)} (ht : tws ps n rs m) (hm : m = n) (hn : n ≤ 64) (hA : A.length = n) (hc : ∀ i, i < n → A.getD i (List.replicate 32 0) = encL (B.getD i [0, 0, 0, 0])) (hc' : ∀ i, i < n → C.getD i (List.replicate 32 0) = encL (B.getD i [0, 0, 0, 0])) :
    Runs Tryd.prog Ac Tryd.f19 0 K1 (yA 9 (0 : Nat) ps n rs m A C B n) (.one (.c (.bool true true))) [] := by
  subst hm
  refine loopG (st := fun i (_ : Unit) => yA 9 i ps m rs m A C B m) (I := fun _ _ => True) (n := m) (fun i u hi _ => ⟨(), trivial, fun hr => ?_⟩) (fun u _ => ?_) m 0 () (by omega) trivial
  · have h1 := y1 ps m rs m A C B m i
    have e : (A.getD (0 + i) (List.replicate 32 0) == encL (B.getD (0 + i) [0, 0, 0, 0])) = true := by rw [Nat.zero_add, hc i hi]; exact beq_self_eq_true _
    rw [e, decide_eq_true (show (i : Int) < m by omega), decide_eq_true (show 0 ≤ (i : Int) ∧ (i : Int) < m by omega), iwk (by omega)] at h1
    exact Runs.piece okAc mx h1 rfl (by rfl) hr
  have h2 := y2 ps m rs m A C B m m
  rw [decide_eq_false (by omega)] at h2
  refine Runs.piece okAc mx h2 rfl (by rfl) ?_
  refine loopG (st := fun i (A : List (List Int)) => yA 10 i ps m rs m A C B m) (I := fun _ A => A.length = m) (n := m) (fun i A hi hA => ⟨A.set (0 + i) nine, by rw [List.length_set]; exact hA, fun hr => ?_⟩) (fun A hA => ?_) m 0 A (by omega) hA
  · have h3 := y3 ps m rs m A C B m i
    rw [decide_eq_true (by omega), decide_eq_true (by omega), iwk (by omega)] at h3
    exact Runs.piece okAc mx h3 rfl (by rfl) hr
  have h4 := y4 ps m rs m A C B m m
  rw [decide_eq_false (by omega)] at h4
  refine Runs.piece okAc mx h4 rfl (by rfl) ?_
  refine loopG (st := fun i (A : List (List Int)) => yA 11 i ps m rs m A C B (m + i)) (I := fun i A => A.length = m + i) (n := 40) (fun i A hi hA => ⟨A ++ [nine], by rw [List.length_append, hA]; rfl, fun hr => ?_⟩) (fun A hA => ?_) 40 0 A (by omega) hA
  · have h5 := y5 ps m rs m A C B (m + i) i
    rw [hA, decide_eq_true (by omega), decide_eq_true rfl, rm32 (by omega), iwk (by omega)] at h5
    exact Runs.piece okAc mx h5 rfl (by rfl) hr
  have h6 := y6 ps m rs m A C B (m + 40) 40
  refine Runs.piece okAc mx h6 rfl (by rfl) ?_
  refine loopG (st := fun i (_ : Unit) => yA 12 i ps m rs m A C B (m + 40)) (I := fun _ _ => True) (n := m) (fun i u hi _ => ⟨(), trivial, fun hr => ?_⟩) (fun u _ => ?_) m 0 () (by omega) trivial
  · have h7 := y7 ps m rs m A C B (m + 40) i
    have e : (C.getD (0 + i) (List.replicate 32 0) == encL (B.getD (0 + i) [0, 0, 0, 0])) = true := by rw [Nat.zero_add, hc' i hi]; exact beq_self_eq_true _
    rw [e, decide_eq_true (show (i : Int) < m by omega), decide_eq_true (show 0 ≤ (i : Int) ∧ (i : Int) < m by omega), iwk (by omega)] at h7
    exact Runs.piece okAc mx h7 rfl (by rfl) hr
  have h8 := y8 ps m rs m A C B (m + 40) m
  rw [decide_eq_false (by omega), decP_true ht] at h8
  exact Runs.last okAc mx h8 rfl (by rfl)
end Lw

/-! ### plain: twins give the same -/
theorem frB_append (a b : XS) : frB (a ++ b) = frB a ++ frB b := by unfold frB; rw [List.map_append, List.flatten_append]
theorem tV_len {x : BIt} (h : itGood x) : (tV x).length = x.2.2.1.2 := by
  unfold tV; rw [List.length_take]; have := h.1; omega
theorem tP_len {x : BIt} (h : itGood x) : (tP x).length = x.2.2.2.1.2 := by
  unfold tP; rw [List.length_take]; have := h.2.2; omega
theorem parts_len {x : BIt} (h : itGood x) : (parts x).length = 4 + x.2.2.1.2 := p4_len x _ h.1
theorem parts_tw {x : BIt} : parts (twD x) = p4 (twD x) ++ (tV x).map vP := by
  show p4 (twD x) ++ ((tV x).take (tV x).length).map vP = _
  rw [List.take_length]
theorem frB_p4 {x : BIt} (h : itGood x) : frB (p4 (twD x)) = frB (p4 x) := by
  have e : frP (tP x, (tP x).length) = frP (x.2.2.2.1.1, x.2.2.2.1.2) := by
    unfold frP
    show le8 ((tP x).length : Nat) ++ (tP x).take (tP x).length = le8 (x.2.2.2.1.2 : Nat) ++ tP x
    rw [List.take_length, tP_len h]
  show ([frP (strI x.1, x.1.size), frP (le8 x.2.1.1, 8), frP (le8 x.2.1.2.1, 8), frP (tP x, (tP x).length)]).flatten = _
  rw [e]; rfl
theorem frame_tw {x : BIt} (h : itGood x) : frame itS (parts (twD x)) (4 + (twD x).2.2.1.2) = frame itS (parts x) (4 + x.2.2.1.2) := by
  have e0 : (twD x).2.2.1.2 = x.2.2.1.2 := tV_len h
  have h1 : (parts x).take (4 + x.2.2.1.2) = parts x := List.take_of_length_le (by rw [parts_len h]; exact Nat.le_refl _)
  have h2 : (parts (twD x)).take (4 + x.2.2.1.2) = parts (twD x) := List.take_of_length_le (by
    rw [parts_tw, List.length_append, List.length_map, tV_len h]
    show 4 + _ ≤ _
    exact Nat.le_refl _)
  unfold frame
  rw [e0, h1, h2, parts_tw, frB_append, frB_p4 h]
  unfold parts
  rw [frB_append]; rfl
theorem wIt_tw {x : BIt} (h : itGood x) (st : List Int) : wIt st (twD x) = wIt st x := by
  unfold wIt absS absF
  rw [frame_tw h]
theorem itOk_tw {x : BIt} (h : itGood x) : itOk (twD x) ↔ itOk x := by
  unfold itOk
  rw [frame_tw h, show (twD x).2.2.1.2 = x.2.2.1.2 from tV_len h]
  exact Iff.rfl
section
variable {ps rs : List BIt} {n m : Nat}
theorem wSt_tw (hx : n ≤ ps.length) (hg : ∀ x ∈ ps, itGood x) (ht : ∀ i, i < n → Kp.it rs i = twD (Kp.it ps i)) : ∀ i, i ≤ n → wSt rs i = wSt ps i
  | 0, _ => rfl
  | i + 1, hi => by
    unfold wSt
    rw [wSt_tw hx hg ht i (by omega), show rs.getD i dfI = twD (ps.getD i dfI) from ht i (by omega)]
    exact wIt_tw (hg _ (by rw [List.getD_eq_getElem?_getD, List.getElem?_eq_getElem (by omega)]; exact List.getElem_mem _)) _
theorem okI_tw (hx : n ≤ ps.length) (hg : ∀ x ∈ ps, itGood x) (ht : ∀ i, i < n → Kp.it rs i = twD (Kp.it ps i)) : Ww.okI rs n = Ww.okI ps n := by
  unfold Ww.okI
  refine decide_eq_decide.mpr (forall_congr' fun i => forall_congr' fun hi => ?_)
  have := ht i hi
  unfold Kp.it at this
  rw [this]
  exact itOk_tw (hg _ (by rw [List.getD_eq_getElem?_getD, List.getElem?_eq_getElem (by omega)]; exact List.getElem_mem _))
theorem wD_tw (hx : n ≤ ps.length) (hg : ∀ x ∈ ps, itGood x) (ht : ∀ i, i < n → Kp.it rs i = twD (Kp.it ps i)) : wD rs n = wD ps n := by
  unfold wD
  rw [wSt_tw hx hg ht n (Nat.le_refl _)]
end
theorem wDraws_form : ∀ (d : Nat) (st : List Int) (ks ks' : List (List Int)), (∀ x ∈ ks, limbs (val x % ell) = x) → wDraws d st ks = some ks' → ∀ x ∈ ks', limbs (val x % ell) = x
  | 0, st, ks, ks', h0, h => by obtain rfl := Option.some.inj h; exact h0
  | d + 1, st, ks, ks', h0, h => by
    unfold wDraws at h
    split at h
    · cases h
    · refine wDraws_form d _ _ _ (fun x hx => ?_) h
      rcases List.mem_append.mp hx with hx | hx
      · exact h0 x hx
      · rw [List.mem_singleton.mp hx]
        have : val (limbs (dch st wtS)) % ell = dch st wtS := by
          unfold dch; rw [val_mod, Int.emod_emod_of_dvd _ (Int.dvd_refl _)]
        rw [this]
theorem encP_eq {xs : List BIt} {n : Nat} {x : List Int} (h : x ∈ wK xs n) : encP x = encL x := by
  unfold wK at h
  cases hd : wD xs n with
  | none => rw [hd] at h; cases h
  | some ks =>
    rw [hd] at h
    unfold encP
    rw [wDraws_form n _ _ _ (fun x hx => by cases hx) hd x h]
noncomputable def Tlw (vs : List V1) (hl : Heap) : Tree (SV × Heap) :=
  match vs, hl with
  | [.g [.c (.ro (.pair .str (.pair (.pair (.int .i64) (.pair (.int .i64) .unit)) (.pair (.sl (.ws .u8 32)) (.pair (.sl (.int .u8)) .unit)))) ps n),
      .c (.ro (.pair .str (.pair (.pair (.int .i64) (.pair (.int .i64) .unit)) (.pair (.sl (.ws .u8 32)) (.pair (.sl (.int .u8)) .unit)))) rs m), .c .nils]], [] => Tree.chk (decP (tws ps n rs m ∧ m = n) && Ww.okI ps n) (.ret (.one (.c (.bool true true)), []))
  | _, _ => .fail
theorem ok_lw0 : EntryOk Tryd.prog G1 19 Tlw := by
  refine EntryOk.runs (S := Ac) (fn := Tryd.f19) (c := cd Tryd.f19) (by kernel_rfl) (by kernel_rfl) (by kernel_rfl) (fun vs hl r hl' ok h => ?_)
  unfold Tlw at h
  split at h
  · rename_i ps n rs m
    obtain ⟨h1, h2⟩ := val_chk h
    rw [Bool.and_eq_true] at h1
    obtain ⟨ht, rfl⟩ := of_decP h1.1
    have hok := h1.2
    obtain ⟨rfl, rfl⟩ := Prod.mk.inj (val_ret h2)
    have hx := ok.1.1.1
    have hg := good_of ok.1.1
    have htw := fun i hi => (ht.2.2 i hi).2
    have e1 : Ww.okI rs m = true := (okI_tw hx hg htw).trans hok
    have e2 : Ww.bad rs m = Ww.bad ps m := congrArg Option.isNone (wD_tw hx hg htw)
    have e3 : wK rs m = wK ps m := congrArg (fun o => Option.getD o []) (wD_tw hx hg htw)
    cases q1 : decide (64 < m) with
    | true =>
      have ha := Lw.a1 ps m rs m
      rw [hok, e1, q1] at ha
      exact Runs.piece (m := 0) okAc mx ha rfl (by rfl) (Lw.xTail ht)
    | false =>
      cases q2 : Ww.bad ps m with
      | true =>
        have ha := Lw.a2 ps m rs m
        rw [hok, e1, q1, e2, q2] at ha
        exact Runs.piece (m := 0) okAc mx ha rfl (by rfl) (Lw.xTail ht)
      | false =>
        cases q3 : decide (m = 0) with
        | true =>
          have ha := Lw.a3 ps m rs m
          rw [hok, e1, q1, e2, q2, q3] at ha
          exact Runs.piece (m := 0) okAc mx ha rfl (by rfl) (Lw.xTail ht)
        | false =>
          have ha := Lw.a4 ps m rs m
          have hne : ((m : Int) != m) = false := by simp
          rw [hok, e1, q1, e2, q2, q3, e3, hne] at ha
          have hn : ¬ 64 < m := of_decide_eq_false q1
          have hl := wK_len q2
          have hcmp : ∀ i, i < m → ((wK ps m).map encP).getD i (List.replicate 32 0) = encL ((wK ps m).getD i [0, 0, 0, 0]) := fun i hi => by
            rw [List.getD_eq_getElem?_getD, List.getD_eq_getElem?_getD, List.getElem?_map, List.getElem?_eq_getElem (by omega)]
            exact encP_eq (List.getElem_mem _)
          refine Runs.piece (m := 0) okAc mx ha rfl (by rfl) (Lw.yTail ht rfl (by omega) (by rw [List.length_map]; exact hl) hcmp hcmp)
  · cases h
noncomputable def TlwN (vs : List V1) (hl : Heap) : Tree (SV × Heap) := Tlw (normLG [[some ITEM, some ITEM, none]] vs) hl
noncomputable def Ad : Tab := Ac.put 19 0 TlwN
theorem okAd : SpecOk Tryd.prog Ad := okAc.put (ok_lw0.normG [[some ITEM, some ITEM, none]] rfl)
end Go.Sc

namespace Go.Sc
open Go Go.SX Go.Proofs

namespace Lb
noncomputable def r (k : Nat) (is : List Item) (s : St) : Tree Out := runK Ad Tryd.prog noLoops k is s
noncomputable def s0 (xs : List BIt) (n : Nat) : St := ⟨enterT Tryd.f4 [.c (.ro ITEM xs n)], []⟩
noncomputable def K1 : List Item := leftT [] (r 400 [.code (cd Tryd.f4)] (s0 [] 0))
def twB (pv : Bool) (k : Nat) : Blk := match pv with | true => .vals [.c (.sl 1 0 k), .c (.sl 2 0 k), .c .nils] | false => .vals [.c .nils, .c .nils, .c .nils]
def arB (pv : Bool) (ps rs : List BIt) : Heap := match pv with | true => [.arr ITEM ps 0 [], .arr ITEM rs 0 []] | false => []
noncomputable def st1 (xs : List BIt) (n : Nat) (pv : Bool) (ps rs : List BIt) (k : Nat) (i : Int) : St := ⟨slotsOf 36 [(0, one (.ro ITEM xs n)), (3, pt 0), (4, one (.int false .i64 i))], twB pv k :: arB pv ps rs⟩
theorem a (xs : List BIt) (n : Nat) : pieceT [0, 3, 4] [4] [0] [] (r 400 [.code (cd Tryd.f4)] (s0 xs n)) = some ([], K1, st1 xs n false [] [] 0 (0 : Nat)) := by kernel_rfl
def it (xs : List BIt) (i : Nat) : BIt := xs.getD i dfI
def rmI (n : Nat) : Bool := SX.room n 80 && SX.room n 1
def twOk (x : BIt) : Bool := decide (x.2.2.1.2 ≤ 1000000000) && decide (x.2.2.2.1.2 ≤ 1000000000)
theorem b (xs : List BIt) (n i : Nat) : pieceT [0, 3, 4] [4] [0, 2, 6] [true, true, true, true, true, true] (r 400 K1 (st1 xs n false [] [] 0 i)) =
    some ([decide ((i : Int) < n), decide (0 ≤ (i : Int) ∧ (i : Int) < n), rmI 1, decide (0 ≤ (i : Int) ∧ (i : Int) < n), twOk (it xs i), rmI 1], K1, st1 xs n true [it xs i] [twD (it xs i)] 1 (iw ((i : Int) + 1))) := by kernel_rfl
theorem c (xs : List BIt) (n : Nat) (ps rs : List BIt) (k i : Nat) : pieceT [0, 3, 4] [4] [0, 4, 8] [true, true, true, true, true, true] (r 400 K1 (st1 xs n true ps rs k i)) =
    some ([decide ((i : Int) < n), decide (0 ≤ (i : Int) ∧ (i : Int) < n), decide (k = ps.length) && rmI (k + 1), decide (0 ≤ (i : Int) ∧ (i : Int) < n), twOk (it xs i), decide (k = rs.length) && rmI (k + 1)], K1, st1 xs n true (ps ++ [it xs i]) (rs ++ [twD (it xs i)]) (k + 1) (iw ((i : Int) + 1))) := by kernel_rfl
theorem d (xs : List BIt) (n : Nat) (pv : Bool) (ps rs : List BIt) (k i : Nat) : endT Tryd.prog Tryd.f4 [] [false, true, true] (r 400 K1 (st1 xs n pv (bif pv then ps else []) (bif pv then rs else []) (bif pv then k else 0) i)) =
    some ([decide ((i : Int) < n), decP (tws (bif pv then ps else []) (bif pv then k else 0) (bif pv then rs else []) (bif pv then k else 0) ∧ (bif pv then k else 0) = (bif pv then k else 0)) && Ww.okI (bif pv then ps else []) (bif pv then k else 0),
      decP (tws (bif pv then ps else []) (bif pv then k else 0) (bif pv then rs else []) (bif pv then k else 0))], .one (.c (.bool true true)), []) := by
  cases pv <;> kernel_rfl
theorem rmI_true {n : Nat} (h : n ≤ 1000001) : rmI n = true := by
  unfold rmI; simp [SX.room]; omega
def okX (x : BIt) : Prop := itOk x ∧ x.2.2.2.1.2 ≤ 1000000000
theorem getD_take {xs : List BIt} {i n : Nat} (h : i < n) : (xs.take n).getD i dfI = xs.getD i dfI := by
  rw [List.getD_eq_getElem?_getD, List.getD_eq_getElem?_getD, List.getElem?_take, if_pos h]
theorem runs {xs : List BIt} {n : Nat} (hn : n ≤ 1000000) (hx : n ≤ xs.length) (ho : ∀ i, i < n → okX (it xs i)) :
    Runs Tryd.prog Ad Tryd.f4 0 [.code (cd Tryd.f4)] (s0 xs n) (.one (.c (.bool true true))) [] := by
  refine Runs.piece (m := 0) okAd mx (a xs n) rfl (by rfl) ?_
  have hlen : ∀ i, i ≤ n → (xs.take i).length = i := fun i hi => by rw [List.length_take]; omega
  have hmem : ∀ i, i < n → it xs i ∈ xs := fun i hi => by
    unfold it
    rw [List.getD_eq_getElem?_getD, List.getElem?_eq_getElem (by omega)]; exact List.getElem_mem _
  have hsucc : ∀ i, i < n → xs.take (i + 1) = xs.take i ++ [it xs i] := fun i hi => by
    unfold it
    rw [List.take_succ_eq_append_getElem (by omega), List.getD_eq_getElem?_getD, List.getElem?_eq_getElem (by omega)]; rfl
  have htO : ∀ i, i < n → twOk (it xs i) = true := fun i hi => by
    unfold twOk
    obtain ⟨⟨_, h1, _⟩, h2⟩ := ho i hi
    rw [decide_eq_true h1, decide_eq_true h2]; rfl
  have htws : tws (xs.take n) n ((xs.take n).map twD) n := by
    refine ⟨by omega, Nat.le_refl _, fun i hi => ⟨?_, ?_⟩⟩
    · unfold Kp.it
      rw [getD_take hi]; exact (ho i hi).1.2.1
    · unfold Kp.it
      rw [getD_take hi, List.getD_eq_getElem?_getD, List.getElem?_map, List.getElem?_take, if_pos hi, List.getD_eq_getElem?_getD, List.getElem?_eq_getElem (by omega)]
      rfl
  have hokI : Ww.okI (xs.take n) n = true := by
    unfold Ww.okI
    refine decide_eq_true (fun i hi => ?_)
    rw [getD_take hi]; exact (ho i hi).1
  have hend : ∀ i, i = n → Runs Tryd.prog Ad Tryd.f4 0 K1 (st1 xs n (decide (0 < i)) (xs.take i) ((xs.take i).map twD) i i) (.one (.c (.bool true true))) [] := by
    intro i hi
    subst hi
    have hd := d xs i (decide (0 < i)) (xs.take i) ((xs.take i).map twD) i i
    have e : (bif decide (0 < i) then xs.take i else []) = xs.take i ∧ (bif decide (0 < i) then (xs.take i).map twD else []) = (xs.take i).map twD ∧ (bif decide (0 < i) then i else 0) = i := by
      rcases Nat.eq_zero_or_pos i with h | h
      · subst h; exact ⟨rfl, rfl, rfl⟩
      · rw [decide_eq_true h]; exact ⟨rfl, rfl, rfl⟩
    rw [e.1, e.2.1, e.2.2, decP_true ⟨htws, rfl⟩, decP_true htws, hokI, decide_eq_false (show ¬ (i : Int) < i by omega)] at hd
    exact Runs.last (m := 0) okAd mx hd rfl (by rfl)
  refine loopG (st := fun i (_ : Unit) => st1 xs n (decide (0 < i)) (xs.take i) ((xs.take i).map twD) i i) (I := fun _ _ => True) (n := n) (fun i u hi _ => ⟨(), trivial, fun hr => ?_⟩) (fun u _ => hend n rfl) n 0 () (by omega) trivial
  have e : decide (0 < i + 1) = true := decide_eq_true (by omega)
  have hr : Runs _ _ _ _ _ (st1 xs n (decide (0 < i + 1)) (xs.take (i + 1)) ((xs.take (i + 1)).map twD) (i + 1) ((i + 1 : Nat) : Int)) _ _ := hr
  rw [e, hsucc i hi, List.map_append] at hr
  rcases Nat.eq_zero_or_pos i with h0 | h0
  · subst h0
    have hb := b xs n 0
    rw [decide_eq_true (show ((0 : Nat) : Int) < n by omega), decide_eq_true (show 0 ≤ ((0 : Nat) : Int) ∧ ((0 : Nat) : Int) < n by omega), htO 0 hi, rmI_true (by omega), iwk (by omega)] at hb
    exact Runs.piece (m := 0) okAd mx hb rfl (by rfl) hr
  · have hc := c xs n (xs.take i) ((xs.take i).map twD) i i
    rw [List.length_map, hlen i (by omega), decide_eq_true (show (i : Int) < n by omega), decide_eq_true (show 0 ≤ (i : Int) ∧ (i : Int) < n by omega), decide_eq_true rfl, htO i hi, rmI_true (by omega), iwk (by omega)] at hc
    show Runs _ _ _ _ _ (st1 xs n (decide (0 < i)) (xs.take i) ((xs.take i).map twD) i i) _ _
    rw [decide_eq_true h0]
    exact Runs.piece (m := 0) okAd mx hc rfl (by rfl) hr
end Lb
noncomputable def TLaw (vs : List V1) (hl : Heap) : Tree (SV × Heap) :=
  match vs, hl with
  | [.c (.ro (.pair .str (.pair (.pair (.int .i64) (.pair (.int .i64) .unit)) (.pair (.sl (.ws .u8 32)) (.pair (.sl (.int .u8)) .unit)))) xs n)], [] => Tree.chk (decP (n ≤ 1000000 ∧ ∀ i, i < n → Lb.okX (Lb.it xs i))) (.ret (.one (.c (.bool true true)), []))
  | _, _ => .fail
theorem ok_lawW : EntryOk Tryd.prog G1 4 TLaw := by
  refine EntryOk.runs (S := Ad) (fn := Tryd.f4) (c := cd Tryd.f4) (by kernel_rfl) (by kernel_rfl) (by kernel_rfl) (fun vs hl r hl' ok h => ?_)
  unfold TLaw at h
  split at h
  · rename_i xs n
    obtain ⟨h1, h2⟩ := val_chk h
    obtain ⟨q1, q2⟩ := of_decP h1
    obtain ⟨rfl, rfl⟩ := Prod.mk.inj (val_ret h2)
    exact Lb.runs q1 ok.1.1 q2
  · cases h

/-! ### sizes -/
theorem frB_vP : ∀ (vs : List (List Int)), (∀ v ∈ vs, v.length = 32) → (frB (vs.map vP)).length = 40 * vs.length
  | [], _ => rfl
  | v :: vs, h => by
    have h1 : frB ((v :: vs).map vP) = frP (v, 32) ++ frB (vs.map vP) := rfl
    rw [h1, List.length_append, frP_len (by rw [h v (List.mem_cons_self ..)]; exact Nat.le_refl _), frB_vP vs (fun w hw => h w (List.mem_cons_of_mem _ hw)), List.length_cons]
    omega
theorem frame_parts {x : BIt} (h : itGood x) : (frame itS (parts x) (4 + x.2.2.1.2)).length = 68 + x.1.size + x.2.2.2.1.2 + 40 * x.2.2.1.2 := by
  rw [frame_len, List.take_of_length_le (by rw [parts_len h]; exact Nat.le_refl _)]
  unfold parts
  rw [frB_append, List.length_append, frB_vP _ (fun v hv => h.2.1 v (List.mem_of_mem_take hv)), List.length_take, Nat.min_eq_left h.1]
  have e : frB (p4 x) = frP (strI x.1, x.1.size) ++ (frP (le8 x.2.1.1, 8) ++ (frP (le8 x.2.1.2.1, 8) ++ frP (x.2.2.2.1.1, x.2.2.2.1.2))) := by
    show ([_, _, _, _] : List (List Int)).flatten = _
    simp
  rw [e, List.length_append, List.length_append, List.length_append, frP_len (by rw [strI_len]; exact Nat.le_refl _), frP_len (Nat.le_refl _), frP_len (Nat.le_refl _), frP_len h.2.2]
  show 16 + 4 + (8 + x.1.size + (8 + 8 + (8 + 8 + (8 + x.2.2.2.1.2))) + 40 * x.2.2.1.2) = _
  omega
end Go.Sc
