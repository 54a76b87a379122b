/-
  LedgerBlocks, part 7: LedgerBlocks itself.
-/
import Derived.Test.YticfnbhbpcpgeaaLb6
namespace Go.LB
open Go Go.SX Go.Proofs

def blk5 (ps : List Int) (h : Int) (ms : List Int) (ml : Nat) (xss : Xs) (n : Nat) : List Int := head5 ps h.toNat ms ml n ++ (xss.take n).flatMap one5
def n5 (ps : List Int) (h : Int) (ms : List Int) (ml : Nat) (xss : Xs) (n : Nat) : Tree (SV × Heap) :=
  Tree.chk (decide (n ≤ xss.length)) (.br (decide (h < 1 ∨ 1048576 < h)) (.ret (err 186)) (.br (decide (32 < n ∨ 1048576 < ml)) (.ret (err 2)) (.br ((xss.take n).any lng) (.ret (err 2))
    (.ret (.tup [.c (.sl 0 0 (blk5 ps h ms ml xss n).length), .c (.int true .i64 0)], [.arr B1 (blk5 ps h ms ml xss n) 0 []])))))
def N5' (vs : List V1) (hl : Heap) : Tree (SV × Heap) :=
  match vs, hl with
  | [.g [.ws .u8 64 ps], .c (.int _ .i64 h), .c (.ro (.int .u8) ms ml), .c (.ro (.sl (.int .u8)) xss n)], [] => n5 ps h ms ml xss n
  | _, _ => .fail
theorem n5_t5 (vs : List V1) (hl : Heap) (r : SV × Heap) (h : (N5' vs hl).val = some r) : (T5 vs hl).val = some r := by
  unfold N5' at h
  split at h
  · rename_i ps l h' ms ml xss n
    show (t5 ps h' ms ml xss n).val = some r
    unfold n5 at h
    unfold t5
    obtain ⟨h1, hr⟩ := val_chk h
    rw [h1]
    show (Tree.br _ _ _).val = _
    simp only [Tree.val] at hr ⊢
    split at hr
    · rename_i hh; rw [if_pos hh]; exact hr
    · rename_i hh; rw [if_neg hh]
      split at hr
      · rename_i hh; rw [if_pos hh]; exact hr
      · rename_i hh; rw [if_neg hh]
        unfold res5
        split at hr
        · rename_i hh; rw [hh]; exact hr
        · rename_i hh
          rw [Bool.not_eq_true] at hh
          rw [hh]; exact hr
  · cases h
def N5 (vs : List V1) (hl : Heap) : Tree (SV × Heap) := N5' (normL [none, none, some B1, some B2] vs) hl
def N7 (vs : List V1) (hl : Heap) : Tree (SV × Heap) := T7 (normL [some B1, some B1] vs) hl
noncomputable def S3 : Tab := (((S8.put 5 1 N5).put 6 1 N5).put 7 0 N7).own [115]
theorem ok3 : SpecOk Try.prog S3 :=
  (((ok8.put ((entry_sub ok_5 n5_t5).norm [none, none, some B1, some B2] (by rfl))).put ((entry_sub ok_6 n5_t5).norm [none, none, some B1, some B2] (by rfl))).put (ok_7.norm [some B1, some B1] (by rfl))).own

noncomputable def r3 (n : Nat) (is : List Item) (s : St) : Tree Out := runK S3 Try.prog noLoops n is s
noncomputable def s3 (ps : List Int) (h : Int) (ms : List Int) (ml : Nat) (xss : Xs) (n : Nat) : St := ⟨enterT Try.f3 [.g [.ws .u8 64 ps], .c (.int false .i64 h), .c (.ro B1 ms ml), .c (.ro B2 xss n)], []⟩
noncomputable def K3a : List Item := leftT [true] (r3 400 [.code (cd Try.f3)] (s3 [] 0 [] 0 [] 0))
noncomputable def st3 (h : Int) (ms : List Int) (ml : Nat) (xss : Xs) (n L : Nat) (al : Cell) (i : Int) (hp : Heap) : St :=
  ⟨slotsOf 141 [(1, one (.int false .i64 h)), (2, one (.ro B1 ms ml)), (3, one (.ro B2 xss n)), (4, one (.ptr 0 0 0 0 0 0)), (9, one (.sl 1 0 L)), (10, one al), (11, one (.int false .i64 i))], hp⟩
def hp3 (ps : List Int) (full : List Int) : Heap := [.vals [.ws .u8 64 ps], .arr B1 full 0 []]
noncomputable def K3b : List Item := leftT [false, true] (r3 400 K3a (st3 0 [] 0 [] 0 0 .nils 0 (hp3 [] [])))
noncomputable def st3b (h : Int) (ms : List Int) (ml : Nat) (xss : Xs) (n L : Nat) (al : Cell) (b : Nat) (m : Nat) (i : Int) (hp : Heap) : St :=
  ⟨slotsOf 141 [(1, one (.int false .i64 h)), (2, one (.ro B1 ms ml)), (3, one (.ro B2 xss n)), (4, one (.ptr 0 0 0 0 0 0)), (9, one (.sl 1 0 L)), (10, one al), (12, one (.sl b 0 m)), (13, one (.int false .i64 i))], hp⟩
noncomputable def K3c : List Item := leftT [false, true, true, true, true, true, true, false, false, false, true, true, true, true, true, true, true, true, true, false]
  (r3 400 K3b (st3b 0 [] 0 [] 0 0 .nils 2 0 0 (hp3 [] [] ++ [.arr B2 [] 0 []])))
noncomputable def st3c (ms : List Int) (ml : Nat) (xss : Xs) (n L : Nat) (al : Cell) (i : Int) (hp : Heap) : St :=
  ⟨slotsOf 141 [(2, one (.ro B1 ms ml)), (3, one (.ro B2 xss n)), (9, one (.sl 1 0 L)), (10, one al), (22, one (.int false .i64 i))], hp⟩

def rm (p : List Int × Nat) : List Int × Nat := (bts p ++ marks, (bts p ++ marks).length)
def hm (p : List Int × Nat) : List Int × Nat := (bts p ++ marks, p.2)

theorem wA (ps : List Int) (h : Int) (ms : List Int) (ml : Nat) (xss : Xs) (n : Nat) : pieceT [1, 2, 3, 4, 9, 10, 11] [11] [0, 1] [true] (r3 400 [.code (cd Try.f3)] (s3 ps h ms ml xss n)) =
    some ([decide (ml ≤ 1099511627776)], K3a, st3 h ms ml xss n (bts (ms, ml) ++ marks).length .nils (0 : Nat) (hp3 ps (bts (ms, ml) ++ marks))) := by kernel_rfl
theorem wB (ps : List Int) (h : Int) (ms full : List Int) (ml L : Nat) (xss : Xs) (n i : Nat) : pieceT [1, 2, 3, 4, 9, 10, 11] [11] [0, 1, 4] [true, true, true, true] (r3 400 K3a (st3 h ms ml xss n L .nils i (hp3 ps full))) =
    some ([decide ((i : Int) < n), decide (0 ≤ (i : Int) ∧ (i : Int) < n), decide ((elt xss i).2 ≤ 1099511627776), true], K3a, st3 h ms ml xss n L (.sl 2 0 1) (IntKind.i64.wrap ((i : Int) + 1)) (hp3 ps full ++ [.arr B2 [rm (elt xss i)] 0 []])) := by kernel_rfl
theorem wC (ps : List Int) (h : Int) (ms full : List Int) (ml L : Nat) (xss acc : Xs) (n i q : Nat) : pieceT [1, 2, 3, 4, 9, 10, 11] [11] [0, 1, 5] [true, true, true, true] (r3 400 K3a (st3 h ms ml xss n L (.sl 2 0 q) i (hp3 ps full ++ [.arr B2 acc 0 []]))) =
    some ([decide ((i : Int) < n), decide (0 ≤ (i : Int) ∧ (i : Int) < n), decide ((elt xss i).2 ≤ 1099511627776), decide (q = acc.length) && (room (q + 1) (Try.prog.bytesOf 24) && room (q + 1) 1)], K3a,
      st3 h ms ml xss n L (.sl 2 0 (q + 1)) (IntKind.i64.wrap ((i : Int) + 1)) (hp3 ps full ++ [.arr B2 (acc ++ [rm (elt xss i)]) 0 []])) := by kernel_rfl

theorem Za (ps : List Int) (h : Int) (ms full : List Int) (ml L : Nat) (xss : Xs) (n i : Nat) : pieceT [1, 2, 3, 4, 9, 10, 12, 13] [13] [0, 1, 2] [false, true] (r3 400 K3a (st3 h ms ml xss n L .nils i (hp3 ps full))) =
    some ([decide ((i : Int) < n), decide (0 ≤ (n : Int) ∧ (n : Int) ≤ n ∧ (n : Int) ≤ 281474976710656 ∧ (Try.prog.bytesOf 24 : Int) * n ≤ 281474976710656)], K3b, st3b h ms ml xss n L .nils 2 n (0 : Nat) (hp3 ps full ++ [.arr B2 (List.replicate n ([], 0)) 0 []])) := by kernel_rfl
theorem Zc (ps : List Int) (h : Int) (ms full : List Int) (ml L : Nat) (xss hd : Xs) (n i : Nat) : pieceT [2, 3, 9, 10, 22] [22] [0, 1] [false,true,true,true,true,true,true,false,false,false,true,true,true,true,true,true,true,true,true,false] (r3 400 K3b (st3b h ms ml xss n L .nils 2 n i (hp3 ps full ++ [.arr B2 hd 0 []]))) =
    some ([decide ((i : Int) < n), true && decide (0 ≤ (ml : Int).toNat ∧ 0 + (ml : Int).toNat ≤ full.length), decide (n ≤ (List.drop 0 hd).length), decide (h < 1 ∨ 1048576 < h), decide (n ≤ xss.length), decide (h < 1 ∨ 1048576 < h), true, false, false, false, true && decide (0 ≤ (ml : Int).toNat ∧ 0 + (ml : Int).toNat ≤ full.length), decide (n ≤ (List.drop 0 hd).length), decide (h < 1 ∨ 1048576 < h), true, true, true, true, decide ((blk5 ps 1 [] 0 [] 0).length = (blk5 ps 1 [] 0 [] 0).length ∧ (blk5 ps 1 [] 0 [] 0).length ≤ 1099511627700), t9 full L ms ml, false], K3c, st3c ms ml xss n L .nils (0 : Nat) (hp3 ps full)) := by kernel_rfl
theorem Zd (ps : List Int) (h : Int) (ms full : List Int) (ml L : Nat) (xss hd : Xs) (n i : Nat) : pieceT [2, 3, 9, 10, 22] [22] [0, 1] [false,true,true,false,true,true,false,true,true,false,false,false,true,true,false,true,true,true,true,true,true,true,false] (r3 400 K3b (st3b h ms ml xss n L .nils 2 n i (hp3 ps full ++ [.arr B2 hd 0 []]))) =
    some ([decide ((i : Int) < n), true && decide (0 ≤ (ml : Int).toNat ∧ 0 + (ml : Int).toNat ≤ full.length), decide (n ≤ (List.drop 0 hd).length), decide (h < 1 ∨ 1048576 < h), decide (32 < n ∨ 1048576 < (ml : Int).toNat - 0), decide (n ≤ xss.length), decide (h < 1 ∨ 1048576 < h), decide (32 < n ∨ 1048576 < ml), true, false, false, false, true && decide (0 ≤ (ml : Int).toNat ∧ 0 + (ml : Int).toNat ≤ full.length), decide (n ≤ (List.drop 0 hd).length), decide (h < 1 ∨ 1048576 < h), decide (32 < n ∨ 1048576 < (ml : Int).toNat - 0), true, true, true, true, decide ((blk5 ps 1 [] 0 [] 0).length = (blk5 ps 1 [] 0 [] 0).length ∧ (blk5 ps 1 [] 0 [] 0).length ≤ 1099511627700), t9 full L ms ml, false], K3c, st3c ms ml xss n L .nils (0 : Nat) (hp3 ps full)) := by kernel_rfl
theorem Ze (ps : List Int) (h : Int) (ms full : List Int) (ml L : Nat) (xss hd : Xs) (n i : Nat) : pieceT [2, 3, 9, 10, 22] [22] [0, 1] [false,true,true,false,false,true,true,false,false,true,true,false,false,false,true,true,false,false,true,true,true,true,true,true,true,false] (r3 400 K3b (st3b h ms ml xss n L .nils 2 n i (hp3 ps full ++ [.arr B2 hd 0 []]))) =
    some ([decide ((i : Int) < n), true && decide (0 ≤ (ml : Int).toNat ∧ 0 + (ml : Int).toNat ≤ full.length), decide (n ≤ (List.drop 0 hd).length), decide (h < 1 ∨ 1048576 < h), decide (32 < n ∨ 1048576 < (ml : Int).toNat - 0), (List.take n hd).any lng, decide (n ≤ xss.length), decide (h < 1 ∨ 1048576 < h), decide (32 < n ∨ 1048576 < ml), (List.take n xss).any lng, true, false, false, false, true && decide (0 ≤ (ml : Int).toNat ∧ 0 + (ml : Int).toNat ≤ full.length), decide (n ≤ (List.drop 0 hd).length), decide (h < 1 ∨ 1048576 < h), decide (32 < n ∨ 1048576 < (ml : Int).toNat - 0), (List.take n hd).any lng, true, true, true, true, decide ((blk5 ps 1 [] 0 [] 0).length = (blk5 ps 1 [] 0 [] 0).length ∧ (blk5 ps 1 [] 0 [] 0).length ≤ 1099511627700), t9 full L ms ml, false], K3c, st3c ms ml xss n L .nils (0 : Nat) (hp3 ps full)) := by kernel_rfl
theorem Zf (ps : List Int) (h : Int) (ms full : List Int) (ml L : Nat) (xss hd : Xs) (n i : Nat) : pieceT [2, 3, 9, 10, 22] [22] [0, 1] [false,true,true,false,false,false,true,false,false,false,true,false,false,false,true,true,false,false,false,true,true,true,true,true,true,false] (r3 400 K3b (st3b h ms ml xss n L .nils 2 n i (hp3 ps full ++ [.arr B2 hd 0 []]))) =
    some ([decide ((i : Int) < n), true && decide (0 ≤ (ml : Int).toNat ∧ 0 + (ml : Int).toNat ≤ full.length), decide (n ≤ (List.drop 0 hd).length), decide (h < 1 ∨ 1048576 < h), decide (32 < n ∨ 1048576 < (ml : Int).toNat - 0), (List.take n hd).any lng, decide (n ≤ xss.length), decide (h < 1 ∨ 1048576 < h), decide (32 < n ∨ 1048576 < ml), (List.take n xss).any lng, true, false, false, false, true && decide (0 ≤ (ml : Int).toNat ∧ 0 + (ml : Int).toNat ≤ full.length), decide (n ≤ (List.drop 0 hd).length), decide (h < 1 ∨ 1048576 < h), decide (32 < n ∨ 1048576 < (ml : Int).toNat - 0), (List.take n hd).any lng, decide (bts (List.drop 0 (blk5 ps h (full.drop (0 + 0)) ((ml : Int).toNat - 0) (hd.drop 0) n), (blk5 ps h (full.drop (0 + 0)) ((ml : Int).toNat - 0) (hd.drop 0) n).length) = bts (List.drop 0 (blk5 ps h ms ml xss n), (blk5 ps h ms ml xss n).length)), true, decide (bts (List.drop 0 (blk5 ps h (full.drop (0 + 0)) ((ml : Int).toNat - 0) (hd.drop 0) n), (blk5 ps h (full.drop (0 + 0)) ((ml : Int).toNat - 0) (hd.drop 0) n).length) = bts (List.drop 0 (blk5 ps h ms ml xss n), (blk5 ps h ms ml xss n).length)), true, decide ((blk5 ps h (full.drop (0 + 0)) ((ml : Int).toNat - 0) (hd.drop 0) n).length = (blk5 ps h (full.drop (0 + 0)) ((ml : Int).toNat - 0) (hd.drop 0) n).length ∧ (blk5 ps 1 [] 0 [] 0).length = (blk5 ps 1 [] 0 [] 0).length ∧ (blk5 ps h (full.drop (0 + 0)) ((ml : Int).toNat - 0) (hd.drop 0) n).length = (blk5 ps h (full.drop (0 + 0)) ((ml : Int).toNat - 0) (hd.drop 0) n).length ∧ (blk5 ps h (full.drop (0 + 0)) ((ml : Int).toNat - 0) (hd.drop 0) n).length ≤ 1099511627700 ∧ (blk5 ps 1 [] 0 [] 0).length ≤ 1099511627700 ∧ (blk5 ps h (full.drop (0 + 0)) ((ml : Int).toNat - 0) (hd.drop 0) n).length ≤ 1099511627700), t9 full L ms ml, false], K3c, st3c ms ml xss n L .nils (0 : Nat) (hp3 ps full)) := by kernel_rfl
theorem Zh (ps : List Int) (h : Int) (ms full : List Int) (ml L : Nat) (xss : Xs) (n i : Nat) : endT Try.prog Try.f3 [] [false] (r3 400 K3c (st3c ms ml xss n L .nils i (hp3 ps full))) =
    some ([decide ((i : Int) < n)], .one (.c (.bool true true)), []) := by kernel_rfl
theorem Na (ps : List Int) (h : Int) (ms full : List Int) (ml L : Nat) (xss acc : Xs) (n i : Nat) : pieceT [1, 2, 3, 4, 9, 10, 12, 13] [13] [0, 1, 2, 3] [false, true] (r3 400 K3a (st3 h ms ml xss n L (.sl 2 0 n) i ((hp3 ps full ++ [.arr B2 acc 0 []])))) =
    some ([decide ((i : Int) < n), decide (0 ≤ (n : Int) ∧ (n : Int) ≤ n ∧ (n : Int) ≤ 281474976710656 ∧ (Try.prog.bytesOf 24 : Int) * n ≤ 281474976710656)], K3b, st3b h ms ml xss n L (.sl 2 0 n) 3 n (0 : Nat) (hp3 ps full ++ [.arr B2 acc 0 [], .arr B2 (List.replicate n ([], 0)) 0 []])) := by kernel_rfl
theorem Nb (ps : List Int) (h : Int) (ms full : List Int) (ml L : Nat) (xss acc hd : Xs) (n i : Nat) : pieceT [1, 2, 3, 4, 9, 10, 12, 13] [13] [0, 1, 2, 3] [true, true, true, true, true] (r3 400 K3b (st3b h ms ml xss n L (.sl 2 0 n) 3 n i (hp3 ps full ++ [.arr B2 acc 0 [], .arr B2 hd 0 []]))) =
    some ([decide ((i : Int) < n), decide (0 ≤ (i : Int) ∧ (i : Int) < n), decide (0 ≤ (i : Int) ∧ (i : Int) < n), true && decide (0 ≤ ((elt xss i).2 : Int).toNat ∧ ((elt xss i).2 : Int).toNat ≤ (elt acc (0 + i)).1.length), decide (0 ≤ (i : Int) ∧ (i : Int) < n)], K3b,
      st3b h ms ml xss n L (.sl 2 0 n) 3 n (IntKind.i64.wrap ((i : Int) + 1)) (hp3 ps full ++ [.arr B2 acc 0 [], .arr B2 (hd.set (0 + i) ((elt acc (0 + i)).1, (elt xss i).2)) 0 []])) := by kernel_rfl
theorem Nc (ps : List Int) (h : Int) (ms full : List Int) (ml L : Nat) (xss acc hd : Xs) (n i : Nat) : pieceT [2, 3, 9, 10, 22] [22] [0, 1, 2] [false,true,true,true,true,true,true,false,false,false,true,true,true,true,true,true,true,true,true,false] (r3 400 K3b (st3b h ms ml xss n L (.sl 2 0 n) 3 n i (hp3 ps full ++ [.arr B2 acc 0 [], .arr B2 hd 0 []]))) =
    some ([decide ((i : Int) < n), true && decide (0 ≤ (ml : Int).toNat ∧ 0 + (ml : Int).toNat ≤ full.length), decide (n ≤ (List.drop 0 hd).length), decide (h < 1 ∨ 1048576 < h), decide (n ≤ xss.length), decide (h < 1 ∨ 1048576 < h), true, false, false, false, true && decide (0 ≤ (ml : Int).toNat ∧ 0 + (ml : Int).toNat ≤ full.length), decide (n ≤ (List.drop 0 hd).length), decide (h < 1 ∨ 1048576 < h), true, true, true, true, decide ((blk5 ps 1 [] 0 [] 0).length = (blk5 ps 1 [] 0 [] 0).length ∧ (blk5 ps 1 [] 0 [] 0).length ≤ 1099511627700), t9 full L ms ml, false], K3c, st3c ms ml xss n L (.sl 2 0 n) (0 : Nat) ((hp3 ps full ++ [.arr B2 acc 0 []]))) := by kernel_rfl
theorem Nd (ps : List Int) (h : Int) (ms full : List Int) (ml L : Nat) (xss acc hd : Xs) (n i : Nat) : pieceT [2, 3, 9, 10, 22] [22] [0, 1, 2] [false,true,true,false,true,true,false,true,true,false,false,false,true,true,false,true,true,true,true,true,true,true,false] (r3 400 K3b (st3b h ms ml xss n L (.sl 2 0 n) 3 n i (hp3 ps full ++ [.arr B2 acc 0 [], .arr B2 hd 0 []]))) =
    some ([decide ((i : Int) < n), true && decide (0 ≤ (ml : Int).toNat ∧ 0 + (ml : Int).toNat ≤ full.length), decide (n ≤ (List.drop 0 hd).length), decide (h < 1 ∨ 1048576 < h), decide (32 < n ∨ 1048576 < (ml : Int).toNat - 0), decide (n ≤ xss.length), decide (h < 1 ∨ 1048576 < h), decide (32 < n ∨ 1048576 < ml), true, false, false, false, true && decide (0 ≤ (ml : Int).toNat ∧ 0 + (ml : Int).toNat ≤ full.length), decide (n ≤ (List.drop 0 hd).length), decide (h < 1 ∨ 1048576 < h), decide (32 < n ∨ 1048576 < (ml : Int).toNat - 0), true, true, true, true, decide ((blk5 ps 1 [] 0 [] 0).length = (blk5 ps 1 [] 0 [] 0).length ∧ (blk5 ps 1 [] 0 [] 0).length ≤ 1099511627700), t9 full L ms ml, false], K3c, st3c ms ml xss n L (.sl 2 0 n) (0 : Nat) ((hp3 ps full ++ [.arr B2 acc 0 []]))) := by kernel_rfl
theorem Ne (ps : List Int) (h : Int) (ms full : List Int) (ml L : Nat) (xss acc hd : Xs) (n i : Nat) : pieceT [2, 3, 9, 10, 22] [22] [0, 1, 2] [false,true,true,false,false,true,true,false,false,true,true,false,false,false,true,true,false,false,true,true,true,true,true,true,true,false] (r3 400 K3b (st3b h ms ml xss n L (.sl 2 0 n) 3 n i (hp3 ps full ++ [.arr B2 acc 0 [], .arr B2 hd 0 []]))) =
    some ([decide ((i : Int) < n), true && decide (0 ≤ (ml : Int).toNat ∧ 0 + (ml : Int).toNat ≤ full.length), decide (n ≤ (List.drop 0 hd).length), decide (h < 1 ∨ 1048576 < h), decide (32 < n ∨ 1048576 < (ml : Int).toNat - 0), (List.take n hd).any lng, decide (n ≤ xss.length), decide (h < 1 ∨ 1048576 < h), decide (32 < n ∨ 1048576 < ml), (List.take n xss).any lng, true, false, false, false, true && decide (0 ≤ (ml : Int).toNat ∧ 0 + (ml : Int).toNat ≤ full.length), decide (n ≤ (List.drop 0 hd).length), decide (h < 1 ∨ 1048576 < h), decide (32 < n ∨ 1048576 < (ml : Int).toNat - 0), (List.take n hd).any lng, true, true, true, true, decide ((blk5 ps 1 [] 0 [] 0).length = (blk5 ps 1 [] 0 [] 0).length ∧ (blk5 ps 1 [] 0 [] 0).length ≤ 1099511627700), t9 full L ms ml, false], K3c, st3c ms ml xss n L (.sl 2 0 n) (0 : Nat) ((hp3 ps full ++ [.arr B2 acc 0 []]))) := by kernel_rfl
theorem Nf (ps : List Int) (h : Int) (ms full : List Int) (ml L : Nat) (xss acc hd : Xs) (n i : Nat) : pieceT [2, 3, 9, 10, 22] [22] [0, 1, 2] [false,true,true,false,false,false,true,false,false,false,true,false,false,false,true,true,false,false,false,true,true,true,true,true,true,false] (r3 400 K3b (st3b h ms ml xss n L (.sl 2 0 n) 3 n i (hp3 ps full ++ [.arr B2 acc 0 [], .arr B2 hd 0 []]))) =
    some ([decide ((i : Int) < n), true && decide (0 ≤ (ml : Int).toNat ∧ 0 + (ml : Int).toNat ≤ full.length), decide (n ≤ (List.drop 0 hd).length), decide (h < 1 ∨ 1048576 < h), decide (32 < n ∨ 1048576 < (ml : Int).toNat - 0), (List.take n hd).any lng, decide (n ≤ xss.length), decide (h < 1 ∨ 1048576 < h), decide (32 < n ∨ 1048576 < ml), (List.take n xss).any lng, true, false, false, false, true && decide (0 ≤ (ml : Int).toNat ∧ 0 + (ml : Int).toNat ≤ full.length), decide (n ≤ (List.drop 0 hd).length), decide (h < 1 ∨ 1048576 < h), decide (32 < n ∨ 1048576 < (ml : Int).toNat - 0), (List.take n hd).any lng, decide (bts (List.drop 0 (blk5 ps h (full.drop (0 + 0)) ((ml : Int).toNat - 0) (hd.drop 0) n), (blk5 ps h (full.drop (0 + 0)) ((ml : Int).toNat - 0) (hd.drop 0) n).length) = bts (List.drop 0 (blk5 ps h ms ml xss n), (blk5 ps h ms ml xss n).length)), true, decide (bts (List.drop 0 (blk5 ps h (full.drop (0 + 0)) ((ml : Int).toNat - 0) (hd.drop 0) n), (blk5 ps h (full.drop (0 + 0)) ((ml : Int).toNat - 0) (hd.drop 0) n).length) = bts (List.drop 0 (blk5 ps h ms ml xss n), (blk5 ps h ms ml xss n).length)), true, decide ((blk5 ps h (full.drop (0 + 0)) ((ml : Int).toNat - 0) (hd.drop 0) n).length = (blk5 ps h (full.drop (0 + 0)) ((ml : Int).toNat - 0) (hd.drop 0) n).length ∧ (blk5 ps 1 [] 0 [] 0).length = (blk5 ps 1 [] 0 [] 0).length ∧ (blk5 ps h (full.drop (0 + 0)) ((ml : Int).toNat - 0) (hd.drop 0) n).length = (blk5 ps h (full.drop (0 + 0)) ((ml : Int).toNat - 0) (hd.drop 0) n).length ∧ (blk5 ps h (full.drop (0 + 0)) ((ml : Int).toNat - 0) (hd.drop 0) n).length ≤ 1099511627700 ∧ (blk5 ps 1 [] 0 [] 0).length ≤ 1099511627700 ∧ (blk5 ps h (full.drop (0 + 0)) ((ml : Int).toNat - 0) (hd.drop 0) n).length ≤ 1099511627700), t9 full L ms ml, false], K3c, st3c ms ml xss n L (.sl 2 0 n) (0 : Nat) ((hp3 ps full ++ [.arr B2 acc 0 []]))) := by kernel_rfl
theorem Ng (ps : List Int) (h : Int) (ms full : List Int) (ml L : Nat) (xss acc : Xs) (n i : Nat) : pieceT [2, 3, 9, 10, 22] [22] [0, 1, 2] [true, true, true, true, false] (r3 400 K3c (st3c ms ml xss n L (.sl 2 0 n) i ((hp3 ps full ++ [.arr B2 acc 0 []])))) =
    some ([decide ((i : Int) < n), decide (0 ≤ (i : Int) ∧ (i : Int) < n), decide (0 ≤ (i : Int) ∧ (i : Int) < n), t9 (elt acc (0 + i)).1 (elt acc (0 + i)).2 (elt xss i).1 (elt xss i).2, false], K3c, st3c ms ml xss n L (.sl 2 0 n) (IntKind.i64.wrap ((i : Int) + 1)) ((hp3 ps full ++ [.arr B2 acc 0 []]))) := by kernel_rfl
theorem Nh (ps : List Int) (h : Int) (ms full : List Int) (ml L : Nat) (xss acc : Xs) (n i : Nat) : endT Try.prog Try.f3 [] [false] (r3 400 K3c (st3c ms ml xss n L (.sl 2 0 n) i ((hp3 ps full ++ [.arr B2 acc 0 []])))) =
    some ([decide ((i : Int) < n)], .one (.c (.bool true true)), []) := by kernel_rfl
end Go.LB
