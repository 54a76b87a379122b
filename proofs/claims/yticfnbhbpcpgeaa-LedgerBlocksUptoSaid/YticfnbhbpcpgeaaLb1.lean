/-
  LedgerBlocks, part 1: slices.Concat.
-/
import Derived.Test.YticfnbhbpcpgeaaSx26
import Derived.Test.YticfnbhbpcpgeaaProg
namespace Go.LB
open Go Go.SX Go.Proofs

noncomputable def cd (f : Func) : Code := match f.body with | some c => c | none => .skip
theorem mx : Try.prog.follows .mixedOrders = true := by kernel_rfl
theorem by5 : Try.prog.bytesOf 5 = 1 := by kernel_rfl

theorem wrap64 {x : Int} (h : -9223372036854775808 ≤ x ∧ x < 9223372036854775808) : IntKind.i64.wrap x = x := by rw [IntKind.wrap_i64]; omega
theorem wrap_nat {n : Nat} (h : n < 9223372036854775808) : IntKind.i64.wrap (n : Int) = n := wrap64 (by omega)
theorem room_ok {n b : Nat} (h : n * b ≤ 140737488355328) : room n b = true := decide_eq_true h
theorem rooms5 {n : Nat} (h : n ≤ 140737488355328) : (room n (Try.prog.bytesOf 5) && room n 1) = true := by
  rw [by5, room_ok (by omega)]; rfl

/-- bytes that are only read -/
abbrev B1 : DTy := .int .u8
abbrev B2 : DTy := .sl (.int .u8)
abbrev Xs := List (List Int × Nat)

noncomputable def S0 : Tab := Tab.empty fun _ => none
theorem ok0 : SpecOk Try.prog S0 := SpecOk.empty
noncomputable def S14 : Tab := S0.put 14 1 (bodyT S0 Try.prog noLoops Try.f14 (cd Try.f14))
theorem ok14 : SpecOk Try.prog S14 := ok0.put (bodyT_ok ok0 mx (fn := Try.f14) (c := cd Try.f14) (by kernel_rfl) (by kernel_rfl) (by kernel_rfl))

/-! ### Concat -/
noncomputable def s13 (xss : Xs) (len : Nat) : St := ⟨enterT Try.f13 [.c (.ro B2 xss len)], []⟩
noncomputable def r13 (is : List Item) (s : St) : Tree Out := runK S14 Try.prog noLoops 400 is s
noncomputable def K1 : List Item := leftT [] (r13 [.code (cd Try.f13)] (s13 [] 0))
noncomputable def st1 (xss : Xs) (len : Nat) (sz i : Int) : St := ⟨slotsOf 36 [(0, one (.ro B2 xss len)), (3, one (.int false .i64 sz)), (9, one (.ro B2 xss len)), (10, one (.int false .i64 len)), (11, one (.int false .i64 i))], []⟩
noncomputable def K2 : List Item := leftT [false, false, false] (r13 K1 (st1 [] 0 0 0))
noncomputable def st2 (xss : Xs) (len : Nat) (x : Cell) (h : Heap) (i : Int) : St := ⟨slotsOf 36 [(0, one (.ro B2 xss len)), (6, one x), (25, one (.ro B2 xss len)), (26, one (.int false .i64 len)), (27, one (.int false .i64 i))], h⟩

def elt (xss : Xs) (j : Nat) : List Int × Nat := xss.getD j ([], 0)
def bts (p : List Int × Nat) : List Int := p.1.take p.2

theorem p1 (xss : Xs) (len : Nat) : pieceT [0, 3, 9, 10, 11] [3, 11] [] [] (r13 [.code (cd Try.f13)] (s13 xss len)) = some ([], K1, st1 xss len 0 0) := by kernel_rfl
theorem p2 (xss : Xs) (len : Nat) (sz : Int) (j : Nat) : pieceT [0, 3, 9, 10, 11] [3, 11] [] [true, true, false] (r13 K1 (st1 xss len sz j)) =
    some ([decide ((j : Int) < len), decide (0 ≤ (j : Int) ∧ (j : Int) < len), decide (IntKind.i64.wrap (sz + (elt xss j).2) < 0)], K1, st1 xss len (IntKind.i64.wrap (sz + (elt xss j).2)) (IntKind.i64.wrap ((j : Int) + 1))) := by kernel_rfl
theorem p3 (xss : Xs) (len n : Nat) (j : Nat) : pieceT [0, 6, 25, 26, 27] [27] [0] [false, false, true, true, true, true] (r13 K1 (st1 xss len n j)) =
    some ([decide ((j : Int) < len), decide ((n : Int) < 0), decide (IntKind.i64.wrap ((n : Int) - IntKind.i64.wrap (0 - 0)) > 0), true,
      decide (0 < IntKind.i64.wrap ((n : Int) - IntKind.i64.wrap (0 - 0))) && (room (IntKind.i64.wrap ((n : Int) - IntKind.i64.wrap (0 - 0))).toNat (Try.prog.bytesOf 5) && room (IntKind.i64.wrap ((n : Int) - IntKind.i64.wrap (0 - 0))).toNat 1), true],
      K2, st2 xss len (.sl 0 0 0) [.arr B1 (List.replicate (IntKind.i64.wrap ((n : Int) - IntKind.i64.wrap (0 - 0))).toNat (0 : Int)) 0 []] (0 : Nat)) := by kernel_rfl
theorem p4 (xss : Xs) (len n : Nat) (j : Nat) : pieceT [0, 6, 25, 26, 27] [27] [] [false, false, false] (r13 K1 (st1 xss len n j)) =
    some ([decide ((j : Int) < len), decide ((n : Int) < 0), decide (IntKind.i64.wrap ((n : Int) - IntKind.i64.wrap (0 - 0)) > 0)], K2, st2 xss len .nils [] (0 : Nat)) := by kernel_rfl
theorem p5 (xss : Xs) (len : Nat) (j : Nat) : pieceT [0, 6, 25, 26, 27] [27] [0] [true, true, true] (r13 K2 (st2 xss len .nils [] j)) =
    some ([decide ((j : Int) < len), decide (0 ≤ (j : Int) ∧ (j : Int) < len), room (bts (elt xss j)).length (Try.prog.bytesOf 5) && room (bts (elt xss j)).length 1], K2,
      st2 xss len (.sl 0 0 (bts (elt xss j)).length) [.arr B1 (bts (elt xss j)) 0 []] (IntKind.i64.wrap ((j : Int) + 1))) := by kernel_rfl
theorem p6 (xss : Xs) (acc : List Int) (len n : Nat) (j : Nat) : pieceT [0, 6, 25, 26, 27] [27] [1] [true, true, true] (r13 K2 (st2 xss len (.sl 0 0 n) [.arr B1 acc 0 []] j)) =
    some ([decide ((j : Int) < len), decide (0 ≤ (j : Int) ∧ (j : Int) < len), decide (n = acc.length) && (room (n + (bts (elt xss j)).length) (Try.prog.bytesOf 5) && room (n + (bts (elt xss j)).length) 1)], K2,
      st2 xss len (.sl 0 0 (n + (bts (elt xss j)).length)) [.arr B1 (acc ++ bts (elt xss j)) 0 []] (IntKind.i64.wrap ((j : Int) + 1))) := by kernel_rfl
theorem p7 (xss : Xs) (acc : List Int) (len n : Nat) (j : Nat) : pieceT [0, 6, 25, 26, 27] [27] [1] [true, true, false, true] (r13 K2 (st2 xss len (.sl 0 0 n) [.arr B1 acc 0 []] j)) =
    some ([decide ((j : Int) < len), decide (0 ≤ (j : Int) ∧ (j : Int) < len), decide (n = acc.length) && (room (n + (bts (elt xss j)).length) (Try.prog.bytesOf 5) && room (n + (bts (elt xss j)).length) 1),
      decide (0 ≤ n) && (decide (n ≤ acc.length) && (room (n + (bts (elt xss j)).length) (Try.prog.bytesOf 5) && room (n + (bts (elt xss j)).length) 1))], K2,
      st2 xss len (.sl 0 0 (n + (bts (elt xss j)).length)) [.arr B1 (acc.take n ++ bts (elt xss j)) 0 []] (IntKind.i64.wrap ((j : Int) + 1))) := by kernel_rfl
theorem p8 (xss : Xs) (acc : List Int) (len n : Nat) (j : Nat) : endT Try.prog Try.f13 [0] [false] (r13 K2 (st2 xss len (.sl 0 0 n) [.arr B1 acc 0 []] j)) =
    some ([decide ((j : Int) < len)], .one (.c (.sl 0 0 n)), [.arr B1 acc 0 []]) := by kernel_rfl

/-- the first j lengths, the first j rows of bytes -/
def tot (xss : Xs) (j : Nat) : Nat := ((xss.take j).map (·.2)).sum
def cat (xss : Xs) (j : Nat) : List Int := (xss.take j).flatMap bts

theorem take_succ {xss : Xs} {j : Nat} (h : j < xss.length) : xss.take (j + 1) = xss.take j ++ [elt xss j] := by
  rw [List.take_add_one, List.getElem?_eq_getElem h, elt, List.getD_eq_getElem?_getD, List.getElem?_eq_getElem h]; rfl
theorem tot_succ {xss : Xs} {j : Nat} (h : j < xss.length) : tot xss (j + 1) = tot xss j + (elt xss j).2 := by
  unfold tot; rw [take_succ h]; simp
theorem cat_succ {xss : Xs} {j : Nat} (h : j < xss.length) : cat xss (j + 1) = cat xss j ++ bts (elt xss j) := by
  unfold cat; rw [take_succ h]; simp
theorem tot_mono {xss : Xs} : ∀ {d j : Nat}, j + d ≤ xss.length → tot xss j ≤ tot xss (j + d)
  | 0, j, _ => Nat.le_refl _
  | d + 1, j, h => by
    have := tot_mono (xss := xss) (d := d) (j := j) (by omega)
    rw [← Nat.add_assoc, tot_succ (by omega)]; omega
theorem cat_len (xss : Xs) (j : Nat) : (cat xss j).length ≤ tot xss j := by
  unfold cat tot
  generalize xss.take j = l
  induction l with
  | nil => simp
  | cons p l ih => simp only [List.flatMap_cons, List.length_append, List.map_cons, List.sum_cons, bts, List.length_take]; omega

theorem concat_loop1 {xss : Xs} {len : Nat} {v : SV} {hl : Heap} (hlen : len ≤ xss.length) (hl40 : len ≤ 1099511627776) (htot : tot xss len ≤ 1099511627776) (hend : Runs Try.prog S14 Try.f13 0 K1 (st1 xss len (tot xss len) len) v hl) :
    ∀ d j, j + d = len → Runs Try.prog S14 Try.f13 0 K1 (st1 xss len (tot xss j) j) v hl
  | 0, j, h => by
    have : j = len := by omega
    rw [this]; exact hend
  | d + 1, j, h => by
    have hm := tot_mono (xss := xss) (d := d) (j := j + 1) (by omega)
    rw [show j + 1 + d = len from by omega] at hm
    have hs := tot_succ (xss := xss) (j := j) (by omega)
    have hw : IntKind.i64.wrap ((tot xss j : Int) + ((elt xss j).2 : Int)) = (tot xss (j + 1) : Nat) := by rw [wrap64 (by omega)]; omega
    have hi : IntKind.i64.wrap ((j : Int) + 1) = ((j + 1 : Nat) : Int) := by rw [wrap64 (by omega)]; omega
    have hp := p2 xss len (tot xss j) j
    rw [hw, hi] at hp
    refine Runs.piece ok14 mx hp ?_ (by rfl) (concat_loop1 hlen hl40 htot hend d (j + 1) (by omega))
    rw [decide_eq_true (by omega), decide_eq_true (by omega), decide_eq_false (by omega)]

theorem concat_loop2 {xss : Xs} {len : Nat} (hlen : len ≤ xss.length) (hl40 : len ≤ 1099511627776) (htot : tot xss len ≤ 1099511627776) :
    ∀ d j, j + d = len → Runs Try.prog S14 Try.f13 0 K2 (st2 xss len (.sl 0 0 (cat xss j).length) [.arr B1 (cat xss j) 0 []] j) (.one (.c (.sl 0 0 (cat xss len).length))) [.arr B1 (cat xss len) 0 []]
  | 0, j, h => by
    have : j = len := by omega
    subst this
    exact Runs.last ok14 mx (p8 xss (cat xss j) j (cat xss j).length j) (by rw [decide_eq_false (by omega)]) (by rfl)
  | d + 1, j, h => by
    have hm := tot_mono (xss := xss) (d := d) (j := j + 1) (by omega)
    rw [show j + 1 + d = len from by omega] at hm
    have hs := cat_succ (xss := xss) (j := j) (by omega)
    have hi : IntKind.i64.wrap ((j : Int) + 1) = ((j + 1 : Nat) : Int) := by rw [wrap64 (by omega)]; omega
    have hc := cat_len xss (j + 1)
    have hp := p6 xss (cat xss j) len (cat xss j).length j
    rw [hs, List.length_append] at hc
    have hr := rooms5 (n := (cat xss j).length + (bts (elt xss j)).length) (by omega)
    rw [hi, ← List.length_append, ← hs] at hp
    refine Runs.piece ok14 mx hp ?_ (by rfl) (concat_loop2 hlen hl40 htot d (j + 1) (by omega))
    rw [hs, List.length_append, hr, decide_eq_true (by omega), decide_eq_true (by omega), decide_eq_true rfl]; rfl

theorem concat_runs (xss : Xs) (len : Nat) (h0 : 0 < len) (hlen : len ≤ xss.length) (hl40 : len ≤ 1099511627776) (htot : tot xss len ≤ 1099511627776) :
    Runs Try.prog S14 Try.f13 0 [.code (cd Try.f13)] (s13 xss len) (.one (.c (.sl 0 0 (cat xss len).length))) [.arr B1 (cat xss len) 0 []] := by
  refine Runs.piece ok14 mx (p1 xss len) rfl (by rfl) ?_
  refine concat_loop1 hlen hl40 htot ?_ len 0 (by omega)
  have hz : IntKind.i64.wrap ((0 : Int) - 0) = 0 := wrap64 (by omega)
  have hi : IntKind.i64.wrap (((0 : Nat) : Int) + 1) = ((0 + 1 : Nat) : Int) := by rw [wrap64 (by omega)]; rfl
  have h1 := concat_loop2 hlen hl40 htot (len - 1) 1 (by omega)
  have hc1 : cat xss 1 = bts (elt xss 0) := by
    have := cat_succ (xss := xss) (j := 0) (by omega)
    rw [this]; rfl
  have hcl := cat_len xss 1
  have hm := tot_mono (xss := xss) (d := len - 1) (j := 1) (by omega)
  rw [show 1 + (len - 1) = len from by omega] at hm
  rw [hc1] at hcl
  rcases Nat.eq_zero_or_pos (tot xss len) with hz0 | hpos
  · -- all are empty
    refine Runs.piece ok14 mx (p4 xss len (tot xss len) len) ?_ (by rfl) ?_
    · rw [hz, decide_eq_false (by omega), decide_eq_false (by omega), wrap64 (by omega), decide_eq_false (by omega)]
    · have hp := p5 xss len 0
      rw [hi, ← hc1] at hp
      refine Runs.piece ok14 mx hp ?_ (by rfl) h1
      rw [decide_eq_true (by omega), decide_eq_true (by omega), hc1, rooms5 (by omega)]
  · have hp := p3 xss len (tot xss len) len
    rw [hz, wrap64 (x := (tot xss len : Int) - 0) (by omega)] at hp
    rw [show ((tot xss len : Int) - 0).toNat = tot xss len from by omega] at hp
    refine Runs.piece ok14 mx hp ?_ (by rfl) ?_
    · rw [decide_eq_false (by omega), decide_eq_false (by omega), decide_eq_true (by omega), rooms5 (by omega)]; rfl
    · have hp := p7 xss (List.replicate (tot xss len) (0 : Int)) len 0 0
      rw [hi, Nat.zero_add, List.take_zero, List.nil_append, ← hc1] at hp
      refine Runs.piece ok14 mx hp ?_ (by rfl) h1
      rw [decide_eq_true (by omega), decide_eq_true (by omega), hc1, rooms5 (by omega), List.length_replicate, decide_eq_false (by omega), decide_eq_true (by omega), decide_eq_true (by omega)]; rfl

/-- what Concat of slices that are only read yields -/
def T13 (vs : List V1) (hl : Heap) : Tree (SV × Heap) :=
  match vs, hl with
  | [.c (.ro (.sl (.int .u8)) xss len)], [] => Tree.chk (decide (0 < len ∧ len ≤ xss.length ∧ len ≤ 1099511627776 ∧ tot xss len ≤ 1099511627776)) (.ret (.one (.c (.sl 0 0 (cat xss len).length)), [.arr B1 (cat xss len) 0 []]))
  | _, _ => .fail

theorem concat_ok : EntryOk Try.prog S14.gl 13 T13 := by
  refine EntryOk.of_runs (S := S14) (fn := Try.f13) (c := cd Try.f13) (by kernel_rfl) (by kernel_rfl) (by kernel_rfl) (fun vs hl r hl' h => ?_)
  unfold T13 at h
  split at h
  · rename_i xss len
    obtain ⟨h1, h2⟩ := val_chk h
    obtain ⟨h0, hlen, hl40, htot⟩ := of_decide_eq_true h1
    have := val_ret h2
    simp only [Prod.mk.injEq] at this
    obtain ⟨rfl, rfl⟩ := this
    exact concat_runs xss len h0 hlen hl40 htot
  · cases h
noncomputable def S13 : Tab := S14.put 13 1 T13
theorem ok13 : SpecOk Try.prog S13 := ok14.put concat_ok
end Go.LB
