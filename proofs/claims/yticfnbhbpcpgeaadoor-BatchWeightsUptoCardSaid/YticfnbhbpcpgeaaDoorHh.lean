/-
  The listed variables of the hashes.
  Contracts of the hashes, part 1: turning words; a new state.
  Contracts of the hashes, part 2: a block of the program's hash is taken.
  Contracts of the hashes, part 3: a block of the document's hash.
  Contracts of the hashes, part 4: the program's state takes bytes, and gives its hash.
  Contracts of the hashes, part 5: numbers as bytes; the program's hash of parts.
  Contracts of the hashes, part 6: the document's hash.
-/
import Derived.Test.YticfnbhbpcpgeaaDoorPm
import Derived.Test.YticfnbhbpcpgeaaDoorSx31
import Derived.Test.YticfnbhbpcpgeaaDoorRows
import Derived.Test.YticfnbhbpcpgeaaDoorSx32
import Derived.Test.YticfnbhbpcpgeaaDoorHa
namespace Go.Sc
open Go Go.SX Go.Proofs Go.Proofs.YticfnbhbpcpgeaaDoor

/-- the numbers of a listed table -/
def nums1 : List (DataW Unit) → List Int
  | .lit (.int _ z) :: r => z :: nums1 r
  | _ :: r => 0 :: nums1 r
  | [] => []
def numsOf : DataW Unit → List Int
  | .agg ps => nums1 ps
  | _ => []
def kT : List Int := numsOf Rows.laid_veil_hash_rounds
def iT : List Int := numsOf Rows.laid_veil_hash_start
theorem kT_ref : numsOf Rows.laid_veil_veilref03_round = kT := by kernel_rfl
theorem iT_ref : numsOf Rows.laid_veil_veilref03_first = iT := by kernel_rfl
theorem kT_len : kT.length = 80 := by kernel_rfl
theorem iT_len : iT.length = 8 := by kernel_rfl
abbrev W80 : DTy := .ws .u64 80
abbrev W8 : DTy := .ws .u64 8
def G1 : GlobT := fun g => if g = 0 then some ⟨TB, tbl⟩ else if g = 4 then some ⟨W80, kT⟩ else if g = 2 then some ⟨W8, iT⟩
  else if g = 3 then some ⟨W80, kT⟩ else if g = 1 then some ⟨W8, iT⟩ else none
theorem G_sub : GSub G0 G1 := by
  intro g x h
  unfold G0 at h
  unfold G1
  split at h
  · rename_i e; rw [if_pos e]; exact h
  · cases h
noncomputable def F0 : Tab := { E16 with gl := G1 }
theorem okF0 : SpecOk Tryd.prog F0 := okE16.more G_sub
end Go.Sc

namespace Go.Sc
open Go Go.SX Go.Proofs

def ptr0 : V1 := .c (.ptr 0 0 0 0 0 0)
/-- a state of the program's hash -/
def hs (w b : List Int) (n : Int) : Blk := .vals [.ws .u64 8 w, .ws .u8 128 b, .c (.int false .i64 n), .c (.bool false true)]
def Tnone (vs : List V1) (hl : Heap) : Tree (SV × Heap) :=
  match vs, hl with
  | [.c (.ptr 0 0 0 0 0 0)], [.vals [.ws .u64 8 w, .ws .u8 128 b, .c (.int _ .i64 n), .c (.bool _ true)]] => .ret (.one (.c (.bool false false)), [hs w b n])
  | _, _ => .fail
theorem none_b (w b : List Int) (n : Int) : (bodyT F0 Tryd.prog allLoops Tryd.f110 (cd Tryd.f110) [ptr0] [hs w b n]).path [] = some ([], .one (.c (.bool false false)), [hs w b n]) := by kernel_rfl
/-- the literal marks of a hash's state are struck -/
theorem ok_hnone : EntryOk Tryd.prog G1 110 Tnone := by
  refine EntryOk.subH (bodyT_ok okF0 mx (un := allLoops) (fn := Tryd.f110) (c := cd Tryd.f110) (by kernel_rfl) (by kernel_rfl) (by kernel_rfl)) (fun vs hl r ok okh h => ?_)
  unfold Tnone at h
  split at h
  · rename_i w b l n l'
    obtain rfl := val_ret h
    exact Tree.path_val (none_b w b n)
  · cases h
theorem new_b : (bodyT F0 Tryd.prog allLoops Tryd.f103 (cd Tryd.f103) [] []).path [] = some ([], .one ptr0, [.vals [.ws .u64 8 iT, .ws .u8 128 (List.replicate 128 0), .c (.int true .i64 0), .c (.bool true true)]]) := by kernel_rfl
def TNew (vs : List V1) (hl : Heap) : Tree (SV × Heap) :=
  match vs, hl with
  | [], [] => .ret (.one ptr0, [.vals [.ws .u64 8 iT, .ws .u8 128 (List.replicate 128 0), .c (.int true .i64 0), .c (.bool true true)]])
  | _, _ => .fail
theorem ok_hNew : EntryOk Tryd.prog G1 103 TNew := by
  refine EntryOk.sub (bodyT_ok okF0 mx (un := allLoops) (fn := Tryd.f103) (c := cd Tryd.f103) (by kernel_rfl) (by kernel_rfl) (by kernel_rfl)) (fun vs hl r ok h => ?_)
  unfold TNew at h
  split at h
  · obtain rfl := val_ret h
    exact Tree.path_val new_b
  · cases h
def shf (k : Int) : Int := (IntKind.u64.wrap ↑(BitVec.ofInt 64 (IntKind.u64.wrap k) &&& BitVec.ofInt 64 63).toNat)
theorem shf_neg {n : Int} (h : 1 ≤ n ∧ n ≤ 63) : shf (-n) = 64 - n := by
  have key : ((List.range 63).all fun i => shf (-((i + 1 : Nat) : Int)) == 64 - ((i + 1 : Nat) : Int)) = true := by decide +kernel
  obtain ⟨m, rfl⟩ : ∃ m : Nat, n = ((m + 1 : Nat) : Int) := ⟨n.toNat - 1, by omega⟩
  exact eq_of_beq (List.all_eq_true.mp key m (List.mem_range.mpr (by omega)))
theorem rot_b (x k : Int) : (bodyT F0 Tryd.prog allLoops Tryd.f114 (cd Tryd.f114) [.c (.int false .u64 x), .c (.int false .i64 k)] []).path [true, true] =
    some ([decide (0 ≤ shf k), decide (0 ≤ IntKind.u64.wrap (64 - shf k))], .one (.c (.int false .u64 (bor (um64 (x * 2 ^ min (shf k).toNat 64)) (x.fdiv (2 ^ min (IntKind.u64.wrap (64 - shf k)).toNat 64))))), []) := by kernel_rfl
theorem h3rotr_b (x k : Int) : (bodyT F0 Tryd.prog allLoops Tryd.f113 (cd Tryd.f113) [.c (.int false .u64 x), .c (.int false .i64 k)] []).path [true, true] =
    some ([decide (0 ≤ k), decide (0 ≤ iw (64 - k))], .one (.c (.int false .u64 (bor (x.fdiv (2 ^ min k.toNat 64)) (um64 (x * 2 ^ min (iw (64 - k)).toNat 64))))), []) := by kernel_rfl
def TRot (vs : List V1) (hl : Heap) : Tree (SV × Heap) :=
  match vs, hl with
  | [.c (.int _ .u64 x), .c (.int _ .i64 k)], [] => Tree.chk (decide (-63 ≤ k ∧ k ≤ -1)) (.ret (.one (.c (.int false .u64 (rotI x (-k)))), []))
  | _, _ => .fail
def Trotr (vs : List V1) (hl : Heap) : Tree (SV × Heap) :=
  match vs, hl with
  | [.c (.int _ .u64 x), .c (.int _ .i64 k)], [] => Tree.chk (decide (1 ≤ k ∧ k ≤ 63)) (.ret (.one (.c (.int false .u64 (rotI x k))), []))
  | _, _ => .fail
theorem ok_Rot : EntryOk Tryd.prog G1 114 TRot := by
  refine EntryOk.sub (bodyT_ok okF0 mx (un := allLoops) (fn := Tryd.f114) (c := cd Tryd.f114) (by kernel_rfl) (by kernel_rfl) (by kernel_rfl)).unlit (fun vs hl r ok h => ?_)
  unfold TRot at h
  split at h
  · rename_i l x l' k
    obtain ⟨h1, h2⟩ := val_chk h
    have h1 := of_decide_eq_true h1
    obtain rfl := val_ret h2
    have hp := rot_b x k
    obtain ⟨n, rfl⟩ : ∃ n, k = -n := ⟨-k, by omega⟩
    rw [shf_neg (by omega), show (64 : Int) - (64 - n) = n by omega, wrapU, Int.emod_eq_of_lt (by omega) (by omega), decide_eq_true (by omega), decide_eq_true (by omega), Nat.min_eq_left (by omega), Nat.min_eq_left (by omega)] at hp
    rw [Int.neg_neg]
    exact Tree.path_val hp
  · cases h
theorem ok_rotr : EntryOk Tryd.prog G1 113 Trotr := by
  refine EntryOk.sub (bodyT_ok okF0 mx (un := allLoops) (fn := Tryd.f113) (c := cd Tryd.f113) (by kernel_rfl) (by kernel_rfl) (by kernel_rfl)).unlit (fun vs hl r ok h => ?_)
  unfold Trotr at h
  split at h
  · rename_i l x l' k
    obtain ⟨h1, h2⟩ := val_chk h
    have h1 := of_decide_eq_true h1
    obtain rfl := val_ret h2
    have hp := h3rotr_b x k
    have e : iw (64 - k) = 64 - k := wrap64 (by omega)
    rw [e, bor_comm, decide_eq_true (by omega), decide_eq_true (by omega), Nat.min_eq_left (by omega), Nat.min_eq_left (by omega)] at hp
    exact Tree.path_val hp
  · cases h
noncomputable def F1 : Tab := (((F0.put 110 0 Tnone).put 103 1 TNew).put 114 0 TRot).put 113 0 Trotr
theorem okF1 : SpecOk Tryd.prog F1 := (((okF0.put ok_hnone).put ok_hNew).put ok_Rot).put ok_rotr
end Go.Sc

namespace Go.Sc
open Go Go.SX Go.Proofs

noncomputable def rK (k : List Item) (s : St) : Tree Out := runK F1 Tryd.prog noLoops 400 k s
noncomputable def rKA (k : List Item) (s : St) : Tree Out := runK F1 Tryd.prog allLoops 400 k s
noncomputable def sK (w b : List Int) (n : Int) : St := ⟨enterT Tryd.f111 [ptr0], [hs w b n]⟩
noncomputable def KK : List Item := leftT [] (rK [.code (cd Tryd.f111)] (sK [] [] 0))
noncomputable def stK (w b ww : List Int) (n t : Int) : St := ⟨slotsOf 206 [(0, pt 0), (2, pt 1), (26, one (.int false .i64 t))], [hs w b n, .vals [.ws .u64 80 ww]]⟩
noncomputable def KK2 : List Item := leftT [true, true] (rK KK (stK [] [] [] 0 0))
noncomputable def stK2 (w b ww : List Int) (n : Int) (t : Int) (o l : Nat) (i : Int) : St := ⟨slotsOf 206 [(0, pt 0), (2, pt 1), (3, one (.int false .i64 t)), (26, one (.int false .i64 t)), (37, one (.sla 0 8 128 o l)), (38, one (.int false .i64 l)), (39, one (.int false .i64 i))], [hs w b n, .vals [.ws .u64 80 ww]]⟩
noncomputable def KK3 : List Item := leftT [false] (rK KK (stK [] [] [] 0 0))
noncomputable def stK3 (w b ww : List Int) (n : Int) (t : Int) : St := ⟨slotsOf 206 [(0, pt 0), (2, pt 1), (6, one (.int false .i64 t))], [hs w b n, .vals [.ws .u64 80 ww]]⟩
noncomputable def KK4 : List Item := leftT [false] (rK KK3 (stK3 [] [] [] 0 0))
def iu (x : Int) : SV := one (.int false .u64 x)
noncomputable def stK4 (w b ww : List Int) (n : Int) (v : List Int) (t : Int) : St :=
  ⟨slotsOf 206 [(0, pt 0), (2, pt 1), (12, iu (v.getD 0 0)), (13, iu (v.getD 1 0)), (14, iu (v.getD 2 0)), (15, iu (v.getD 3 0)), (16, iu (v.getD 4 0)), (17, iu (v.getD 5 0)), (18, iu (v.getD 6 0)), (19, iu (v.getD 7 0)), (117, one (.int false .i64 t))], [hs w b n, .vals [.ws .u64 80 ww]]⟩
theorem k_a (w b : List Int) (n : Int) : pieceT [0, 2, 26] [26] [0, 1] [] (rK [.code (cd Tryd.f111)] (sK w b n)) = some ([], KK, stK w b (wT5 b 0 0) n (0 : Nat)) := by kernel_rfl
theorem k_b (w b ww : List Int) (n : Int) (t : Nat) : pieceT [0, 2, 3, 26, 37, 38, 39] [38, 39] [0, 1] [true, true] (rK KK (stK w b ww n t)) =
    some ([decide ((t : Int) < 16), decide (0 ≤ iw (8 * t)) && decide (0 ≤ iw (iw (8 * t) + 8)) && decide ((iw (8 * t)).toNat ≤ (iw (iw (8 * t) + 8)).toNat ∧ (iw (iw (8 * t) + 8)).toNat ≤ 128)],
      KK2, stK2 w b ww n t (iw (8 * t)).toNat ((iw (iw (8 * t) + 8)).toNat - (iw (8 * t)).toNat) (0 : Nat)) := by kernel_rfl
theorem k_c (w b ww : List Int) (n : Int) (t o l i : Nat) : pieceT [0, 2, 3, 26, 37, 38, 39] [38, 39] [0, 1] [true, true, true, true] (rK KK2 (stK2 w b ww n t o l i)) =
    some ([decide ((i : Int) < l), decide (0 ≤ (i : Int) ∧ (i : Int) < l), decide (0 ≤ (t : Int) ∧ (t : Int) < 80), decide (0 ≤ (t : Int) ∧ (t : Int) < 80)],
      KK2, stK2 w b (ww.set t (bor (um64 (ww.getD t 0 * 2 ^ 8)) (um64 (b.getD (o + i) 0)))) n t o l (iw ((i : Int) + 1))) := by kernel_rfl
theorem k_d (w b ww : List Int) (n : Int) (t o l i : Nat) : pieceT [0, 2, 26] [26] [0, 1] [false] (rK KK2 (stK2 w b ww n t o l i)) =
    some ([decide ((i : Int) < l)], KK, stK w b ww n (iw ((t : Int) + 1))) := by kernel_rfl
theorem k_e (w b ww : List Int) (n : Int) (t : Nat) : pieceT [0, 2, 6] [6] [0, 1] [false] (rK KK (stK w b ww n t)) = some ([decide ((t : Int) < 16)], KK3, stK3 w b ww n (16 : Nat)) := by kernel_rfl
def inW (x : Int) : Bool := decide (0 ≤ x ∧ x < 80)
def wI (ww : List Int) (t : Int) : Int := um64 (um64 (um64 (sgA (ww.getD (iw (t - 2)).toNat 0) + ww.getD (iw (t - 7)).toNat 0) + sgB (ww.getD (iw (t - 15)).toNat 0)) + ww.getD (iw (t - 16)).toNat 0)
theorem k_f (w b ww : List Int) (n : Int) (t : Nat) : pieceT [0, 2, 6] [6] [0, 1] [true, true, true, true, true, true, true, true, true, true] (rK KK3 (stK3 w b ww n t)) =
    some ([decide ((t : Int) < 80), inW (iw ((t : Int) - 2)), inW (iw ((t : Int) - 15)), true, true, true, true, inW (iw ((t : Int) - 7)), inW (iw ((t : Int) - 16)), inW t],
      KK3, stK3 w b (ww.set t (wI ww t)) n (iw ((t : Int) + 1))) := by kernel_rfl
theorem k_g (w b ww : List Int) (n : Int) (t : Nat) : pieceT [0, 2, 12, 13, 14, 15, 16, 17, 18, 19, 117] [117] [0, 1] [false] (rK KK3 (stK3 w b ww n t)) =
    some ([decide ((t : Int) < 80)], KK4, stK4 w b ww n w (0 : Nat)) := by kernel_rfl
theorem k_h (w b ww v : List Int) (n : Int) (t : Nat) : pieceT [0, 2, 12, 13, 14, 15, 16, 17, 18, 19, 117] [117] [0, 1] [true, true, true, true, true, true, true, true, true] (rK KK4 (stK4 w b ww n v t)) =
    some ([decide ((t : Int) < 80), true, true, true, inW t, inW t, true, true, true], KK4, stK4 w b ww n (rnd512 v (kT.getD t 0) (ww.getD t 0)) (iw ((t : Int) + 1))) := by kernel_rfl
theorem k_i (w0 w1 w2 w3 w4 w5 w6 w7 v0 v1 v2 v3 v4 v5 v6 v7 : Int) (b ww : List Int) (n : Int) (t : Nat) : endT Tryd.prog Tryd.f111 [0] [false] (rKA KK4 (stK4 [w0, w1, w2, w3, w4, w5, w6, w7] b ww n [v0, v1, v2, v3, v4, v5, v6, v7] t)) =
    some ([decide ((t : Int) < 80)], .tup [], [hs [um64 (w0 + v0), um64 (w1 + v1), um64 (w2 + v2), um64 (w3 + v3), um64 (w4 + v4), um64 (w5 + v5), um64 (w6 + v6), um64 (w7 + v7)] b n]) := by kernel_rfl

section
variable {w b : List Int} {n : Int}
abbrev RK (K : List Item) (s : St) (w b : List Int) (n : Int) : Prop := Runs Tryd.prog F1 Tryd.f111 1 K s (.tup []) [hs (cmp5 kT w b 0) b n]
theorem wsub {t k : Nat} (h : k ≤ t) (ht : t < 80) : iw ((t : Int) - k) = ((t - k : Nat) : Int) := by
  rw [show (t : Int) - k = ((t - k : Nat) : Int) by omega]; exact wrap64 (by omega)
theorem inW_nat {t : Nat} (h : t < 80) : inW (t : Int) = true := decide_eq_true (by omega)
theorem lpR (hw : w.length = 8) : RK KK4 (stK4 w b (wT5 b 0 80) n w (0 : Nat)) w b n := by
  refine loopG (st := fun t (v : List Int) => stK4 w b (wT5 b 0 80) n v t) (I := fun t v => v = vT5 kT w (wT5 b 0 80) t) (n := 80) (fun t v ht hI => ?_) (fun v hI => ?_) 80 0 w (by omega) rfl
  · subst hI
    refine ⟨_, rfl, fun hr => ?_⟩
    have hh := k_h w b (wT5 b 0 80) (vT5 kT w (wT5 b 0 80) t) n t
    rw [iwk (by omega), inW_nat ht, decide_eq_true (show (t : Int) < 80 by omega)] at hh
    exact Runs.piece okF1 mx hh rfl (by rfl) hr
  · have hI : v = vT5 kT w (wT5 b 0 80) 80 := hI
    have hv := vT5_len kT w (wT5 b 0 80) hw 80
    rw [← hI] at hv
    obtain ⟨w0, w1, w2, w3, w4, w5, w6, w7, rfl⟩ := eightZ hw
    obtain ⟨v0, v1, v2, v3, v4, v5, v6, v7, rfl⟩ := eightZ hv
    have hi := k_i w0 w1 w2 w3 w4 w5 w6 w7 v0 v1 v2 v3 v4 v5 v6 v7 b (wT5 b 0 80) n 80
    have e : cmp5 kT [w0, w1, w2, w3, w4, w5, w6, w7] b 0 = [um64 (w0 + v0), um64 (w1 + v1), um64 (w2 + v2), um64 (w3 + v3), um64 (w4 + v4), um64 (w5 + v5), um64 (w6 + v6), um64 (w7 + v7)] := by
      unfold cmp5
      rw [← hI]; rfl
    rw [e]
    exact Runs.last okF1 mx hi (by rw [decide_eq_false (by omega)]) (by rfl)
theorem lpS (hw : w.length = 8) : RK KK3 (stK3 w b (wT5 b 0 16) n (16 : Nat)) w b n := by
  refine loopG (st := fun t (v : List Int) => stK3 w b v n t) (I := fun t v => 16 ≤ t ∧ v = wT5 b 0 t) (n := 80) (fun t v ht hI => ?_) (fun v hI => ?_) 64 16 _ (by omega) ⟨by omega, rfl⟩
  · obtain ⟨h16, rfl⟩ := hI
    refine ⟨wT5 b 0 (t + 1), ⟨by omega, rfl⟩, fun hr => ?_⟩
    have hf := k_f w b (wT5 b 0 t) n t
    have e : wI (wT5 b 0 t) t = wnx5 (wT5 b 0 t) t := by
      unfold wI wnx5
      have e2 : iw ((t : Int) - 2) = ((t - 2 : Nat) : Int) := wsub (k := 2) (by omega) ht
      have e7 : iw ((t : Int) - 7) = ((t - 7 : Nat) : Int) := wsub (k := 7) (by omega) ht
      have e15 : iw ((t : Int) - 15) = ((t - 15 : Nat) : Int) := wsub (k := 15) (by omega) ht
      have e16 : iw ((t : Int) - 16) = ((t - 16 : Nat) : Int) := wsub (k := 16) (by omega) ht
      rw [e2, e7, e15, e16, Int.toNat_natCast, Int.toNat_natCast, Int.toNat_natCast, Int.toNat_natCast]
    have e2 : inW (iw ((t : Int) - 2)) = true := by rw [show iw ((t : Int) - 2) = ((t - 2 : Nat) : Int) from wsub (k := 2) (by omega) ht]; exact inW_nat (by omega)
    have e7 : inW (iw ((t : Int) - 7)) = true := by rw [show iw ((t : Int) - 7) = ((t - 7 : Nat) : Int) from wsub (k := 7) (by omega) ht]; exact inW_nat (by omega)
    have e15 : inW (iw ((t : Int) - 15)) = true := by rw [show iw ((t : Int) - 15) = ((t - 15 : Nat) : Int) from wsub (k := 15) (by omega) ht]; exact inW_nat (by omega)
    have e16 : inW (iw ((t : Int) - 16)) = true := by rw [show iw ((t : Int) - 16) = ((t - 16 : Nat) : Int) from wsub (k := 16) (by omega) ht]; exact inW_nat (by omega)
    have es : (wT5 b 0 t).set t (wnx5 (wT5 b 0 t) t) = wT5 b 0 (t + 1) := by
      rw [show wT5 b 0 (t + 1) = (wT5 b 0 t).set t (if t < 16 then be b (0 + 8 * t) 8 else wnx5 (wT5 b 0 t) t) from rfl, if_neg (by omega)]
    rw [e, es, e2, e7, e15, e16, inW_nat ht, iwk (by omega), decide_eq_true (show (t : Int) < 80 by omega)] at hf
    exact Runs.piece okF1 mx hf rfl (by rfl) hr
  · have hI : v = wT5 b 0 80 := hI.2
    rw [hI]
    exact Runs.piece okF1 mx (k_g w b _ n 80) (by rw [decide_eq_false (by omega)]) (by rfl) (lpR hw)
theorem lpI {t : Nat} (ht : t < 16) (h : RK KK (stK w b (wT5 b 0 (t + 1)) n (t + 1 : Nat)) w b n) : RK KK2 (stK2 w b (wT5 b 0 t) n t (8 * t) 8 (0 : Nat)) w b n := by
  have hl := wT5_len b 0 t
  refine loopG (st := fun j (v : List Int) => stK2 w b v n t (8 * t) 8 j) (I := fun j v => v = (wT5 b 0 t).set t (be b (8 * t) j)) (n := 8) (fun j v hj hI => ?_) (fun v hI => ?_) 8 0 _ (by omega) ?_
  · subst hI
    refine ⟨_, rfl, fun hr => ?_⟩
    have hc := k_c w b ((wT5 b 0 t).set t (be b (8 * t) j)) n t (8 * t) 8 j
    have es : ((wT5 b 0 t).set t (be b (8 * t) j)).set t (bor (um64 (((wT5 b 0 t).set t (be b (8 * t) j)).getD t 0 * 2 ^ 8)) (um64 (b.getD (8 * t + j) 0))) = (wT5 b 0 t).set t (be b (8 * t) (j + 1)) := by
      rw [getD_set_eqZ (by omega), set_setZ]; rfl
    rw [es, iwk (by omega), decide_eq_true (by omega), decide_eq_true (by omega), decide_eq_true (by omega)] at hc
    exact Runs.piece okF1 mx hc rfl (by rfl) hr
  · have hI : v = (wT5 b 0 t).set t (be b (8 * t) 8) := hI
    have es : (wT5 b 0 t).set t (be b (8 * t) 8) = wT5 b 0 (t + 1) := by
      rw [show wT5 b 0 (t + 1) = (wT5 b 0 t).set t (if t < 16 then be b (0 + 8 * t) 8 else wnx5 (wT5 b 0 t) t) from rfl, if_pos ht, Nat.zero_add]
    rw [hI, es]
    have hd := k_d w b (wT5 b 0 (t + 1)) n t (8 * t) 8 8
    rw [iwk (by omega), decide_eq_false (by omega)] at hd
    exact Runs.piece okF1 mx hd rfl (by rfl) h
  · rw [show be b (8 * t) 0 = 0 from rfl, ← wT5_zero b 0 t t (Nat.le_refl _), set_getDZ]
theorem take_runs (hw : w.length = 8) : RK [.code (cd Tryd.f111)] (sK w b n) w b n := by
  refine Runs.piece okF1 mx (k_a w b n) rfl (by rfl) ?_
  refine loopG (st := fun t (v : List Int) => stK w b v n t) (I := fun t v => v = wT5 b 0 t) (n := 16) (fun t v ht hI => ?_) (fun v hI => ?_) 16 0 _ (by omega) rfl
  · subst hI
    refine ⟨_, rfl, fun hr => ?_⟩
    have hb := k_b w b (wT5 b 0 t) n t
    have e1 : iw (8 * (t : Int)) = ((8 * t : Nat) : Int) := by rw [show 8 * (t : Int) = ((8 * t : Nat) : Int) by omega]; exact wrap64 (by omega)
    have e2 : iw (((8 * t : Nat) : Int) + 8) = ((8 * t + 8 : Nat) : Int) := by rw [show ((8 * t : Nat) : Int) + 8 = ((8 * t + 8 : Nat) : Int) by omega]; exact wrap64 (by omega)
    rw [e1, e2, Int.toNat_natCast, Int.toNat_natCast, show 8 * t + 8 - 8 * t = 8 by omega, decide_eq_true (by omega), decide_eq_true (by omega), decide_eq_true (by omega), decide_eq_true (by omega)] at hb
    exact Runs.piece okF1 mx hb rfl (by rfl) (lpI ht hr)
  · have hI : v = wT5 b 0 16 := hI
    subst hI
    exact Runs.piece okF1 mx (k_e w b _ n 16) (by rw [decide_eq_false (by omega)]) (by rfl) (lpS hw)
end
def Thtake (vs : List V1) (hl : Heap) : Tree (SV × Heap) :=
  match vs, hl with
  | [.c (.ptr 0 0 0 0 0 0)], [.vals [.ws .u64 8 w, .ws .u8 128 b, .c (.int _ .i64 n), .c (.bool _ true)]] => .ret (.tup [], [hs (cmp5 kT w b 0) b n])
  | _, _ => .fail
theorem ok_htake : EntryOk Tryd.prog G1 111 Thtake := by
  refine EntryOk.unlitHRuns (S := F1) (fn := Tryd.f111) (c := cd Tryd.f111) (by kernel_rfl) (by kernel_rfl) (by kernel_rfl) (fun vs hl r hl' ok okh h => ?_)
  unfold Thtake at h
  split at h
  · rename_i w b l n l'
    obtain ⟨rfl, rfl⟩ := Prod.mk.inj (val_ret h)
    have hw : w.length = 8 := (okh _ List.mem_cons_self).1.1
    exact take_runs hw
  · cases h
noncomputable def F2 : Tab := F1.put 111 0 Thtake
theorem okF2 : SpecOk Tryd.prog F2 := okF1.put ok_htake
end Go.Sc

namespace Go.Sc
open Go Go.SX Go.Proofs

def beI (xs : List Int) (a : Int) : Nat → Int
  | 0 => 0
  | j + 1 => bor (um64 (beI xs a j * 2 ^ 8)) (um64 (xs.getD (iw (a + (j : Int))).toNat 0))
def cI (a : Int) (len j : Nat) : Bool := decide (0 ≤ iw (a + (j : Int)) ∧ iw (a + (j : Int)) < len)
theorem word_b (xs : List Int) (len : Nat) (a : Int) : (bodyT F2 Tryd.prog allLoops Tryd.f112 (cd Tryd.f112) [.c (.ro B1 xs len), .c (.int false .i64 a)] []).path [true, true, true, true, true, true, true, true] =
    some ([cI a len 0, cI a len 1, cI a len 2, cI a len 3, cI a len 4, cI a len 5, cI a len 6, cI a len 7], .one (.c (.int false .u64 (beI xs a 8))), []) := by kernel_rfl
theorem beI_eq {a : Nat} (ha : a ≤ 1099511627776) (xs : List Int) : ∀ j, j ≤ 8 → beI xs a j = be xs a j
  | 0, _ => rfl
  | j + 1, h => by
    unfold beI be
    have e : iw ((a : Int) + (j : Int)) = ((a + j : Nat) : Int) := by
      rw [show (a : Int) + (j : Int) = ((a + j : Nat) : Int) by omega]; exact wrap64 (by omega)
    rw [beI_eq ha xs j (by omega), e, Int.toNat_natCast]
theorem cI_true {a len j : Nat} (h : a + 8 ≤ len) (ha : a ≤ 1099511627776) (hj : j < 8) : cI a len j = true := by
  unfold cI
  have e : iw ((a : Int) + (j : Int)) = ((a + j : Nat) : Int) := by
    rw [show (a : Int) + (j : Int) = ((a + j : Nat) : Int) by omega]; exact wrap64 (by omega)
  rw [e]; exact decide_eq_true (by omega)
def Tword (vs : List V1) (hl : Heap) : Tree (SV × Heap) :=
  match vs, hl with
  | [.c (.ro (.int .u8) xs len), .c (.int _ .i64 a)], [] => Tree.chk (decide (0 ≤ a ∧ a ≤ 1099511627776) && decide (a.toNat + 8 ≤ len)) (.ret (.one (.c (.int false .u64 (be xs a.toNat 8))), []))
  | _, _ => .fail
theorem ok_word : EntryOk Tryd.prog G1 112 Tword := by
  refine EntryOk.sub (bodyT_ok okF2 mx (un := allLoops) (fn := Tryd.f112) (c := cd Tryd.f112) (by kernel_rfl) (by kernel_rfl) (by kernel_rfl)).unlitG (fun vs hl r ok h => ?_)
  unfold Tword at h
  split at h
  · rename_i xs len l a
    obtain ⟨h1, h2⟩ := val_chk h
    rw [Bool.and_eq_true] at h1
    obtain ⟨h0, h1⟩ := h1
    have h0 := of_decide_eq_true h0
    have h1 := of_decide_eq_true h1
    obtain rfl := val_ret h2
    obtain ⟨m, rfl⟩ : ∃ m : Nat, a = m := ⟨a.toNat, by omega⟩
    rw [Int.toNat_natCast] at h1 ⊢
    have hp := word_b xs len m
    rw [beI_eq (by omega) xs 8 (by omega), cI_true h1 (by omega) (by omega), cI_true h1 (by omega) (by omega), cI_true h1 (by omega) (by omega), cI_true h1 (by omega) (by omega), cI_true h1 (by omega) (by omega), cI_true h1 (by omega) (by omega), cI_true h1 (by omega) (by omega), cI_true h1 (by omega) (by omega)] at hp
    exact Tree.path_val hp
  · cases h
noncomputable def F3 : Tab := F2.put 112 0 Tword
theorem okF3 : SpecOk Tryd.prog F3 := okF2.put ok_word

/-! ### a block -/
noncomputable def rL (k : List Item) (s : St) : Tree Out := runK F3 Tryd.prog noLoops 400 k s
noncomputable def rLA (k : List Item) (s : St) : Tree Out := runK F3 Tryd.prog allLoops 400 k s
noncomputable def sL (w xs : List Int) (len : Nat) (a : Int) : St := ⟨enterT Tryd.f108 [.g [.ws .u64 8 w], .c (.ro B1 xs len), .c (.int false .i64 a)], []⟩
noncomputable def KL : List Item := leftT [] (rL [.code (cd Tryd.f108)] (sL [] [] 0 0))
noncomputable def stL (w z ww xs : List Int) (len : Nat) (a t : Int) : St := ⟨slotsOf 176 [(1, one (.ro B1 xs len)), (2, one (.int false .i64 a)), (3, pt 0), (6, pt 1), (7, pt 2), (8, one (.int false .i64 t))], [.vals [.ws .u64 8 w], .vals [.ws .u64 8 z], .vals [.ws .u64 80 ww]]⟩
noncomputable def KL2 : List Item := leftT [false] (rL KL (stL [] [] [] [] 0 0 0))
noncomputable def stL2 (w z ww v : List Int) (t : Int) : St := ⟨slotsOf 176 [(3, pt 0), (6, pt 1), (7, pt 2), (13, pt 3), (14, one (.int false .i64 t))], [.vals [.ws .u64 8 w], .vals [.ws .u64 8 z], .vals [.ws .u64 80 ww], .vals [.ws .u64 8 v]]⟩
theorem l_a (w xs : List Int) (len : Nat) (a : Int) : pieceT [1, 2, 3, 6, 7, 8] [8] [0, 1, 2] [] (rL [.code (cd Tryd.f108)] (sL w xs len a)) = some ([], KL, stL w [0, 0, 0, 0, 0, 0, 0, 0] (wT5 xs 0 0) xs len a (0 : Nat)) := by kernel_rfl
theorem l_b (w z ww xs : List Int) (len : Nat) (a : Int) (t : Nat) : pieceT [1, 2, 3, 6, 7, 8] [8] [0, 1, 2] [true, true, true, true] (rL KL (stL w z ww xs len a t)) =
    some ([decide ((t : Int) < 80), decide ((t : Int) < 16), decide (0 ≤ iw (a + iw (8 * t)) ∧ iw (a + iw (8 * t)) ≤ 1099511627776) && decide ((iw (a + iw (8 * t))).toNat + 8 ≤ len), inW t],
      KL, stL w z (ww.set t (be xs (iw (a + iw (8 * t))).toNat 8)) xs len a (iw ((t : Int) + 1))) := by kernel_rfl
theorem l_c (w z ww xs : List Int) (len : Nat) (a : Int) (t : Nat) : pieceT [1, 2, 3, 6, 7, 8] [8] [0, 1, 2] [true, false, true, true, true, true, true, true, true, true, true] (rL KL (stL w z ww xs len a t)) =
    some ([decide ((t : Int) < 80), decide ((t : Int) < 16), inW (iw ((t : Int) - 2)), inW (iw ((t : Int) - 15)), true, true, true, true, inW (iw ((t : Int) - 7)), inW (iw ((t : Int) - 16)), inW t],
      KL, stL w z (ww.set t (wI ww t)) xs len a (iw ((t : Int) + 1))) := by kernel_rfl
theorem l_d (w z ww xs : List Int) (len : Nat) (a : Int) (t : Nat) : pieceT [3, 6, 7, 13, 14] [14] [0, 1, 2, 3] [false] (rL KL (stL w z ww xs len a t)) =
    some ([decide ((t : Int) < 80)], KL2, stL2 w z ww w (0 : Nat)) := by kernel_rfl
theorem l_e (w z ww v : List Int) (t : Nat) : pieceT [3, 6, 7, 13, 14] [14] [0, 1, 2, 3] [true, true, true, true, true, true, true, true, true] (rL KL2 (stL2 w z ww v t)) =
    some ([decide ((t : Int) < 80), true, true, true, true, true, true, inW t, inW t], KL2, stL2 w z ww (rnd512 v (kT.getD t 0) (ww.getD t 0)) (iw ((t : Int) + 1))) := by kernel_rfl
theorem l_f (w0 w1 w2 w3 w4 w5 w6 w7 v0 v1 v2 v3 v4 v5 v6 v7 : Int) (z ww : List Int) (t : Nat) : endT Tryd.prog Tryd.f108 [] [false] (rLA KL2 (stL2 [w0, w1, w2, w3, w4, w5, w6, w7] z ww [v0, v1, v2, v3, v4, v5, v6, v7] t)) =
    some ([decide ((t : Int) < 80)], .one (.g [.ws .u64 8 [um64 (w0 + v0), um64 (w1 + v1), um64 (w2 + v2), um64 (w3 + v3), um64 (w4 + v4), um64 (w5 + v5), um64 (w6 + v6), um64 (w7 + v7)]]), []) := by kernel_rfl
section
variable {w xs : List Int} {len a : Nat}
abbrev RL (K : List Item) (s : St) (w xs : List Int) (a : Nat) : Prop := Runs Tryd.prog F3 Tryd.f108 0 K s (.one (.g [.ws .u64 8 (cmp5 kT w xs a)])) []
theorem lpL2 (hw : w.length = 8) : RL KL2 (stL2 w [0, 0, 0, 0, 0, 0, 0, 0] (wT5 xs a 80) w (0 : Nat)) w xs a := by
  refine loopG (st := fun t (v : List Int) => stL2 w [0, 0, 0, 0, 0, 0, 0, 0] (wT5 xs a 80) v t) (I := fun t v => v = vT5 kT w (wT5 xs a 80) t) (n := 80) (fun t v ht hI => ?_) (fun v hI => ?_) 80 0 w (by omega) rfl
  · subst hI
    refine ⟨_, rfl, fun hr => ?_⟩
    have hh := l_e w [0, 0, 0, 0, 0, 0, 0, 0] (wT5 xs a 80) (vT5 kT w (wT5 xs a 80) t) t
    rw [iwk (by omega), inW_nat ht, decide_eq_true (show (t : Int) < 80 by omega)] at hh
    exact Runs.piece okF3 mx hh rfl (by rfl) hr
  · have hI : v = vT5 kT w (wT5 xs a 80) 80 := hI
    have hv := vT5_len kT w (wT5 xs a 80) hw 80
    rw [← hI] at hv
    obtain ⟨w0, w1, w2, w3, w4, w5, w6, w7, rfl⟩ := eightZ hw
    obtain ⟨v0, v1, v2, v3, v4, v5, v6, v7, rfl⟩ := eightZ hv
    have hi := l_f w0 w1 w2 w3 w4 w5 w6 w7 v0 v1 v2 v3 v4 v5 v6 v7 [0, 0, 0, 0, 0, 0, 0, 0] (wT5 xs a 80) 80
    have e : cmp5 kT [w0, w1, w2, w3, w4, w5, w6, w7] xs a = [um64 (w0 + v0), um64 (w1 + v1), um64 (w2 + v2), um64 (w3 + v3), um64 (w4 + v4), um64 (w5 + v5), um64 (w6 + v6), um64 (w7 + v7)] := by
      unfold cmp5
      rw [← hI]; rfl
    rw [e]
    exact Runs.last okF3 mx hi (by rw [decide_eq_false (by omega)]) (by rfl)
theorem take3_runs (hw : w.length = 8) (ha : a ≤ 1099000000000) (hl : a + 128 ≤ len) : RL [.code (cd Tryd.f108)] (sL w xs len a) w xs a := by
  refine Runs.piece okF3 mx (l_a w xs len a) rfl (by rfl) ?_
  refine loopG (st := fun t (v : List Int) => stL w [0, 0, 0, 0, 0, 0, 0, 0] v xs len a t) (I := fun t v => v = wT5 xs a t) (n := 80) (fun t v ht hI => ?_) (fun v hI => ?_) 80 0 _ (by omega) rfl
  · subst hI
    refine ⟨wT5 xs a (t + 1), rfl, fun hr => ?_⟩
    by_cases h16 : t < 16
    · have hb := l_b w [0, 0, 0, 0, 0, 0, 0, 0] (wT5 xs a t) xs len a t
      have e1 : iw (8 * (t : Int)) = ((8 * t : Nat) : Int) := by rw [show 8 * (t : Int) = ((8 * t : Nat) : Int) by omega]; exact wrap64 (by omega)
      have e2 : iw ((a : Int) + ((8 * t : Nat) : Int)) = ((a + 8 * t : Nat) : Int) := by rw [show (a : Int) + ((8 * t : Nat) : Int) = ((a + 8 * t : Nat) : Int) by omega]; exact wrap64 (by omega)
      have es : (wT5 xs a t).set t (be xs (a + 8 * t) 8) = wT5 xs a (t + 1) := by
        rw [show wT5 xs a (t + 1) = (wT5 xs a t).set t (if t < 16 then be xs (a + 8 * t) 8 else wnx5 (wT5 xs a t) t) from rfl, if_pos h16]
      rw [e1, e2, Int.toNat_natCast, es, iwk (by omega), inW_nat ht, decide_eq_true (by omega), decide_eq_true (by omega), decide_eq_true (by omega), decide_eq_true (by omega)] at hb
      exact Runs.piece okF3 mx hb rfl (by rfl) hr
    · have hf := l_c w [0, 0, 0, 0, 0, 0, 0, 0] (wT5 xs a t) xs len a t
      have e2 : iw ((t : Int) - 2) = ((t - 2 : Nat) : Int) := wsub (k := 2) (by omega) ht
      have e7 : iw ((t : Int) - 7) = ((t - 7 : Nat) : Int) := wsub (k := 7) (by omega) ht
      have e15 : iw ((t : Int) - 15) = ((t - 15 : Nat) : Int) := wsub (k := 15) (by omega) ht
      have e16 : iw ((t : Int) - 16) = ((t - 16 : Nat) : Int) := wsub (k := 16) (by omega) ht
      have e : wI (wT5 xs a t) t = wnx5 (wT5 xs a t) t := by
        unfold wI wnx5
        rw [e2, e7, e15, e16, Int.toNat_natCast, Int.toNat_natCast, Int.toNat_natCast, Int.toNat_natCast]
      have es : (wT5 xs a t).set t (wnx5 (wT5 xs a t) t) = wT5 xs a (t + 1) := by
        rw [show wT5 xs a (t + 1) = (wT5 xs a t).set t (if t < 16 then be xs (a + 8 * t) 8 else wnx5 (wT5 xs a t) t) from rfl, if_neg h16]
      rw [e, es, e2, e7, e15, e16, inW_nat (t := t - 2) (by omega), inW_nat (t := t - 7) (by omega), inW_nat (t := t - 15) (by omega), inW_nat (t := t - 16) (by omega), inW_nat ht, iwk (by omega), decide_eq_true (show (t : Int) < 80 by omega), decide_eq_false (by omega)] at hf
      exact Runs.piece okF3 mx hf rfl (by rfl) hr
  · have hI : v = wT5 xs a 80 := hI
    rw [hI]
    exact Runs.piece okF3 mx (l_d w _ _ xs len a 80) (by rw [decide_eq_false (by omega)]) (by rfl) (lpL2 hw)
end
def T3take (vs : List V1) (hl : Heap) : Tree (SV × Heap) :=
  match vs, hl with
  | [.g [.ws .u64 8 w], .c (.ro (.int .u8) xs len), .c (.int _ .i64 a)], [] => Tree.chk (decide (0 ≤ a ∧ a ≤ 1099000000000) && decide (a.toNat + 128 ≤ len)) (.ret (.one (.g [.ws .u64 8 (cmp5 kT w xs a.toNat)]), []))
  | _, _ => .fail
theorem ok_3take : EntryOk Tryd.prog G1 108 T3take := by
  refine EntryOk.unlitRuns (S := F3) (fn := Tryd.f108) (c := cd Tryd.f108) (by kernel_rfl) (by kernel_rfl) (by kernel_rfl) (fun vs hl r hl' ok h => ?_)
  unfold T3take at h
  split at h
  · rename_i w xs len l a
    obtain ⟨h1, h2⟩ := val_chk h
    rw [Bool.and_eq_true] at h1
    obtain ⟨h0, h1⟩ := h1
    have h0 := of_decide_eq_true h0
    have h1 := of_decide_eq_true h1
    obtain ⟨rfl, rfl⟩ := Prod.mk.inj (val_ret h2)
    have hw : w.length = 8 := ok.1.1.1
    obtain ⟨m, rfl⟩ : ∃ m : Nat, a = m := ⟨a.toNat, by omega⟩
    rw [Int.toNat_natCast] at h1 ⊢
    exact take3_runs hw (by omega) h1
  · cases h
noncomputable def F4 : Tab := F3.put 108 0 T3take
theorem okF4 : SpecOk Tryd.prog F4 := okF3.put ok_3take
end Go.Sc

namespace Go.Sc
open Go Go.SX Go.Proofs

def TC (C : List Int → List Int → List Int) (vs : List V1) (hl : Heap) : Tree (SV × Heap) :=
  match vs, hl with
  | [.c (.ptr 0 0 0 0 0 0)], [.vals [.ws .u64 8 w, .ws .u8 128 b, .c (.int _ .i64 n), .c (.bool _ true)]] => .ret (.tup [], [hs (C w b) b n])
  | _, _ => .fail
/-- the table with any function in the place of a block's taking -/
noncomputable def FC (C : List Int → List Int → List Int) : Tab := F4.put 111 0 (TC C)
def Ck (w b : List Int) : List Int := cmp5 kT w b 0
theorem okFC : SpecOk Tryd.prog (FC Ck) := okF4.put ok_htake

namespace HWr
noncomputable def rW (C : List Int → List Int → List Int) (k : List Item) (s : St) : Tree Out := runK (FC C) Tryd.prog noLoops 400 k s
noncomputable def sW (w b : List Int) (n : Int) (xs : List Int) (len : Nat) : St := ⟨enterT Tryd.f104 [ptr0, .c (.ro B1 xs len)], [hs w b n]⟩
noncomputable def KW : List Item := leftT [true, false] (rW (fun w _ => w) [.code (cd Tryd.f104)] (sW [] [] 0 [] 0))
noncomputable def stW (w b : List Int) (n : Int) (xs : List Int) (len : Nat) : St := ⟨slotsOf ((enterT Tryd.f104 [.c .nils]).length) [(0, pt 0), (1, one (.ro B1 xs len))], [hs w b n]⟩
theorem w_a (C : List Int → List Int → List Int) (w b xs : List Int) (n : Int) (len : Nat) : pieceT [0, 1] [] [0] [true, false] (rW C [.code (cd Tryd.f104)] (sW w b n xs len)) =
    some ([true, decide ((len : Int) > iw (1152921504606846976 - n))], KW, stW w b n xs len) := by kernel_rfl
theorem w_b (C : List Int → List Int → List Int) (w b xs : List Int) (n : Int) (len : Nat) : pieceT [0, 1] [] [0] [true, true, true, false] (rW C KW (stW w b n xs len)) =
    some ([decide ((len : Int) > 0), decide (0 ≤ n.tmod 128) && true && decide ((n.tmod 128).toNat ≤ 128 ∧ 128 ≤ 128), true && decide (cut n xs len ≤ len ∧ len ≤ xs.length), iw (n.tmod 128 + cut n xs len) == 128],
      KW, stW w (splice b (n.tmod 128).toNat ((xs.take len).take (cut n xs len))) (iw (n + cut n xs len)) (xs.drop (cut n xs len)) (len - cut n xs len)) := by kernel_rfl
theorem w_c (C : List Int → List Int → List Int) (w b xs : List Int) (n : Int) (len : Nat) : pieceT [0, 1] [] [0] [true, true, true, true] (rW C KW (stW w b n xs len)) =
    some ([decide ((len : Int) > 0), decide (0 ≤ n.tmod 128) && true && decide ((n.tmod 128).toNat ≤ 128 ∧ 128 ≤ 128), true && decide (cut n xs len ≤ len ∧ len ≤ xs.length), iw (n.tmod 128 + cut n xs len) == 128],
      KW, stW (C w (splice b (n.tmod 128).toNat ((xs.take len).take (cut n xs len)))) (splice b (n.tmod 128).toNat ((xs.take len).take (cut n xs len))) (iw (n + cut n xs len)) (xs.drop (cut n xs len)) (len - cut n xs len)) := by kernel_rfl
theorem w_d (C : List Int → List Int → List Int) (w b xs : List Int) (n : Int) (len : Nat) : endT Tryd.prog Tryd.f104 [0] [false] (rW C KW (stW w b n xs len)) =
    some ([decide ((len : Int) > 0)], .tup [], [hs w b n]) := by kernel_rfl

abbrev RWr (K : List Item) (s : St) (r : List Int × List Int × Int) : Prop := Runs Tryd.prog (FC Ck) Tryd.f104 1 K s (.tup []) [hs r.1 r.2.1 r.2.2]
theorem loop : ∀ (f : Nat) (w b xs : List Int) (m len : Nat), len ≤ f → len ≤ xs.length → m + len ≤ 2251799813685248 → RWr KW (stW w b (m : Nat) xs len) (wr Ck f w b (m : Nat) xs len)
  | 0, w, b, xs, m, len, hf, hl, hm => by
    obtain rfl : len = 0 := by omega
    exact Runs.last okFC mx (w_d Ck w b xs m 0) (by rfl) (by rfl)
  | f + 1, w, b, xs, m, len, hf, hl, hm => by
    unfold wr
    by_cases h0 : len = 0
    · rw [if_pos h0]
      subst h0
      exact Runs.last okFC mx (w_d Ck w b xs m 0) (by rfl) (by rfl)
    · rw [if_neg h0]
      have ht : ((m : Int).tmod 128) = ((m % 128 : Nat) : Int) := rfl
      have hr : m % 128 < 128 := Nat.mod_lt _ (by decide)
      have hc : cut m xs len = min len (128 - m % 128) := by
        unfold cut
        rw [ht, Int.toNat_natCast, List.length_take, Nat.min_eq_left hl]
      have hw1 : iw ((m : Int) + (cut m xs len : Nat)) = ((m + cut m xs len : Nat) : Int) := by
        rw [show (m : Int) + (cut m xs len : Nat) = ((m + cut m xs len : Nat) : Int) by omega]; exact wrap64 (by omega)
      have hw2 : iw (((m % 128 : Nat) : Int) + (cut m xs len : Nat)) = ((m % 128 + cut m xs len : Nat) : Int) := by
        rw [show ((m % 128 : Nat) : Int) + (cut m xs len : Nat) = ((m % 128 + cut m xs len : Nat) : Int) by omega]; exact wrap64 (by omega)
      have hcast : (m : Int) + (cut m xs len : Nat) = ((m + cut m xs len : Nat) : Int) := by omega
      by_cases h1 : m % 128 + cut m xs len = 128
      · rw [if_pos (by rw [ht, Int.toNat_natCast]; exact h1), hcast]
        have hp := w_c Ck w b xs m len
        have hb : (((m % 128 + cut m xs len : Nat) : Int) == 128) = true := by rw [h1]; rfl
        rw [hw1, ht, hw2, hb, Int.toNat_natCast, decide_eq_true (show (len : Int) > 0 by omega), decide_eq_true (show 0 ≤ ((m % 128 : Nat) : Int) by omega), decide_eq_true (show m % 128 ≤ 128 ∧ 128 ≤ 128 by omega), decide_eq_true (show cut m xs len ≤ len ∧ len ≤ xs.length by omega)] at hp
        exact Runs.piece okFC mx hp rfl (by rfl) (loop f _ _ _ _ _ (by omega) (by rw [List.length_drop]; omega) (by omega))
      · rw [if_neg (by rw [ht, Int.toNat_natCast]; exact h1), hcast]
        have hp := w_b Ck w b xs m len
        have hb : (((m % 128 + cut m xs len : Nat) : Int) == 128) = false := beq_eq_false_iff_ne.mpr (by omega)
        rw [hw1, ht, hw2, hb, Int.toNat_natCast, decide_eq_true (show (len : Int) > 0 by omega), decide_eq_true (show 0 ≤ ((m % 128 : Nat) : Int) by omega), decide_eq_true (show m % 128 ≤ 128 ∧ 128 ≤ 128 by omega), decide_eq_true (show cut m xs len ≤ len ∧ len ≤ xs.length by omega)] at hp
        exact Runs.piece okFC mx hp rfl (by rfl) (loop f _ _ _ _ _ (by omega) (by rw [List.length_drop]; omega) (by omega))
theorem runs {w b xs : List Int} {m len : Nat} (hl : len ≤ xs.length) (hm : m + len ≤ 2251799813685248) : RWr [.code (cd Tryd.f104)] (sW w b (m : Nat) xs len) (wr Ck len w b (m : Nat) xs len) := by
  have ha := w_a Ck w b xs m len
  have e : iw (1152921504606846976 - (m : Int)) = 1152921504606846976 - (m : Int) := wrap64 (by omega)
  rw [e, decide_eq_false (show ¬ (len : Int) > 1152921504606846976 - (m : Int) by omega)] at ha
  exact Runs.piece okFC mx ha rfl (by rfl) (loop len w b xs m len (Nat.le_refl _) hl hm)
end HWr

namespace HFin
noncomputable def rW (C : List Int → List Int → List Int) (k : List Item) (s : St) : Tree Out := runK (FC C) Tryd.prog noLoops 400 k s
noncomputable def sW (w b : List Int) (n : Int) : St := ⟨enterT Tryd.f105 [ptr0], [hs w b n]⟩
noncomputable def KF1 : List Item := leftT [false, true, true, false] (rW (fun w _ => w) [.code (cd Tryd.f105)] (sW [] [] 0))
def un1 (c : Code) : Bool := match firstRegion c with | some k => k == 13 | none => false
noncomputable def rW1 (C : List Int → List Int → List Int) (k : List Item) (s : St) : Tree Out := runK (FC C) Tryd.prog un1 4000 k s
noncomputable def rWA (C : List Int → List Int → List Int) (k : List Item) (s : St) : Tree Out := runK (FC C) Tryd.prog allLoops 4000 k s
noncomputable def stF (w b : List Int) (n : Int) (w1 b1 : List Int) (hi lo : Int) : St := ⟨slotsOf ((enterT Tryd.f105 [.c .nils]).length) [(2, pt 1), (3, pt 2), (4, pt 3), (6, one (.int false .u64 hi)), (7, one (.int false .u64 lo)), (40, one (.int true .i64 0))], [hs w b n, .vals [.ws .u8 64 (List.replicate 64 0)], .vals [.ws .u8 64 (List.replicate 64 0)], hs w1 b1 n]⟩
noncomputable def KF2 : List Item := leftT [] (rW1 (fun w _ => w) KF1 (stF [] [] 0 [] [] 0 0))
noncomputable def stG (w b : List Int) (n : Int) (v : List Int) : St := ⟨slotsOf ((enterT Tryd.f105 [.c .nils]).length) [(2, pt 1), (3, pt 2), (64, .one (.g [.ws .u64 8 v])), (65, one (.int true .i64 0))], [hs w b n, .vals [.ws .u8 64 (List.replicate 64 0)], .vals [.ws .u8 64 (List.replicate 64 0)]]⟩
theorem f_a (C : List Int → List Int → List Int) (w b : List Int) (n : Int) : pieceT [2, 3, 4, 6, 7, 40] [] [0, 1, 2, 3] [false, true, true, false] (rW C [.code (cd Tryd.f105)] (sW w b n)) =
    some ([false, decide (0 ≤ n.tmod 128) && true && decide ((n.tmod 128).toNat ≤ 128 ∧ 128 ≤ 128), decide (0 ≤ n.tmod 128 ∧ n.tmod 128 < 128), decide (n.tmod 128 ≥ 112)], KF1, stF w b n w (fin1 b n) (hiN n) (loN n)) := by kernel_rfl
theorem f_b (C : List Int → List Int → List Int) (w b : List Int) (n : Int) : pieceT [2, 3, 4, 6, 7, 40] [] [0, 1, 2, 3] [false, true, true, true, true] (rW C [.code (cd Tryd.f105)] (sW w b n)) =
    some ([false, decide (0 ≤ n.tmod 128) && true && decide ((n.tmod 128).toNat ≤ 128 ∧ 128 ≤ 128), decide (0 ≤ n.tmod 128 ∧ n.tmod 128 < 128), decide (n.tmod 128 ≥ 112), true],
      KF1, stF w b n (C w (fin1 b n)) (splice (fin1 b n) 0 (List.replicate 128 0)) (hiN n) (loN n)) := by kernel_rfl
theorem f_c (C : List Int → List Int → List Int) (w b w1 b1 : List Int) (n hi lo : Int) : pieceT [2, 3, 64, 65] [] [0, 1, 2] [] (rW1 C KF1 (stF w b n w1 b1 hi lo)) = some ([], KF2, stG w b n (C w1 (putLen b1 hi lo))) := by kernel_rfl
theorem f_d (C : List Int → List Int → List Int) (w b : List Int) (n v0 v1 v2 v3 v4 v5 v6 v7 : Int) : endT Tryd.prog Tryd.f105 [0] [] (rWA C KF2 (stG w b n [v0, v1, v2, v3, v4, v5, v6, v7])) =
    some ([], .one (.g [.ws .u8 64 (outB [v0, v1, v2, v3, v4, v5, v6, v7])]), [hs w b n]) := by kernel_rfl

abbrev RFn (K : List Item) (s : St) (w b : List Int) (n : Int) : Prop := Runs Tryd.prog (FC Ck) Tryd.f105 1 K s (.one (.g [.ws .u8 64 (finV Ck w b n)])) [hs w b n]
theorem Ck_len (w b : List Int) : (Ck w b).length = 8 := rfl
theorem tail {w b w1 b1 : List Int} {n hi lo : Int} : Runs Tryd.prog (FC Ck) Tryd.f105 1 KF1 (stF w b n w1 b1 hi lo) (.one (.g [.ws .u8 64 (outB (Ck w1 (putLen b1 hi lo)))])) [hs w b n] := by
  refine Runs.piece okFC mx (f_c Ck w b w1 b1 n hi lo) rfl (by rfl) ?_
  obtain ⟨v0, v1, v2, v3, v4, v5, v6, v7, e⟩ := eightZ (Ck_len w1 (putLen b1 hi lo))
  rw [e]
  exact Runs.last okFC mx (f_d Ck w b n v0 v1 v2 v3 v4 v5 v6 v7) rfl (by rfl)
theorem runs {w b : List Int} {m : Nat} : RFn [.code (cd Tryd.f105)] (sW w b (m : Nat)) w b (m : Nat) := by
  have ht : ((m : Int).tmod 128) = ((m % 128 : Nat) : Int) := rfl
  have hr : m % 128 < 128 := Nat.mod_lt _ (by decide)
  unfold RFn finV
  by_cases h : 112 ≤ m % 128
  · rw [if_pos (by rw [ht]; omega)]
    have hb := f_b Ck w b m
    rw [ht, Int.toNat_natCast, decide_eq_true (show 0 ≤ ((m % 128 : Nat) : Int) by omega), decide_eq_true (show m % 128 ≤ 128 ∧ 128 ≤ 128 by omega), decide_eq_true (show 0 ≤ ((m % 128 : Nat) : Int) ∧ ((m % 128 : Nat) : Int) < 128 by omega), decide_eq_true (show ((m % 128 : Nat) : Int) ≥ 112 by omega)] at hb
    exact Runs.piece okFC mx hb rfl (by rfl) tail
  · rw [if_neg (by rw [ht]; omega)]
    have hb := f_a Ck w b m
    rw [ht, Int.toNat_natCast, decide_eq_true (show 0 ≤ ((m % 128 : Nat) : Int) by omega), decide_eq_true (show m % 128 ≤ 128 ∧ 128 ≤ 128 by omega), decide_eq_true (show 0 ≤ ((m % 128 : Nat) : Int) ∧ ((m % 128 : Nat) : Int) < 128 by omega), decide_eq_false (show ¬ ((m % 128 : Nat) : Int) ≥ 112 by omega)] at hb
    exact Runs.piece okFC mx hb rfl (by rfl) tail
end HFin

def TWrite (vs : List V1) (hl : Heap) : Tree (SV × Heap) :=
  match vs, hl with
  | [.c (.ptr 0 0 0 0 0 0), .c (.ro (.int .u8) xs len)], [.vals [.ws .u64 8 w, .ws .u8 128 b, .c (.int _ .i64 n), .c (.bool _ true)]] =>
    Tree.chk (decide (0 ≤ n ∧ n ≤ 1125899906842624) && decide (len ≤ 1099511627776)) (.ret (.tup [], [hs (wr Ck len w b n xs len).1 (wr Ck len w b n xs len).2.1 (wr Ck len w b n xs len).2.2]))
  | _, _ => .fail
theorem ok_hWrite : EntryOk Tryd.prog G1 104 TWrite := by
  refine EntryOk.unlitHRuns (S := FC Ck) (fn := Tryd.f104) (c := cd Tryd.f104) (by kernel_rfl) (by kernel_rfl) (by kernel_rfl) (fun vs hl r hl' ok okh h => ?_)
  unfold TWrite at h
  split at h
  · rename_i xs len w b l n l'
    obtain ⟨h1, h2⟩ := val_chk h
    rw [Bool.and_eq_true] at h1
    have h3 := of_decide_eq_true h1.1
    have h4 := of_decide_eq_true h1.2
    obtain ⟨rfl, rfl⟩ := Prod.mk.inj (val_ret h2)
    obtain ⟨m, rfl⟩ : ∃ m : Nat, n = m := ⟨n.toNat, by omega⟩
    exact HWr.runs (xs := xs) ok.2.1.1 (by omega)
  · cases h
def TFin (vs : List V1) (hl : Heap) : Tree (SV × Heap) :=
  match vs, hl with
  | [.c (.ptr 0 0 0 0 0 0)], [.vals [.ws .u64 8 w, .ws .u8 128 b, .c (.int _ .i64 n), .c (.bool _ true)]] => Tree.chk (decide (0 ≤ n)) (.ret (.one (.g [.ws .u8 64 (finV Ck w b n)]), [hs w b n]))
  | _, _ => .fail
theorem ok_hFin : EntryOk Tryd.prog G1 105 TFin := by
  refine EntryOk.unlitHRuns (S := FC Ck) (fn := Tryd.f105) (c := cd Tryd.f105) (by kernel_rfl) (by kernel_rfl) (by kernel_rfl) (fun vs hl r hl' ok okh h => ?_)
  unfold TFin at h
  split at h
  · rename_i w b l n l'
    obtain ⟨h1, h2⟩ := val_chk h
    have h3 := of_decide_eq_true h1
    obtain ⟨rfl, rfl⟩ := Prod.mk.inj (val_ret h2)
    obtain ⟨m, rfl⟩ : ∃ m : Nat, n = m := ⟨n.toNat, by omega⟩
    exact HFin.runs
  · cases h
noncomputable def F5 : Tab := (F4.put 104 0 TWrite).put 105 0 TFin
theorem okF5 : SpecOk Tryd.prog F5 := (okF4.put ok_hWrite).put ok_hFin
end Go.Sc

namespace Go.Sc
open Go Go.SX Go.Proofs

/-! ### number -/
def b8L (x : Int) : List Int :=
  [u8 (((((((x.fdiv 256).fdiv 256).fdiv 256).fdiv 256).fdiv 256).fdiv 256).fdiv 256), u8 ((((((x.fdiv 256).fdiv 256).fdiv 256).fdiv 256).fdiv 256).fdiv 256), u8 (((((x.fdiv 256).fdiv 256).fdiv 256).fdiv 256).fdiv 256),
    u8 ((((x.fdiv 256).fdiv 256).fdiv 256).fdiv 256), u8 (((x.fdiv 256).fdiv 256).fdiv 256), u8 ((x.fdiv 256).fdiv 256), u8 (x.fdiv 256), u8 x]
theorem fdiv256 (x : Int) : x.fdiv 256 = x / 256 := Int.fdiv_eq_ediv_of_nonneg x (by decide)
theorem b8L_eq (x : Int) : b8L x = be8 x := by
  unfold b8L be8
  simp only [fdiv256, u8_eq]
  have e : ∀ j, (fun j => x / 2 ^ (56 - 8 * j) % 256) j = x / 2 ^ (56 - 8 * j) % 256 := fun _ => rfl
  show _ = [x / 2 ^ (56 - 8 * 0) % 256, x / 2 ^ (56 - 8 * 1) % 256, x / 2 ^ (56 - 8 * 2) % 256, x / 2 ^ (56 - 8 * 3) % 256, x / 2 ^ (56 - 8 * 4) % 256, x / 2 ^ (56 - 8 * 5) % 256, x / 2 ^ (56 - 8 * 6) % 256, x / 2 ^ (56 - 8 * 7) % 256]
  have p0 : (2 : Int) ^ (56 - 8 * 0) = 72057594037927936 := by decide
  have p1 : (2 : Int) ^ (56 - 8 * 1) = 281474976710656 := by decide
  have p2 : (2 : Int) ^ (56 - 8 * 2) = 1099511627776 := by decide
  have p3 : (2 : Int) ^ (56 - 8 * 3) = 4294967296 := by decide
  have p4 : (2 : Int) ^ (56 - 8 * 4) = 16777216 := by decide
  have p5 : (2 : Int) ^ (56 - 8 * 5) = 65536 := by decide
  have p6 : (2 : Int) ^ (56 - 8 * 6) = 256 := by decide
  have p7 : (2 : Int) ^ (56 - 8 * 7) = 1 := by decide
  rw [p0, p1, p2, p3, p4, p5, p6, p7]
  simp only [List.cons.injEq, and_true, Int.ediv_one]
  repeat' apply And.intro
  all_goals first | rfl | omega
def Tnumber (vs : List V1) (hl : Heap) : Tree (SV × Heap) :=
  match vs, hl with
  | [.c (.int _ .u64 x), .c (.int true .i64 k)], [] => Tree.chk (decide (k = 8)) (.ret (.one (.c (.sl 0 0 8)), [.arr (.int .u8) (be8 x) 0 []]))
  | _, _ => .fail
theorem number_b (l : Bool) (x : Int) : (bodyT F5 Tryd.prog allLoops Tryd.f107 (cd Tryd.f107) [.c (.int l .u64 x), .c (.int true .i64 8)] []).path [true, true, true, true, true, true, true, true, true] =
    some ([true, true, true, true, true, true, true, true, true], .one (.c (.sl 0 0 8)), [.arr (.int .u8) (b8L x) 0 []]) := by
  cases l <;> kernel_rfl
theorem ok_number : EntryOk Tryd.prog G1 107 Tnumber := by
  refine EntryOk.sub (bodyT_ok okF5 mx (un := allLoops) (fn := Tryd.f107) (c := cd Tryd.f107) (by kernel_rfl) (by kernel_rfl) (by kernel_rfl)) (fun vs hl r ok h => ?_)
  unfold Tnumber at h
  split at h
  · rename_i l x k
    obtain ⟨h1, h2⟩ := val_chk h
    obtain rfl := of_decide_eq_true h1
    obtain rfl := val_ret h2
    have hp := number_b l x
    rw [b8L_eq] at hp
    exact Tree.path_val hp
  · cases h

/-! ### the hash of parts -/
abbrev BB : DTy := .sl (.int .u8)
def joined (xss : List (List Int × Nat)) : List Int := (xss.map fun p => p.1.take p.2).flatten
theorem joined_succ {xss : List (List Int × Nat)} {i : Nat} (h : i < xss.length) : joined (xss.take (i + 1)) = joined (xss.take i) ++ (xss.getD i ([], 0)).1.take (xss.getD i ([], 0)).2 := by
  unfold joined
  rw [List.take_succ_eq_append_getElem h, List.map_append, List.flatten_append, List.getD_eq_getElem?_getD, List.getElem?_eq_getElem h]
  simp
theorem joined_le {xss : List (List Int × Nat)} : ∀ i, (joined (xss.take i)).length ≤ (joined xss).length := by
  intro i
  unfold joined
  rw [List.map_take]
  have := List.take_append_drop i (xss.map fun p => p.1.take p.2)
  conv => rhs; rw [← this, List.flatten_append, List.length_append]
  omega
namespace HSm
noncomputable def rS (k : List Item) (s : St) : Tree Out := runK F5 Tryd.prog noLoops 400 k s
noncomputable def sS (xss : List (List Int × Nat)) (n : Nat) : St := ⟨enterT Tryd.f93 [.c (.ro BB xss n)], []⟩
noncomputable def KS : List Item := leftT [] (rS [.code (cd Tryd.f93)] (sS [] 0))
def hsL (l l' : Bool) (w b : List Int) (n : Int) : Blk := .vals [.ws .u64 8 w, .ws .u8 128 b, .c (.int l .i64 n), .c (.bool l' true)]
noncomputable def stS (xss : List (List Int × Nat)) (n : Nat) (l l' : Bool) (w b : List Int) (m i : Int) : St := ⟨slotsOf 19 [(2, pt 0), (3, pt 1), (6, pt 1), (7, one (.ro BB xss n)), (8, one (.int false .i64 n)), (9, one (.int false .i64 i))], [.vals [.ws .u8 64 (List.replicate 64 0)], hsL l l' w b m]⟩
theorem s_a (xss : List (List Int × Nat)) (n : Nat) : pieceT [2, 3, 6, 7, 8, 9] [9] [0, 1] [] (rS [.code (cd Tryd.f93)] (sS xss n)) = some ([], KS, stS xss n true true iT (List.replicate 128 0) 0 (0 : Nat)) := by kernel_rfl
theorem s_b (xss : List (List Int × Nat)) (n : Nat) (l l' : Bool) (w b : List Int) (m : Int) (i : Nat) : pieceT [2, 3, 6, 7, 8, 9] [9] [0, 1] [true, true, true] (rS KS (stS xss n l l' w b m i)) =
    some ([decide ((i : Int) < n), decide (0 ≤ (i : Int) ∧ (i : Int) < n), decide (0 ≤ m ∧ m ≤ 1125899906842624) && decide ((xss.getD i ([], 0)).2 ≤ 1099511627776)], KS,
      stS xss n false false (wr Ck (xss.getD i ([], 0)).2 w b m (xss.getD i ([], 0)).1 (xss.getD i ([], 0)).2).1 (wr Ck (xss.getD i ([], 0)).2 w b m (xss.getD i ([], 0)).1 (xss.getD i ([], 0)).2).2.1
        (wr Ck (xss.getD i ([], 0)).2 w b m (xss.getD i ([], 0)).1 (xss.getD i ([], 0)).2).2.2 (iw ((i : Int) + 1))) := by kernel_rfl
theorem s_c (xss : List (List Int × Nat)) (n : Nat) (l l' : Bool) (w b : List Int) (m : Int) (i : Nat) : endT Tryd.prog Tryd.f93 [] [false, true] (rS KS (stS xss n l l' w b m i)) =
    some ([decide ((i : Int) < n), decide (0 ≤ m)], .one (.g [.ws .u8 64 (finV Ck w b m)]), []) := by kernel_rfl
theorem runs {xss : List (List Int × Nat)} {n : Nat} (hn : n = xss.length) (hx : ∀ p ∈ xss, p.2 ≤ p.1.length) (hj : (joined xss).length ≤ 1099511627776) (hn2 : n ≤ 1099511627776) :
    Runs Tryd.prog F5 Tryd.f93 0 [.code (cd Tryd.f93)] (sS xss n) (.one (.g [.ws .u8 64 (sha kT iT (joined xss))])) [] := by
  refine Runs.piece okF5 mx (s_a xss n) rfl (by rfl) ?_
  refine loopG (α := Bool × Bool × List Int × List Int × Int) (st := fun i a => stS xss n a.1 a.2.1 a.2.2.1 a.2.2.2.1 a.2.2.2.2 i) (I := fun i a => Holds kT iT (joined (xss.take i)) a.2.2.1 a.2.2.2.1 a.2.2.2.2) (n := n)
    (fun i a hi hI => ?_) (fun a hI => ?_) n 0 (true, true, iT, List.replicate 128 0, 0) (by omega) ?_
  · obtain ⟨l, l', w, b, m⟩ := a
    have hI : Holds kT iT (joined (xss.take i)) w b m := hI
    have hil : i < xss.length := by omega
    have hmem : xss.getD i ([], 0) ∈ xss := by
      rw [List.getD_eq_getElem?_getD, List.getElem?_eq_getElem hil]; exact List.getElem_mem hil
    have hp := hx _ hmem
    have hle : (joined (xss.take (i + 1))).length ≤ (joined xss).length := joined_le (i + 1)
    have hle0 : (joined (xss.take i)).length ≤ (joined xss).length := joined_le i
    rw [joined_succ hil, List.length_append, List.length_take] at hle
    have hs := wr_holds (K := kT) (h0 := iT) (xss.getD i ([], 0)).2 _ _ _ (xss.getD i ([], 0)).1 _ (xss.getD i ([], 0)).2 hI hp (Nat.le_refl _)
    rw [← joined_succ hil] at hs
    refine ⟨(false, false, _, _, _), hs, fun hr => ?_⟩
    have hb := s_b xss n l l' w b m i
    have hm := hI.hn
    rw [iwk (by omega), decide_eq_true (show (i : Int) < n by omega), decide_eq_true (show 0 ≤ (i : Int) ∧ (i : Int) < n by omega), decide_eq_true (show 0 ≤ m ∧ m ≤ 1125899906842624 by omega), decide_eq_true (show (xss.getD i ([], 0)).2 ≤ 1099511627776 by omega)] at hb
    exact Runs.piece okF5 mx hb rfl (by rfl) hr
  · obtain ⟨l, l', w, b, m⟩ := a
    have hI : Holds kT iT (joined (xss.take n)) w b m := hI
    rw [List.take_of_length_le (by omega)] at hI
    have hm := hI.hn
    have hc := s_c xss n l l' w b m n
    have he : finV Ck w b m = sha kT iT (joined xss) := fin_sha hI (by omega)
    rw [decide_eq_false (show ¬ (n : Int) < n by omega), decide_eq_true (show 0 ≤ m by omega), he] at hc
    exact Runs.last okF5 mx hc rfl (by rfl)
  · have h0 : joined (xss.take 0) = [] := by rw [List.take_zero]; rfl
    show Holds kT iT (joined (xss.take 0)) iT (List.replicate 128 0) 0
    rw [h0]
    exact ⟨rfl, rfl, by rw [List.length_replicate], fun i hi => by cases hi⟩
end HSm
def THSum (vs : List V1) (hl : Heap) : Tree (SV × Heap) :=
  match vs, hl with
  | [.c (.ro (.sl (.int .u8)) xss n)], [] => Tree.chk (decide (n = List.length (α := List Int × Nat) xss) && decide (n ≤ 1099511627776) && decide ((joined xss).length ≤ 1099511627776)) (.ret (.one (.g [.ws .u8 64 (sha kT iT (joined xss))]), []))
  | _, _ => .fail
theorem ok_HSum : EntryOk Tryd.prog G1 93 THSum := by
  refine EntryOk.runs (S := F5) (fn := Tryd.f93) (c := cd Tryd.f93) (by kernel_rfl) (by kernel_rfl) (by kernel_rfl) (fun vs hl r hl' ok h => ?_)
  unfold THSum at h
  split at h
  · rename_i xss n
    obtain ⟨h1, h2⟩ := val_chk h
    rw [Bool.and_eq_true, Bool.and_eq_true] at h1
    have q1 := of_decide_eq_true h1.1.1
    have q2 := of_decide_eq_true h1.1.2
    have q3 := of_decide_eq_true h1.2
    obtain ⟨rfl, rfl⟩ := Prod.mk.inj (val_ret h2)
    exact HSm.runs q1 (fun p hp => (ok.1.2 p hp).1) q3 q2
  · cases h
noncomputable def F6 : Tab := (F5.put 107 1 Tnumber).put 93 0 THSum
theorem okF6 : SpecOk Tryd.prog F6 := (okF5.put ok_number).put ok_HSum
end Go.Sc

namespace Go.Sc
open Go Go.SX Go.Proofs

def TC3 (C : List Int → List Int → Nat → List Int) (vs : List V1) (hl : Heap) : Tree (SV × Heap) :=
  match vs, hl with
  | [.g [.ws .u64 8 w], .c (.ro (.int .u8) xs len), .c (.int _ .i64 a)], [] => Tree.chk (decide (0 ≤ a ∧ a ≤ 1099000000000) && decide (a.toNat + 128 ≤ len)) (.ret (.one (.g [.ws .u64 8 (C w xs a.toNat)]), []))
  | _, _ => .fail
noncomputable def FD (C : List Int → List Int → Nat → List Int) : Tab := F6.put 108 0 (TC3 C)
def Cd (w xs : List Int) (a : Nat) : List Int := cmp5 kT w xs a
theorem okFD : SpecOk Tryd.prog (FD Cd) := okF6.put ok_3take

namespace HRf
abbrev C3 := List Int → List Int → Nat → List Int
noncomputable def rQ (C : C3) (k : List Item) (s : St) : Tree Out := runK (FD C) Tryd.prog noLoops 400 k s
noncomputable def rQA (C : C3) (k : List Item) (s : St) : Tree Out := runK (FD C) Tryd.prog allLoops 4000 k s
noncomputable def sQ (xs : List Int) (n : Nat) : St := ⟨enterT Tryd.f98 [.c (.ro B1 xs n)], []⟩
noncomputable def KQ : List Item := leftT [true, true] (rQ (fun w _ _ => w) [.code (cd Tryd.f98)] (sQ [] 0))
def z64 : Blk := .vals [.ws .u8 64 (List.replicate 64 0)]
noncomputable def stQ (xs ys : List Int) (n l : Nat) : St := ⟨slotsOf 65 [(0, one (.ro B1 xs n)), (2, pt 0), (3, one (.sl 1 0 l))], [z64, .arr B1 ys 0 []]⟩
noncomputable def KQ2 : List Item := leftT [false, true, true, true, true] (rQ (fun w _ _ => w) KQ (stQ [] [] 0 0))
noncomputable def stR (all h : List Int) (l : Nat) (a : Int) : St := ⟨slotsOf 65 [(2, pt 0), (3, one (.sl 1 0 l)), (4, pt 2), (5, one (.int false .i64 a))], [z64, .arr B1 all 0 [], .vals [.ws .u64 8 h]]⟩
noncomputable def rm (n : Nat) : Bool := SX.room n 1 && SX.room n 1
def allL (ys : List Int) (n : Nat) : List Int := (ys ++ ((be8 0).drop 0).take 8) ++ ((be8 (um64 (8 * um64 n))).drop 0).take 8
theorem q_a (C : C3) (xs : List Int) (n : Nat) : pieceT [0, 2, 3] [] [0, 3] [true, true] (rQ C [.code (cd Tryd.f98)] (sQ xs n)) =
    some ([rm (xs.take n).length, decide ((xs.take n).length = (xs.take n).length) && rm ((xs.take n).length + 1)], KQ, stQ xs (xs.take n ++ [128]) n ((xs.take n).length + 1)) := by kernel_rfl
theorem q_b (C : C3) (xs ys : List Int) (n l : Nat) : pieceT [0, 2, 3] [] [0, 3] [true, true] (rQ C KQ (stQ xs ys n l)) =
    some ([((l % 128 : Nat) : Int) != 112, decide (l = ys.length) && rm (l + 1)], KQ, stQ xs (ys ++ [0]) n (l + 1)) := by kernel_rfl
theorem q_c (C : C3) (xs ys : List Int) (n l : Nat) : pieceT [2, 3, 4, 5] [5] [0, 6, 7] [false, true, true, true, true] (rQ C KQ (stQ xs ys n l)) =
    some ([((l % 128 : Nat) : Int) != 112, true, decide (l = ys.length) && rm (l + 8), true, decide (l + (((be8 0).drop 0).take 8).length = (ys ++ ((be8 0).drop 0).take 8).length) && rm (l + 8 + 8)],
      KQ2, stR (allL ys n) iT (l + 8 + 8) (0 : Nat)) := by kernel_rfl
theorem q_d (C : C3) (all h : List Int) (l a : Nat) : pieceT [2, 3, 4, 5] [5] [0, 1, 2] [true, true] (rQ C KQ2 (stR all h l a)) =
    some ([decide ((a : Int) < l), decide (0 ≤ (a : Int) ∧ (a : Int) ≤ 1099000000000) && decide (a + 128 ≤ l)], KQ2, stR all (C h (all.drop 0) a) l (iw ((a : Int) + 128))) := by kernel_rfl
def outD (v : List Int) : List Int := (List.range 8).flatMap fun i => (List.range 8).map fun j => (be8 (v.getD i 0)).getD j 0
theorem outD_eq (v : List Int) : outD v = outB v := by
  unfold outD outB
  congr 1
  funext i
  apply List.map_congr_left
  intro j hj
  rw [getD_be8, if_pos (List.mem_range.mp hj), u8_eq, fdiv_powZ]
theorem q_e (C : C3) (all : List Int) (v0 v1 v2 v3 v4 v5 v6 v7 : Int) (l a : Nat) : endT Tryd.prog Tryd.f98 [] (false :: List.replicate 72 true) (rQA C KQ2 (stR all [v0, v1, v2, v3, v4, v5, v6, v7] l a)) =
    some (decide ((a : Int) < l) :: List.replicate 72 true, .one (.g [.ws .u8 64 (outD [v0, v1, v2, v3, v4, v5, v6, v7])]), []) := by kernel_rfl
theorem rm_true {n : Nat} (h : n ≤ 1099511627776) : rm n = true := by
  unfold rm; simp [SX.room]; omega
theorem runs2 {all : List Int} {T : Nat} (ht : T = 128 * (T / 128)) (hl : all.length = T) (hb : T ≤ 1098000000000) : Runs Tryd.prog (FD Cd) Tryd.f98 0 KQ2 (stR all iT T (0 : Nat)) (.one (.g [.ws .u8 64 (outB (hbn kT iT all (T / 128)))])) [] := by
  refine loopG (st := fun k (h : List Int) => stR all h T ((128 * k : Nat) : Int)) (I := fun k h => h = hbn kT iT all k) (n := T / 128) (fun k h hk hI => ?_) (fun h hI => ?_) (T / 128) 0 iT (by omega) rfl
  · subst hI
    refine ⟨_, rfl, fun hr => ?_⟩
    have hd := q_d Cd all (hbn kT iT all k) T (128 * k)
    have e : iw (((128 * k : Nat) : Int) + 128) = ((128 * (k + 1) : Nat) : Int) := by
      rw [show ((128 * k : Nat) : Int) + 128 = ((128 * (k + 1) : Nat) : Int) by omega]; exact wrap64 (by omega)
    rw [e, List.drop_zero, decide_eq_true (show ((128 * k : Nat) : Int) < T by omega), decide_eq_true (show 0 ≤ ((128 * k : Nat) : Int) ∧ ((128 * k : Nat) : Int) ≤ 1099000000000 by omega), decide_eq_true (show 128 * k + 128 ≤ T by omega)] at hd
    exact Runs.piece okFD mx hd rfl (by rfl) hr
  · have hI : h = hbn kT iT all (T / 128) := hI
    have hv := hbn_len kT iT all iT_len (T / 128)
    rw [← hI] at hv ⊢
    obtain ⟨v0, v1, v2, v3, v4, v5, v6, v7, rfl⟩ := eightZ hv
    have he := q_e Cd all v0 v1 v2 v3 v4 v5 v6 v7 T (128 * (T / 128))
    rw [outD_eq, decide_eq_false (show ¬ ((128 * (T / 128) : Nat) : Int) < T by omega)] at he
    exact Runs.last okFD mx he rfl (by rfl)
theorem runs {xs : List Int} {n : Nat} (hn : n ≤ xs.length) (hb : n ≤ 1097000000000) : Runs Tryd.prog (FD Cd) Tryd.f98 0 [.code (cd Tryd.f98)] (sQ xs n) (.one (.g [.ws .u8 64 (sha kT iT (xs.take n))])) [] := by
  have hl : (xs.take n).length = n := by rw [List.length_take]; omega
  have ha := q_a Cd xs n
  rw [hl, rm_true (by omega), rm_true (by omega), decide_eq_true (rfl : n = n)] at ha
  refine Runs.piece okFD mx ha rfl (by rfl) ?_
  refine loopG (st := fun k (_ : Unit) => stQ xs (xs.take n ++ 128 :: List.replicate k 0) n (n + 1 + k)) (I := fun _ _ => True) (n := zN n) (fun k a hk _ => ⟨(), trivial, fun hr => ?_⟩) (fun _ _ => ?_) (zN n) 0 () (by omega) trivial
  · have hq := q_b Cd xs (xs.take n ++ 128 :: List.replicate k 0) n (n + 1 + k)
    have hlen : (xs.take n ++ 128 :: List.replicate k 0).length = n + 1 + k := by rw [List.length_append, List.length_cons, List.length_replicate, hl]; omega
    have hz : k < (239 - n % 128) % 128 := hk
    have hne : ((((n + 1 + k) % 128 : Nat) : Int) != 112) = true := bne_iff_ne.mpr (by omega)
    have happ : (xs.take n ++ 128 :: List.replicate k 0) ++ [0] = xs.take n ++ 128 :: List.replicate (k + 1) 0 := by
      rw [List.append_assoc, List.cons_append, ← List.replicate_succ']
    rw [hne, hlen, happ, rm_true (by omega), decide_eq_true (rfl : n + 1 + k = n + 1 + k)] at hq
    exact Runs.piece okFD mx hq rfl (by rfl) hr
  · have hq := q_c Cd xs (xs.take n ++ 128 :: List.replicate (zN n) 0) n (n + 1 + zN n)
    have hlen : (xs.take n ++ 128 :: List.replicate (zN n) 0).length = n + 1 + zN n := by rw [List.length_append, List.length_cons, List.length_replicate, hl]; omega
    have hz : zN n = (239 - n % 128) % 128 := rfl
    have hne : ((((n + 1 + zN n) % 128 : Nat) : Int) != 112) = false := by
      rw [show (n + 1 + zN n) % 128 = 112 by omega]; rfl
    have e0 : ((be8 0).drop 0).take 8 = List.replicate 8 0 := by decide
    have e8 : ((be8 (um64 (8 * um64 n))).drop 0).take 8 = be8 (8 * (n : Int)) := by
      have ew : um64 (8 * um64 (n : Int)) = 8 * (n : Int) := by
        unfold um64
        rw [wrapU, wrapU]; omega
      rw [ew, List.drop_zero, List.take_of_length_le (by rw [be8_len]; exact Nat.le_refl _)]
    have eall : allL (xs.take n ++ 128 :: List.replicate (zN n) 0) n = padded (xs.take n) := by
      unfold allL padded
      rw [e0, e8, hl]
    rw [eall, hne, e0, hlen, List.length_append, hlen, List.length_replicate, rm_true (by omega), rm_true (by omega), decide_eq_true (rfl : n + 1 + zN n = n + 1 + zN n), decide_eq_true (rfl : n + 1 + zN n + 8 = n + 1 + zN n + 8)] at hq
    refine Runs.piece okFD mx hq rfl (by rfl) ?_
    have hT : (padded (xs.take n)).length = n + 1 + zN n + 8 + 8 := by rw [padded_len, hl]; omega
    have := runs2 (all := padded (xs.take n)) (T := n + 1 + zN n + 8 + 8) (by omega) hT (by omega)
    unfold sha
    rw [hT]
    exact this
end HRf
def THash (vs : List V1) (hl : Heap) : Tree (SV × Heap) :=
  match vs, hl with
  | [.c (.ro (.int .u8) xs n)], [] => Tree.chk (decide (n ≤ 1097000000000)) (.ret (.one (.g [.ws .u8 64 (sha kT iT (List.take (α := Int) n xs))]), []))
  | _, _ => .fail
theorem ok_Hash : EntryOk Tryd.prog G1 98 THash := by
  refine EntryOk.runs (S := FD Cd) (fn := Tryd.f98) (c := cd Tryd.f98) (by kernel_rfl) (by kernel_rfl) (by kernel_rfl) (fun vs hl r hl' ok h => ?_)
  unfold THash at h
  split at h
  · rename_i xs n
    obtain ⟨h1, h2⟩ := val_chk h
    have h1 := of_decide_eq_true h1
    obtain ⟨rfl, rfl⟩ := Prod.mk.inj (val_ret h2)
    exact HRf.runs (xs := xs) ok.1.1 h1
  · cases h
noncomputable def F7 : Tab := F6.put 98 0 THash
theorem okF7 : SpecOk Tryd.prog F7 := okF6.put ok_Hash
end Go.Sc
