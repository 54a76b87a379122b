/-
  Contracts of the document's scalars, part 1: sums, differences, comparison.
  Contracts of the document's scalars, part 2: a step of the division.
  Contracts of the document's scalars, part 3: words, Least, Wide.
  Contracts of the document's scalars, part 4: Tape.
  Contracts of the document's scalars, part 5: sums, differences.
  Contracts of the document's scalars, part 6: products.
  Contracts of the document's scalars, part 7: powers.
-/
import Derived.Test.YticfnbhbpcpgeaaDoorSc
import Derived.Test.YticfnbhbpcpgeaaDoorAr
namespace Go.Sc
open Go Go.SX Go.Proofs

def Trl (vs : List V1) (hl : Heap) : Tree (SV × Heap) :=
  match vs, hl with
  | [], [] => .ret (.one (ws tab0), [])
  | _, _ => .fail
theorem b_rl : (bodyT C11 Tryd.prog allLoops Tryd.f39 (cd Tryd.f39) [] []).path [] = some ([], .one (ws tab0), []) := by kernel_rfl
theorem ok_rl : EntryOk Tryd.prog G0 39 Trl := by
  refine EntryOk.sub (bodyT_ok okC11 mx (un := allLoops) (fn := Tryd.f39) (c := cd Tryd.f39) (by kernel_rfl) (by kernel_rfl) (by kernel_rfl)) (fun vs hl r ok h => ?_)
  unfold Trl at h
  split at h
  · obtain rfl := val_ret h
    exact Tree.path_val b_rl
  · cases h

/-! ### below -/
def Tbelow (vs : List V1) (hl : Heap) : Tree (SV × Heap) :=
  match vs, hl with
  | [.g [.ws .u64 4 xs], .g [.ws .u64 4 ys]], [] => .ret (.one (.c (.bool false (decide (val xs < val ys)))), [])
  | _, _ => .fail
theorem below_1 (a b c d a' b' c' d' : Int) : (bodyT C11 Tryd.prog allLoops Tryd.f38 (cd Tryd.f38) [ws [a, b, c, d], ws [a', b', c', d']] []).path [true] = some ([d != d'], .one (.c (.bool false (decide (d < d')))), []) := by kernel_rfl
theorem below_2 (a b c d a' b' c' d' : Int) : (bodyT C11 Tryd.prog allLoops Tryd.f38 (cd Tryd.f38) [ws [a, b, c, d], ws [a', b', c', d']] []).path [false, true] = some ([d != d', c != c'], .one (.c (.bool false (decide (c < c')))), []) := by kernel_rfl
theorem below_3 (a b c d a' b' c' d' : Int) : (bodyT C11 Tryd.prog allLoops Tryd.f38 (cd Tryd.f38) [ws [a, b, c, d], ws [a', b', c', d']] []).path [false, false, true] = some ([d != d', c != c', b != b'], .one (.c (.bool false (decide (b < b')))), []) := by kernel_rfl
theorem below_4 (a b c d a' b' c' d' : Int) : (bodyT C11 Tryd.prog allLoops Tryd.f38 (cd Tryd.f38) [ws [a, b, c, d], ws [a', b', c', d']] []).path [false, false, false, true] = some ([d != d', c != c', b != b', a != a'], .one (.c (.bool false (decide (a < a')))), []) := by kernel_rfl
theorem below_5 (a b c d a' b' c' d' : Int) : (bodyT C11 Tryd.prog allLoops Tryd.f38 (cd Tryd.f38) [ws [a, b, c, d], ws [a', b', c', d']] []).path [false, false, false, false] = some ([d != d', c != c', b != b', a != a'], .one (.c (.bool true false)), []) := by kernel_rfl
theorem ne_yes {a b : Int} (h : a ≠ b) : (a != b) = true := by simpa using h
theorem ne_no {a : Int} : (a != a) = false := by simp
theorem ok_rbelow : EntryOk Tryd.prog G0 38 Tbelow := by
  refine EntryOk.subU (bodyT_ok okC11 mx (un := allLoops) (fn := Tryd.f38) (c := cd Tryd.f38) (by kernel_rfl) (by kernel_rfl) (by kernel_rfl)) (fun vs hl r ok h => ?_)
  unfold Tbelow at h
  split at h
  · rename_i xs ys
    obtain rfl := val_ret h
    obtain ⟨a, b, c, d, rfl, ha, hb, hc, hd⟩ := okL_get (show okL xs from ok.1.1)
    obtain ⟨a', b', c', d', rfl, ha', hb', hc', hd'⟩ := okL_get (show okL ys from ok.2.1.1)
    by_cases h4 : d = d'
    · subst h4
      by_cases h3 : c = c'
      · subst h3
        by_cases h2 : b = b'
        · subst h2
          by_cases h1 : a = a'
          · subst h1
            have hp := below_5 a b c d a b c d
            rw [ne_no, ne_no, ne_no, ne_no] at hp
            refine ⟨_, Tree.path_val hp, ?_⟩
            rw [decide_eq_false (by omega)]; rfl
          · have hp := below_4 a b c d a' b c d
            rw [ne_no, ne_no, ne_no, ne_yes h1] at hp
            refine ⟨_, Tree.path_val hp, ?_⟩
            have : (val [a, b, c, d] < val [a', b, c, d]) ↔ a < a' := by rw [val4, val4]; omega
            rw [decide_eq_decide.mpr this]; rfl
        · have hp := below_3 a b c d a' b' c d
          rw [ne_no, ne_no, ne_yes h2] at hp
          refine ⟨_, Tree.path_val hp, ?_⟩
          have : (val [a, b, c, d] < val [a', b', c, d]) ↔ b < b' := by rw [val4, val4]; omega
          rw [decide_eq_decide.mpr this]; rfl
      · have hp := below_2 a b c d a' b' c' d
        rw [ne_no, ne_yes h3] at hp
        refine ⟨_, Tree.path_val hp, ?_⟩
        have : (val [a, b, c, d] < val [a', b', c', d]) ↔ c < c' := by rw [val4, val4]; omega
        rw [decide_eq_decide.mpr this]; rfl
    · have hp := below_1 a b c d a' b' c' d'
      rw [ne_yes h4] at hp
      refine ⟨_, Tree.path_val hp, ?_⟩
      have : (val [a, b, c, d] < val [a', b', c', d']) ↔ d < d' := by rw [val4, val4]; omega
      rw [decide_eq_decide.mpr this]; rfl
  · cases h

/-! ### plus, minus -/
def bitI (b : Bool) : Int := match b with | true => 1 | false => 0
theorem fill_set {α : Type} {L : List α} {n k : Nat} {z x : α} (hl : L.length = n) (h : k < n) (hx : L[k]? = some x) : (L.take k ++ List.replicate (n - k) z).set k x = L.take (k + 1) ++ List.replicate (n - (k + 1)) z := by
  have e : n - k = (n - (k + 1)) + 1 := by omega
  rw [e, List.replicate_succ, List.set_append_right _ _ (by rw [List.length_take]; omega), List.length_take, Nat.min_eq_left (by omega), Nat.sub_self, List.take_succ_eq_append_getElem (by omega), List.append_assoc]
  have : L[k] = x := by rw [List.getElem?_eq_getElem (by omega)] at hx; exact Option.some.inj hx
  rw [this]; rfl

noncomputable def rP (k : List Item) (s : St) : Tree Out := runK C11 Tryd.prog noLoops 400 k s
noncomputable def sP (xs ys : List Int) : St := ⟨enterT Tryd.f37 [ws xs, ws ys], []⟩
noncomputable def KP : List Item := leftT [] (rP [.code (cd Tryd.f37)] (sP [] []))
noncomputable def stP (xs ys out : List Int) (c i : Int) : St := ⟨slotsOf 40 [(2, pt 0), (3, pt 1), (4, pt 2), (6, pt 3), (7, one (.int false .u64 c)), (8, one (.int false .i64 i))], [.vals [.ws .u64 4 xs], .vals [.ws .u64 4 ys], .vals [.ws .u64 4 [0, 0, 0, 0]], .vals [.ws .u64 4 out]]⟩
theorem rp_a (xs ys : List Int) : pieceT [2, 3, 4, 6, 7, 8] [7, 8] [0, 1, 2, 3] [] (rP [.code (cd Tryd.f37)] (sP xs ys)) = some ([], KP, stP xs ys [0, 0, 0, 0] 0 (0 : Nat)) := by kernel_rfl
theorem rp_b (xs ys out : List Int) (c : Int) (i : Nat) (b1 b2 : Bool) : pieceT [2, 3, 4, 6, 7, 8] [7, 8] [0, 1, 2, 3] [true, true, true, true, b1, b2, true] (rP KP (stP xs ys out c i)) =
    some ([decide ((i : Int) < 4), decide (0 ≤ (i : Int) ∧ (i : Int) < 4), decide (0 ≤ (i : Int) ∧ (i : Int) < 4), decide (0 ≤ (i : Int) ∧ (i : Int) < 4), decide (um (xs.getD i 0 + ys.getD i 0) < xs.getD i 0), decide (um (um (xs.getD i 0 + ys.getD i 0) + c) < um (xs.getD i 0 + ys.getD i 0)), decide (0 ≤ (i : Int) ∧ (i : Int) < 4)],
      KP, stP xs ys (out.set i (um (um (xs.getD i 0 + ys.getD i 0) + c))) (bitI (b1 || b2)) (IntKind.i64.wrap ((i : Int) + 1))) := by
  cases b1 <;> cases b2 <;> kernel_rfl
theorem rp_c (xs ys out : List Int) (c : Int) (i : Nat) : endT Tryd.prog Tryd.f37 [] [false] (rP KP (stP xs ys out c i)) = some ([decide ((i : Int) < 4)], .tup [ws out, .c (.int false .u64 c)], []) := by kernel_rfl
theorem getR {xs : List Int} (h : okL xs) {i : Nat} (hi : i < 4) : R (xs.getD i 0) := by
  obtain ⟨a, b, c, d, rfl, ha, hb, hc, hd⟩ := okL_get h
  have : i = 0 ∨ i = 1 ∨ i = 2 ∨ i = 3 := by omega
  rcases this with rfl | rfl | rfl | rfl <;> assumption
theorem plus_dig {x y c : Int} (hx : R x) (hy : R y) (hc : 0 ≤ c ∧ c ≤ 1) : um (um (x + y) + c) = (x + y + c) % 18446744073709551616 ∧ bitI (decide (um (x + y) < x) || decide (um (um (x + y) + c) < um (x + y))) = (x + y + c) / 18446744073709551616 := by
  unfold um R at *
  rw [wrapU, wrapU]
  refine ⟨by omega, ?_⟩
  by_cases h1 : (x + y) % 18446744073709551616 < x
  · rw [decide_eq_true h1]
    show (1 : Int) = _
    omega
  · rw [decide_eq_false h1, Bool.false_or]
    by_cases h2 : ((x + y) % 18446744073709551616 + c) % 18446744073709551616 < (x + y) % 18446744073709551616
    · rw [decide_eq_true h2]
      show (1 : Int) = _
      omega
    · rw [decide_eq_false h2]
      show (0 : Int) = _
      omega
theorem rplus_runs {xs ys : List Int} (hx : okL xs) (hy : okL ys) : Runs Tryd.prog C11 Tryd.f37 0 [.code (cd Tryd.f37)] (sP xs ys) (.tup [ws (addL xs ys), .c (.int false .u64 (cr xs ys 4))]) [] := by
  refine Runs.piece okC11 mx (rp_a xs ys) rfl (by rfl) ?_
  refine loopG (st := fun k (p : List Int × Int) => stP xs ys p.1 p.2 k) (I := fun k p => p.1 = (addL xs ys).take k ++ List.replicate (4 - k) 0 ∧ p.2 = cr xs ys k) (n := 4) (fun k p hk hI => ?_) (fun p hI => ?_) 4 0 ([0, 0, 0, 0], 0) rfl ⟨rfl, rfl⟩
  · obtain ⟨out, c⟩ := p
    obtain ⟨rfl, rfl⟩ := hI
    obtain ⟨d1, d2⟩ := plus_dig (getR hx hk) (getR hy hk) (cr_le hx hy k (by omega))
    refine ⟨(_, cr xs ys (k + 1)), ⟨(fill_set (x := (xs.getD k 0 + ys.getD k 0 + cr xs ys k) % 18446744073709551616) rfl hk (by
      have : k = 0 ∨ k = 1 ∨ k = 2 ∨ k = 3 := by omega
      rcases this with rfl | rfl | rfl | rfl <;> rfl)), rfl⟩, fun hr => ?_⟩
    have hb := rp_b xs ys ((addL xs ys).take k ++ List.replicate (4 - k) 0) (cr xs ys k) k (decide (um (xs.getD k 0 + ys.getD k 0) < xs.getD k 0)) (decide (um (um (xs.getD k 0 + ys.getD k 0) + cr xs ys k) < um (xs.getD k 0 + ys.getD k 0)))
    rw [wsucc (by omega), d2, d1] at hb
    refine Runs.piece okC11 mx hb ?_ (by rfl) hr
    rw [decide_eq_true (by omega), decide_eq_true (by omega)]
  · obtain ⟨out, c⟩ := p
    obtain ⟨rfl, rfl⟩ := hI
    exact Runs.last okC11 mx (rp_c xs ys _ (cr xs ys 4) 4) rfl (by rfl)
theorem ok_rplus : EntryOk Tryd.prog G0 37 Tplus := by
  refine EntryOk.runs (S := C11) (fn := Tryd.f37) (c := cd Tryd.f37) (by kernel_rfl) (by kernel_rfl) (by kernel_rfl) (fun vs hl r hl' ok h => ?_)
  unfold Tplus at h
  split at h
  · rename_i xs ys
    obtain ⟨rfl, rfl⟩ := Prod.mk.inj (val_ret h)
    have hx : okL xs := ok.1.1
    have hy : okL ys := ok.2.1.1
    obtain ⟨e1, e2⟩ := addL_eq hx hy
    rw [← e1, ← e2]
    exact rplus_runs hx hy
  · cases h

noncomputable def rM (k : List Item) (s : St) : Tree Out := runK C11 Tryd.prog noLoops 400 k s
noncomputable def sM (xs ys : List Int) : St := ⟨enterT Tryd.f40 [ws xs, ws ys], []⟩
noncomputable def KM : List Item := leftT [] (rM [.code (cd Tryd.f40)] (sM [] []))
noncomputable def stM (xs ys out : List Int) (c i : Int) : St := ⟨slotsOf 42 [(2, pt 0), (3, pt 1), (4, pt 2), (6, pt 3), (7, one (.int false .u64 c)), (8, one (.int false .i64 i))], [.vals [.ws .u64 4 xs], .vals [.ws .u64 4 ys], .vals [.ws .u64 4 [0, 0, 0, 0]], .vals [.ws .u64 4 out]]⟩
theorem rm_a (xs ys : List Int) : pieceT [2, 3, 4, 6, 7, 8] [7, 8] [0, 1, 2, 3] [] (rM [.code (cd Tryd.f40)] (sM xs ys)) = some ([], KM, stM xs ys [0, 0, 0, 0] 0 (0 : Nat)) := by kernel_rfl
theorem rm_b (xs ys out : List Int) (c : Int) (i : Nat) (b1 b2 : Bool) : pieceT [2, 3, 4, 6, 7, 8] [7, 8] [0, 1, 2, 3] [true, true, true, true, true, b1, b2, true] (rM KM (stM xs ys out c i)) =
    some ([decide ((i : Int) < 4), decide (0 ≤ (i : Int) ∧ (i : Int) < 4), decide (0 ≤ (i : Int) ∧ (i : Int) < 4), decide (0 ≤ (i : Int) ∧ (i : Int) < 4), decide (0 ≤ (i : Int) ∧ (i : Int) < 4), decide (xs.getD i 0 < ys.getD i 0), decide (um (xs.getD i 0 - ys.getD i 0) < c), decide (0 ≤ (i : Int) ∧ (i : Int) < 4)],
      KM, stM xs ys (out.set i (um (um (xs.getD i 0 - ys.getD i 0) - c))) (bitI (b1 || b2)) (IntKind.i64.wrap ((i : Int) + 1))) := by
  cases b1 <;> cases b2 <;> kernel_rfl
theorem rm_c (xs ys out : List Int) (c : Int) (i : Nat) : endT Tryd.prog Tryd.f40 [] [false] (rM KM (stM xs ys out c i)) = some ([decide ((i : Int) < 4)], .tup [ws out, .c (.int false .u64 c)], []) := by kernel_rfl
theorem minus_dig {x y c : Int} (hx : R x) (hy : R y) (hc : 0 ≤ c ∧ c ≤ 1) : um (um (x - y) - c) = (x - y - c) % 18446744073709551616 ∧ bitI (decide (x < y) || decide (um (x - y) < c)) = if x < y + c then 1 else 0 := by
  unfold um R at *
  rw [wrapU, wrapU]
  refine ⟨by omega, ?_⟩
  by_cases h1 : x < y
  · rw [decide_eq_true h1, if_pos (by omega)]; rfl
  · rw [decide_eq_false h1, Bool.false_or]
    by_cases h2 : (x - y) % 18446744073709551616 < c
    · rw [decide_eq_true h2, if_pos (by omega)]; rfl
    · rw [decide_eq_false h2, if_neg (by omega)]; rfl
theorem rminus_runs {xs ys : List Int} (hx : okL xs) (hy : okL ys) : Runs Tryd.prog C11 Tryd.f40 0 [.code (cd Tryd.f40)] (sM xs ys) (.tup [ws (subL xs ys), .c (.int false .u64 (bw xs ys 4))]) [] := by
  refine Runs.piece okC11 mx (rm_a xs ys) rfl (by rfl) ?_
  refine loopG (st := fun k (p : List Int × Int) => stM xs ys p.1 p.2 k) (I := fun k p => p.1 = (subL xs ys).take k ++ List.replicate (4 - k) 0 ∧ p.2 = bw xs ys k) (n := 4) (fun k p hk hI => ?_) (fun p hI => ?_) 4 0 ([0, 0, 0, 0], 0) rfl ⟨rfl, rfl⟩
  · obtain ⟨out, c⟩ := p
    obtain ⟨rfl, rfl⟩ := hI
    obtain ⟨d1, d2⟩ := minus_dig (getR hx hk) (getR hy hk) (bw_le (xs := xs) (ys := ys) k)
    refine ⟨(_, bw xs ys (k + 1)), ⟨(fill_set (x := (xs.getD k 0 - ys.getD k 0 - bw xs ys k) % 18446744073709551616) rfl hk (by
      have : k = 0 ∨ k = 1 ∨ k = 2 ∨ k = 3 := by omega
      rcases this with rfl | rfl | rfl | rfl <;> rfl)), rfl⟩, fun hr => ?_⟩
    have hb := rm_b xs ys ((subL xs ys).take k ++ List.replicate (4 - k) 0) (bw xs ys k) k (decide (xs.getD k 0 < ys.getD k 0)) (decide (um (xs.getD k 0 - ys.getD k 0) < bw xs ys k))
    rw [wsucc (by omega), d2, d1] at hb
    refine Runs.piece okC11 mx hb ?_ (by rfl) hr
    rw [decide_eq_true (by omega), decide_eq_true (by omega)]
  · obtain ⟨out, c⟩ := p
    obtain ⟨rfl, rfl⟩ := hI
    exact Runs.last okC11 mx (rm_c xs ys _ (bw xs ys 4) 4) rfl (by rfl)
theorem ok_rminus : EntryOk Tryd.prog G0 40 Tminus := by
  refine EntryOk.runs (S := C11) (fn := Tryd.f40) (c := cd Tryd.f40) (by kernel_rfl) (by kernel_rfl) (by kernel_rfl) (fun vs hl r hl' ok h => ?_)
  unfold Tminus at h
  split at h
  · rename_i xs ys
    obtain ⟨rfl, rfl⟩ := Prod.mk.inj (val_ret h)
    have hx : okL xs := ok.1.1
    have hy : okL ys := ok.2.1.1
    obtain ⟨e1, e2⟩ := subL_eq hx hy
    rw [← e1, ← e2]
    exact rminus_runs hx hy
  · cases h
noncomputable def D1 : Tab := (((C11.put 39 0 Trl).put 38 0 Tbelow).put 37 0 Tplus).put 40 0 Tminus
theorem okD1 : SpecOk Tryd.prog D1 := (((okC11.put ok_rl).put ok_rbelow).put ok_rplus).put ok_rminus
end Go.Sc

namespace Go.Sc
open Go Go.SX Go.Proofs

def shr (x : Int) (k : Nat) : Int := Int.fdiv x (2 ^ k)
def slo (a b c d w : Int) : List Int :=
  [bor (um (a * 2 ^ 16)) w, bor (um (b * 2 ^ 16)) (shr a 48), bor (um (c * 2 ^ 16)) (shr b 48), band (bor (um (d * 2 ^ 16)) (shr c 48)) 1152921504606846975]
def pcs : List Int := [band 6346243789798364141 4294967295, shr 6346243789798364141 32, band 1503914060200516822 4294967295, shr 1503914060200516822 32]
def pcc (q : Int) : Nat → Int
  | 0 => 0
  | n + 1 => shr (um (um (pcs.getD n 0 * q) + pcc q n)) 32
def pco (q : Int) (n : Nat) : Int := band (um (um (pcs.getD n 0 * q) + pcc q n)) 4294967295
def sqc (q : Int) : List Int := [bor (pco q 0) (um (pco q 1 * 2 ^ 32)), bor (pco q 2) (um (pco q 3 * 2 ^ 32)), pcc q 4, 0]
def sd (a b c d w : Int) : List Int := limbs (val (slo a b c d w) - val (sqc (shr d 44)))
def sd2 (a b c d w : Int) : List Int := limbs (val (sd a b c d w) + val tab0)
def sun (a b c d w : Int) : Bool := (if val (slo a b c d w) < val (sqc (shr d 44)) then (1 : Int) else 0) == 1
theorem step_1 (a b c d w : Int) : (bodyT D1 Tryd.prog allLoops Tryd.f77 (cd Tryd.f77) [ws [a, b, c, d], .c (.int false .u64 w)] []).path [true, false] =
    some ([sun a b c d w, !decide (val (sd2 a b c d w) < val tab0)], .one (ws (sd2 a b c d w)), []) := by kernel_rfl
theorem step_2 (a b c d w : Int) : (bodyT D1 Tryd.prog allLoops Tryd.f77 (cd Tryd.f77) [ws [a, b, c, d], .c (.int false .u64 w)] []).path [false, false] =
    some ([sun a b c d w, !decide (val (sd a b c d w) < val tab0)], .one (ws (sd a b c d w)), []) := by kernel_rfl

theorem shr_eq (x : Int) (k : Nat) : shr x k = x / (2 ^ k : Nat) := by
  unfold shr
  have : (2 : Int) ^ k = ((2 ^ k : Nat) : Int) := by simp
  rw [this, fdiv_pos]
theorem shl_or {x y : Int} (hx : R x) (hy : 0 ≤ y ∧ y < 65536) : bor (um (x * 2 ^ 16)) y = x * 65536 % 18446744073709551616 + y := by
  have e : um (x * 2 ^ 16) = x * 65536 % 18446744073709551616 := by unfold um; rw [wrapU]; rfl
  rw [e]
  have := (bor_add (a := y) (b := x * 65536 % 18446744073709551616) 16 (by decide) hy (by unfold R; omega) (by show (x * 65536 % 18446744073709551616) % 65536 = 0; omega)).2
  rw [this]; omega
theorem val_slo {a b c d w : Int} (ha : R a) (hb : R b) (hc : R c) (hd : R d) (hd2 : d ≤ 1152921504606846976) (hw : 0 ≤ w ∧ w < 65536) :
    val (slo a b c d w) = val [a, b, c, d] * 65536 + w - 7237005577332262213973186563042994240829374041602535252466099000494570602496 * (d / 17592186044416) ∧ 0 ≤ val (slo a b c d w) ∧ val (slo a b c d w) < 7237005577332262213973186563042994240829374041602535252466099000494570602496 := by
  unfold R at ha hb hc hd
  have e0 : shr a 48 = a / 281474976710656 := shr_eq a 48
  have e1 : shr b 48 = b / 281474976710656 := shr_eq b 48
  have e2 : shr c 48 = c / 281474976710656 := shr_eq c 48
  have l3 : band (d * 65536 % 18446744073709551616 + c / 281474976710656) 1152921504606846975 = (d * 65536 % 18446744073709551616 + c / 281474976710656) % 1152921504606846976 := band_mask (by unfold R; omega) 60 (by decide)
  unfold slo
  rw [e0, e1, e2, shl_or ha hw, shl_or hb (by omega), shl_or hc (by omega), shl_or hd (by omega), l3, val4, val4]
  omega
theorem pcs_eq : pcs = [1559614445, 1477600026, 2734136534, 350157278] := by rfl
theorem pc_step {p q c : Int} (hp : 0 ≤ p ∧ p ≤ 4294967295) (hq : 0 ≤ q ∧ q ≤ 131072) (hc : 0 ≤ c ∧ c ≤ 4294967295) (hpq : 0 ≤ p * q ∧ p * q ≤ 562949953421312) :
    band (um (um (p * q) + c)) 4294967295 = (p * q + c) % 4294967296 ∧ shr (um (um (p * q) + c)) 32 = (p * q + c) / 4294967296 := by
  have e : um (um (p * q) + c) = p * q + c := by unfold um; rw [wrapU, wrapU]; omega
  rw [e]
  exact ⟨band_mask (by unfold R; omega) 32 (by decide), shr_eq _ 32⟩
theorem or32 {x y : Int} (hx : 0 ≤ x ∧ x ≤ 4294967295) (hy : 0 ≤ y ∧ y ≤ 4294967295) : bor x (um (y * 2 ^ 32)) = x + y * 4294967296 := by
  have e : um (y * 2 ^ 32) = y * 4294967296 := by
    unfold um; rw [wrapU]
    show y * 4294967296 % 18446744073709551616 = _
    omega
  rw [e]
  exact (bor_add (a := x) (b := y * 4294967296) 32 (by decide) (by show 0 ≤ x ∧ x < 4294967296; omega) (by unfold R; omega) (by show y * 4294967296 % 4294967296 = 0; omega)).1
theorem val_sqc {q : Int} (hq : 0 ≤ q ∧ q ≤ 131072) : val (sqc q) = q * 27742317777372353535851937790883648493 := by
  have c1 : pcc q 1 = shr (um (um (1559614445 * q) + 0)) 32 := rfl
  have c2 : pcc q 2 = shr (um (um (1477600026 * q) + pcc q 1)) 32 := rfl
  have c3 : pcc q 3 = shr (um (um (2734136534 * q) + pcc q 2)) 32 := rfl
  have c4 : pcc q 4 = shr (um (um (350157278 * q) + pcc q 3)) 32 := rfl
  have o0 : pco q 0 = band (um (um (1559614445 * q) + 0)) 4294967295 := rfl
  have o1 : pco q 1 = band (um (um (1477600026 * q) + pcc q 1)) 4294967295 := rfl
  have o2 : pco q 2 = band (um (um (2734136534 * q) + pcc q 2)) 4294967295 := rfl
  have o3 : pco q 3 = band (um (um (350157278 * q) + pcc q 3)) 4294967295 := rfl
  obtain ⟨s0, t0⟩ := pc_step (p := 1559614445) (c := 0) (by omega) hq (by omega) (by omega)
  rw [t0] at c1
  rw [s0] at o0
  have b1 : 0 ≤ pcc q 1 ∧ pcc q 1 ≤ 4294967295 := by omega
  obtain ⟨s1, t1⟩ := pc_step (p := 1477600026) (c := pcc q 1) (by omega) hq b1 (by omega)
  rw [t1] at c2
  rw [s1] at o1
  have b2 : 0 ≤ pcc q 2 ∧ pcc q 2 ≤ 4294967295 := by omega
  obtain ⟨s2, t2⟩ := pc_step (p := 2734136534) (c := pcc q 2) (by omega) hq b2 (by omega)
  rw [t2] at c3
  rw [s2] at o2
  have b3 : 0 ≤ pcc q 3 ∧ pcc q 3 ≤ 4294967295 := by omega
  obtain ⟨s3, t3⟩ := pc_step (p := 350157278) (c := pcc q 3) (by omega) hq b3 (by omega)
  rw [t3] at c4
  rw [s3] at o3
  clear s0 t0 s1 t1 s2 t2 s3 t3
  unfold sqc
  rw [or32 (by omega) (by omega), or32 (by omega) (by omega), val4]
  omega
theorem step_bound {a b c d : Int} (ha : R a) (hb : R b) (hc : R c) (hd : R d) (h : val [a, b, c, d] < ell) : d ≤ 1152921504606846976 := by
  rw [val4] at h
  unfold R ell at *
  omega
theorem step_low {L C : Int} (hL : 0 ≤ L ∧ L < 7237005577332262213973186563042994240829374041602535252466099000494570602496) (hC : 0 ≤ C ∧ C < 5575186299632655785383929568162090376495104) (h : L < C) : val (limbs (val (limbs (L - C)) + ell)) = L - C + ell ∧ L - C + ell < ell ∧ 0 ≤ L - C + ell ∧
    limbs (val (limbs (L - C)) + ell) = limbs (L - C + ell) := by
  have e2 : limbs (val (limbs (L - C)) + ell) = limbs (L - C + ell) := by
    rw [val_limbs']
    unfold limbs
    unfold ell at *
    congr 1
    · omega
    congr 1
    · omega
    congr 1
    · omega
    congr 1
    omega
  refine ⟨?_, by omega, by unfold ell; omega, e2⟩
  rw [e2, val_limbs]
  unfold ell
  omega
def Tstep (vs : List V1) (hl : Heap) : Tree (SV × Heap) :=
  match vs, hl with
  | [.g [.ws .u64 4 xs], .c (.int _ .u64 w)], [] => Tree.chk (decide (val xs < ell ∧ w < 65536)) (.ret (.one (ws (limbs ((val xs * 65536 + w) % ell))), []))
  | _, _ => .fail
theorem step_mod {V w L C q : Int} (h1 : L = V * 65536 + w - 7237005577332262213973186563042994240829374041602535252466099000494570602496 * q) (h2 : C = q * 27742317777372353535851937790883648493) : V * 65536 + w = (L - C) + q * ell := by
  unfold ell; omega
theorem ok_rstep : EntryOk Tryd.prog G0 77 Tstep := by
  refine EntryOk.sub (bodyT_ok okD1 mx (un := allLoops) (fn := Tryd.f77) (c := cd Tryd.f77) (by kernel_rfl) (by kernel_rfl) (by kernel_rfl)).unlit (fun vs hl r ok h => ?_)
  unfold Tstep at h
  split at h
  · rename_i xs l w
    obtain ⟨h1, h2⟩ := val_chk h
    obtain ⟨hv, hw⟩ := of_decide_eq_true h1
    obtain rfl := val_ret h2
    have hw0 : R w := inU.mp ok.2.1
    obtain ⟨a, b, c, d, rfl, ha, hb, hc, hd⟩ := okL_get (show okL xs from ok.1.1)
    have hd2 := step_bound ha hb hc hd hv
    obtain ⟨v1, v2, v3⟩ := val_slo ha hb hc hd hd2 ⟨hw0.1, hw⟩
    have eq : shr d 44 = d / 17592186044416 := shr_eq d 44
    have hq : 0 ≤ d / 17592186044416 ∧ d / 17592186044416 ≤ 131072 := by omega
    have v4 := val_sqc hq
    have hC : 0 ≤ val (sqc (d / 17592186044416)) ∧ val (sqc (d / 17592186044416)) < 5575186299632655785383929568162090376495104 := by rw [v4]; omega
    have hm := step_mod v1 v4
    by_cases hlt : val (slo a b c d w) < val (sqc (d / 17592186044416))
    · have hp := step_1 a b c d w
      obtain ⟨s1, s2, s3, s4⟩ := step_low ⟨v2, v3⟩ hC hlt
      have e1 : sun a b c d w = true := by unfold sun; rw [eq, if_pos hlt]; rfl
      have e2 : sd2 a b c d w = limbs (val (slo a b c d w) - val (sqc (d / 17592186044416)) + ell) := by unfold sd2 sd; rw [eq, val_tab0, s4]
      have e3 : (val [a, b, c, d] * 65536 + w) % ell = val (slo a b c d w) - val (sqc (d / 17592186044416)) + ell := by
        rw [hm, Int.add_mul_emod_self_right]
        unfold ell at *; omega
      rw [e1, e2, val_tab0, val_limbs (by unfold ell at *; omega), decide_eq_true s2, ← e3] at hp
      exact Tree.path_val hp
    · have hp := step_2 a b c d w
      have e1 : sun a b c d w = false := by unfold sun; rw [eq, if_neg hlt]; rfl
      have e2 : sd a b c d w = limbs (val (slo a b c d w) - val (sqc (d / 17592186044416))) := by unfold sd; rw [eq]
      have hlt2 : val (slo a b c d w) - val (sqc (d / 17592186044416)) < ell := by unfold ell; omega
      have e3 : (val [a, b, c, d] * 65536 + w) % ell = val (slo a b c d w) - val (sqc (d / 17592186044416)) := by
        rw [hm, Int.add_mul_emod_self_right]
        unfold ell at *; omega
      rw [e1, e2, val_tab0, val_limbs (by unfold ell at *; omega), decide_eq_true hlt2, ← e3] at hp
      exact Tree.path_val hp
  · cases h
noncomputable def D2 : Tab := D1.put 77 0 Tstep
theorem okD2 : SpecOk Tryd.prog D2 := okD1.put ok_rstep
end Go.Sc

namespace Go.Sc
open Go Go.SX Go.Proofs

abbrev W1 : DTy := .int .u64
def Twords (vs : List V1) (hl : Heap) : Tree (SV × Heap) :=
  match vs, hl with
  | [.c (.ro (.int .u64) wl n)], [] => Tree.chk (decide (n = List.length wl ∧ n ≤ 1048576 ∧ ∀ w ∈ (show List Int from wl), w < 65536)) (.ret (.one (ws (limbs (dg 65536 wl % ell))), []))
  | _, _ => .fail
noncomputable def rW (k : List Item) (s : St) : Tree Out := runK D2 Tryd.prog noLoops 400 k s
noncomputable def sW (wl : List Int) (n : Nat) : St := ⟨enterT Tryd.f78 [.c (.ro W1 wl n)], []⟩
noncomputable def KW : List Item := leftT [] (rW [.code (cd Tryd.f78)] (sW [] 0))
noncomputable def stW (wl : List Int) (n : Nat) (r : List Int) (i : Int) : St := ⟨slotsOf 19 [(0, one (.ro W1 wl n)), (2, pt 0), (3, pt 1), (4, one (.int false .i64 i))], [.vals [.ws .u64 4 [0, 0, 0, 0]], .vals [.ws .u64 4 r]]⟩
theorem w_a (wl : List Int) (n : Nat) : pieceT [0, 2, 3, 4] [4] [0, 1] [] (rW [.code (cd Tryd.f78)] (sW wl n)) = some ([], KW, stW wl n [0, 0, 0, 0] (IntKind.i64.wrap ((n : Int) - 1))) := by kernel_rfl
theorem w_b (wl : List Int) (n : Nat) (r : List Int) (i : Int) : pieceT [0, 2, 3, 4] [4] [0, 1] [true, true, true] (rW KW (stW wl n r i)) =
    some ([decide (i ≥ 0), decide (0 ≤ i ∧ i < (n : Int)), decide (val r < ell ∧ wl.getD i.toNat 0 < 65536)], KW, stW wl n (limbs ((val r * 65536 + wl.getD i.toNat 0) % ell)) (IntKind.i64.wrap (i - 1))) := by kernel_rfl
theorem w_c (wl : List Int) (n : Nat) (r : List Int) (i : Int) : endT Tryd.prog Tryd.f78 [] [false] (rW KW (stW wl n r i)) = some ([decide (i ≥ 0)], .one (ws r), []) := by kernel_rfl
theorem add_mod_mul (x b w : Int) : (x % ell * b + w) % ell = (x * b + w) % ell := by
  rw [Int.add_emod, emod_mul, ← Int.add_emod]
theorem words_runs {wl : List Int} {n : Nat} (hn : n = wl.length) (hb : n ≤ 1048576) (hw : ∀ w ∈ wl, w < 65536) : Runs Tryd.prog D2 Tryd.f78 0 [.code (cd Tryd.f78)] (sW wl n) (.one (ws (limbs (dg 65536 wl % ell)))) [] := by
  have ha := w_a wl n
  rw [wrap64 (by omega)] at ha
  refine Runs.piece okD2 mx ha rfl (by rfl) ?_
  have h0 : stW wl n [0, 0, 0, 0] ((n : Int) - 1) = stW wl n [0, 0, 0, 0] ((n : Int) - 1 - (0 : Nat)) := by rw [show ((n : Int) - 1 - (0 : Nat)) = (n : Int) - 1 from by omega]
  rw [h0]
  refine loopG (st := fun k (r : List Int) => stW wl n r ((n : Int) - 1 - k)) (I := fun k r => r = limbs (dg 65536 (wl.drop (n - k)) % ell)) (n := n) (fun k r hk hI => ?_) (fun r hI => ?_) n 0 [0, 0, 0, 0] (by omega) ?_
  · subst hI
    have hb2 := w_b wl n (limbs (dg 65536 (wl.drop (n - k)) % ell)) ((n : Int) - 1 - k)
    have ei : ((n : Int) - 1 - k).toNat = n - 1 - k := by omega
    have hlt : n - 1 - k < wl.length := by omega
    have hg : wl.getD (n - 1 - k) 0 = wl[n - 1 - k] := by rw [List.getD_eq_getElem?_getD, List.getElem?_eq_getElem hlt]; rfl
    have hww : wl.getD (n - 1 - k) 0 < 65536 := by rw [hg]; exact hw _ (List.getElem_mem hlt)
    have hd : wl.drop (n - (k + 1)) = wl.getD (n - 1 - k) 0 :: wl.drop (n - k) := by
      rw [show n - (k + 1) = n - 1 - k from by omega, List.drop_eq_getElem_cons hlt, hg, show n - 1 - k + 1 = n - k from by omega]
    refine ⟨_, rfl, fun hr => ?_⟩
    have e : (dg 65536 (wl.drop (n - k)) % ell * 65536 + wl.getD (n - 1 - k) 0) % ell = dg 65536 (wl.drop (n - (k + 1))) % ell := by
      rw [add_mod_mul, hd]
      show _ = (wl.getD (n - 1 - k) 0 + 65536 * dg 65536 (wl.drop (n - k))) % ell
      rw [Int.add_comm, Int.mul_comm]
    rw [ei, val_mod, decide_eq_true (by omega), decide_eq_true (by omega), decide_eq_true ⟨(mod_bound _).2, hww⟩, e, wrap64 (by omega), show (n : Int) - 1 - k - 1 = (n : Int) - 1 - (k + 1 : Nat) from by omega] at hb2
    exact Runs.piece okD2 mx hb2 rfl (by rfl) hr
  · subst hI
    have hc := w_c wl n (limbs (dg 65536 (wl.drop (n - n)) % ell)) ((n : Int) - 1 - n)
    rw [Nat.sub_self, List.drop_zero] at hc ⊢
    exact Runs.last okD2 mx hc (by rw [decide_eq_false (by omega)]) (by rfl)
  · rw [Nat.sub_zero, hn, List.drop_length]; rfl
theorem ok_rwords : EntryOk Tryd.prog G0 78 Twords := by
  refine EntryOk.runs (S := D2) (fn := Tryd.f78) (c := cd Tryd.f78) (by kernel_rfl) (by kernel_rfl) (by kernel_rfl) (fun vs hl r hl' ok h => ?_)
  unfold Twords at h
  split at h
  · obtain ⟨h1, h2⟩ := val_chk h
    obtain ⟨e1, e2, e3⟩ := of_decide_eq_true h1
    obtain ⟨rfl, rfl⟩ := Prod.mk.inj (val_ret h2)
    exact words_runs e1 e2 e3
  · cases h
noncomputable def D3 : Tab := D2.put 78 0 Twords
theorem okD3 : SpecOk Tryd.prog D3 := okD2.put ok_rwords

/-! ### Least -/
def w4 (a : Int) : List Int := [band a 65535, band (shr a 16) 65535, band (shr a 32) 65535, shr a 48]
def w16 (a b c d : Int) : List Int := w4 a ++ w4 b ++ w4 c ++ w4 d
theorem rLeast_b (a b c d : Int) : (bodyT D3 Tryd.prog allLoops Tryd.f54 (cd Tryd.f54) [ws [a, b, c, d]] []).path [true, true, true, true, true] =
    some ([true, true, true, true, decide (16 = (w16 a b c d).length ∧ 16 ≤ 1048576 ∧ ∀ w ∈ w16 a b c d, w < 65536)], .one (ws (limbs (dg 65536 (w16 a b c d) % ell))), []) := by kernel_rfl
theorem w4_eq {a : Int} (h : R a) : w4 a = [a % 65536, a / 65536 % 65536, a / 4294967296 % 65536, a / 281474976710656] := by
  have hk : ∀ {x : Int}, R x → band x 65535 = x % 65536 := fun h => band_mask h 16 (by decide)
  have h1 : shr a 16 = a / 65536 := shr_eq a 16
  have h2 : shr a 32 = a / 4294967296 := shr_eq a 32
  have h3 : shr a 48 = a / 281474976710656 := shr_eq a 48
  unfold w4
  rw [h1, h2, h3, hk h, hk (by unfold R at *; omega), hk (by unfold R at *; omega)]
theorem w4_dg {a : Int} (h : R a) : dg 65536 (w4 a) = a ∧ (∀ w ∈ w4 a, w < 65536) := by
  rw [w4_eq h]
  unfold R at h
  constructor
  · simp only [dg]; omega
  · intro w hw
    simp only [List.mem_cons, List.not_mem_nil, or_false] at hw
    rcases hw with rfl | rfl | rfl | rfl <;> omega
theorem w16_dg {a b c d : Int} (ha : R a) (hb : R b) (hc : R c) (hd : R d) : dg 65536 (w16 a b c d) = val [a, b, c, d] ∧ ∀ w ∈ w16 a b c d, w < 65536 := by
  obtain ⟨a1, a2⟩ := w4_dg ha
  obtain ⟨b1, b2⟩ := w4_dg hb
  obtain ⟨c1, c2⟩ := w4_dg hc
  obtain ⟨d1, d2⟩ := w4_dg hd
  unfold w16
  constructor
  · rw [dg_append, dg_append, dg_append, a1, b1, c1, d1]
    simp only [List.length_append]
    rw [show (w4 a).length = 4 from rfl, show (w4 b).length = 4 from rfl, show (w4 c).length = 4 from rfl, val4]
    have p4 : (65536 : Int) ^ 4 = 18446744073709551616 := by decide
    have p8 : (65536 : Int) ^ (4 + 4) = 340282366920938463463374607431768211456 := by decide
    have p12 : (65536 : Int) ^ (4 + 4 + 4) = 6277101735386680763835789423207666416102355444464034512896 := by decide
    rw [p4, p8, p12]
  · intro w hw
    rw [List.mem_append, List.mem_append, List.mem_append] at hw
    rcases hw with ((h | h) | h) | h
    · exact a2 w h
    · exact b2 w h
    · exact c2 w h
    · exact d2 w h
theorem ok_rLeast : EntryOk Tryd.prog G0 54 TLeast := by
  refine EntryOk.sub (bodyT_ok okD3 mx (un := allLoops) (fn := Tryd.f54) (c := cd Tryd.f54) (by kernel_rfl) (by kernel_rfl) (by kernel_rfl)) (fun vs hl r ok h => ?_)
  unfold TLeast at h
  split at h
  · rename_i xs
    obtain rfl := val_ret h
    obtain ⟨a, b, c, d, rfl, ha, hb, hc, hd⟩ := okL_get (show okL xs from ok.1.1)
    have hp := rLeast_b a b c d
    obtain ⟨e1, e2⟩ := w16_dg ha hb hc hd
    rw [decide_eq_true ⟨rfl, by decide, e2⟩, e1] at hp
    exact Tree.path_val hp
  · cases h

/-! ### Wide -/
def w32 (bs : List Int) : List Int := (List.range 32).map fun i => bor (um (bs.getD (2 * i) 0)) (um (um (bs.getD (2 * i + 1) 0) * 2 ^ 8))
theorem rWide_b (bs : List Int) : (bodyT D3 Tryd.prog allLoops Tryd.f66 (cd Tryd.f66) [.g [.ws .u8 64 bs]] []).path (List.replicate 33 true) =
    some (List.replicate 32 true ++ [decide (32 = (w32 bs).length ∧ 32 ≤ 1048576 ∧ ∀ w ∈ w32 bs, w < 65536)], .one (ws (limbs (dg 65536 (w32 bs) % ell))), []) := by kernel_rfl
theorem w32_el {x y : Int} (hx : Rb x) (hy : Rb y) : bor (um x) (um (um y * 2 ^ 8)) = x + 256 * y := by
  unfold Rb at *
  have e1 : um x = x := by unfold um; rw [wrapU]; omega
  have e2 : um y = y := by unfold um; rw [wrapU]; omega
  have e3 : um (y * 2 ^ 8) = y * 256 := by
    unfold um; rw [wrapU]
    show y * 256 % _ = _
    omega
  rw [e1, e2, e3]
  have := (bor_add (a := x) (b := y * 256) 8 (by decide) (by show 0 ≤ x ∧ x < 256; omega) (by unfold R; omega) (by show y * 256 % 256 = 0; omega)).1
  rw [this]; omega
theorem pairs_dg {bs : List Int} : ∀ n, 2 * n ≤ bs.length → dg 65536 ((List.range n).map fun i => bs.getD (2 * i) 0 + 256 * bs.getD (2 * i + 1) 0) = dg 256 (bs.take (2 * n))
  | 0, _ => rfl
  | n + 1, h => by
    have ih := pairs_dg (bs := bs) n (by omega)
    rw [List.range_succ, List.map_append, dg_append, ih, List.length_map, List.length_range]
    have e : bs.take (2 * (n + 1)) = bs.take (2 * n) ++ [bs.getD (2 * n) 0, bs.getD (2 * n + 1) 0] := by
      rw [show 2 * (n + 1) = 2 * n + 1 + 1 from by omega, List.take_succ_eq_append_getElem (by omega), List.take_succ_eq_append_getElem (by omega), List.append_assoc]
      rw [List.getD_eq_getElem?_getD, List.getElem?_eq_getElem (show 2 * n < bs.length from by omega), List.getD_eq_getElem?_getD, List.getElem?_eq_getElem (show 2 * n + 1 < bs.length from by omega)]; rfl
    rw [e, dg_append, List.length_take, Nat.min_eq_left (by omega), Int.pow_mul]
    show _ + 65536 ^ n * (_ + 65536 * 0) = _ + _ * (_ + 256 * (_ + 256 * 0))
    rw [show ((256 : Int) ^ 2) = 65536 from by decide, Int.mul_zero, Int.add_zero, Int.mul_zero, Int.add_zero]
theorem w32_eq {bs : List Int} (hb : ∀ x ∈ bs, Rb x) (hl : bs.length = 64) : dg 65536 (w32 bs) = dg 256 bs ∧ ∀ w ∈ w32 bs, w < 65536 := by
  have e : w32 bs = (List.range 32).map fun i => bs.getD (2 * i) 0 + 256 * bs.getD (2 * i + 1) 0 := by
    unfold w32
    apply List.map_congr_left
    intro i hi
    rw [List.mem_range] at hi
    exact w32_el (getD_b hb (by omega)) (getD_b hb (by omega))
  constructor
  · rw [e, pairs_dg 32 (by omega), List.take_of_length_le (by omega)]
  · intro w hw
    rw [e] at hw
    obtain ⟨i, hi, rfl⟩ := List.mem_map.1 hw
    rw [List.mem_range] at hi
    have h1 := getD_b hb (i := 2 * i) (by omega)
    have h2 := getD_b hb (i := 2 * i + 1) (by omega)
    unfold Rb at h1 h2
    omega
theorem ok_rWide : EntryOk Tryd.prog G0 66 TWide := by
  refine EntryOk.sub (bodyT_ok okD3 mx (un := allLoops) (fn := Tryd.f66) (c := cd Tryd.f66) (by kernel_rfl) (by kernel_rfl) (by kernel_rfl)) (fun vs hl r ok h => ?_)
  unfold TWide at h
  split at h
  · rename_i bs
    obtain rfl := val_ret h
    have hp := rWide_b bs
    obtain ⟨e1, e2⟩ := w32_eq (fun x hx => inB.mp (ok.1.1.2 x hx)) ok.1.1.1
    rw [decide_eq_true ⟨rfl, by decide, e2⟩, e1] at hp
    exact Tree.path_val hp
  · cases h
noncomputable def D4 : Tab := (D3.put 54 0 TLeast).put 66 0 TWide
theorem okD4 : SpecOk Tryd.prog D4 := (okD3.put ok_rLeast).put ok_rWide
end Go.Sc

namespace Go.Sc
open Go Go.SX Go.Proofs

noncomputable def rU (k : List Item) (s : St) : Tree Out := runK D4 Tryd.prog noLoops 400 k s
noncomputable def sU (xs : List Int) (len : Nat) (n : Int) : St := ⟨enterT Tryd.f46 [.c (.ro B1 xs len), .c (.int false .i64 n)], []⟩
noncomputable def KU : List Item := leftT [true, false, false] (rU [.code (cd Tryd.f46)] (sU [] 0 0))
noncomputable def stU (xs : List Int) (len : Nat) (n : Int) (out : Cell) (i : Int) (h : Heap) : St := ⟨slotsOf 45 [(0, one (.ro B1 xs len)), (1, one (.int false .i64 n)), (6, one out), (7, one (.int false .i64 i))], h⟩
noncomputable def KV : List Item := leftT [true] (rU KU (stU [] 0 0 .nils 0 []))
noncomputable def stV (xs : List Int) (len : Nat) (n : Int) (out : Cell) (i : Int) (b : Nat) (k : Int) (h : Heap) : St :=
  ⟨slotsOf 45 [(0, one (.ro B1 xs len)), (1, one (.int false .i64 n)), (6, one out), (7, one (.int false .i64 i)), (8, pt b), (9, one (.int false .i64 k))], h⟩
theorem u_a (xs : List Int) (len : Nat) (n : Int) : endT Tryd.prog Tryd.f46 [] [false] (rU [.code (cd Tryd.f46)] (sU xs len n)) =
    some ([decide (n < 0) == false], .tup [.c .nils, .c (.int true .i64 1)], []) := by kernel_rfl
theorem u_b (xs : List Int) (len : Nat) (n : Int) : endT Tryd.prog Tryd.f46 [] [true, true] (rU [.code (cd Tryd.f46)] (sU xs len n)) =
    some ([decide (n < 0) == false, decide (n > 4096)], .tup [.c .nils, .c (.int true .i64 1)], []) := by kernel_rfl
theorem u_c (xs : List Int) (len : Nat) (n : Int) : endT Tryd.prog Tryd.f46 [] [true, false, true] (rU [.code (cd Tryd.f46)] (sU xs len n)) =
    some ([decide (n < 0) == false, decide (n > 4096), decide (IntKind.i64.wrap ((len : Int).tdiv 64) < n)], .tup [.c .nils, .c (.int true .i64 5)], []) := by kernel_rfl
theorem u_d (xs : List Int) (len : Nat) (n : Int) : pieceT [0, 1, 6, 7] [7] [] [true, false, false] (rU [.code (cd Tryd.f46)] (sU xs len n)) =
    some ([decide (n < 0) == false, decide (n > 4096), decide (IntKind.i64.wrap ((len : Int).tdiv 64) < n)], KU, stU xs len n .nils (0 : Nat) []) := by kernel_rfl
theorem u_eZ (xs : List Int) (len : Nat) (n : Int) (i : Nat) : pieceT [0, 1, 6, 7, 8, 9] [9] [0] [true] (rU KU (stU xs len n .nils i [])) =
    some ([decide ((i : Int) < n)], KV, stV xs len n .nils i 0 (0 : Nat) [.vals [.ws .u8 64 (List.replicate 64 0)]]) := by kernel_rfl
theorem u_eN (xs : List Int) (len m : Nat) (n : Int) (i : Nat) (ys : List (List Int)) : pieceT [0, 1, 6, 7, 8, 9] [9] [0, 1] [true] (rU KU (stU xs len n (.sl 0 0 m) i [.arr WS ys 0 []])) =
    some ([decide ((i : Int) < n)], KV, stV xs len n (.sl 0 0 m) i 1 (0 : Nat) [.arr WS ys 0 [], .vals [.ws .u8 64 (List.replicate 64 0)]]) := by kernel_rfl
theorem u_f (xs : List Int) (len m : Nat) (n : Int) (i : Nat) (ys : List (List Int)) : endT Tryd.prog Tryd.f46 [0] [false] (rU KU (stU xs len n (.sl 0 0 m) i [.arr WS ys 0 []])) =
    some ([decide ((i : Int) < n)], .tup [.c (.sl 0 0 m), .c (.int true .i64 0)], [.arr WS ys 0 []]) := by kernel_rfl
theorem u_gZ (xs bs : List Int) (len : Nat) (n : Int) (i k : Nat) : pieceT [0, 1, 6, 7, 8, 9] [9] [0] [true, true, true] (rU KV (stV xs len n .nils i 0 k [.vals [.ws .u8 64 bs]])) =
    some ([decide ((k : Int) < 64), decide (0 ≤ IntKind.i64.wrap (IntKind.i64.wrap (64 * (i : Int)) + k) ∧ IntKind.i64.wrap (IntKind.i64.wrap (64 * (i : Int)) + k) < len), decide (0 ≤ (k : Int) ∧ (k : Int) < 64)], KV,
      stV xs len n .nils i 0 (IntKind.i64.wrap ((k : Int) + 1)) [.vals [.ws .u8 64 (bs.set k (xs.getD (IntKind.i64.wrap (IntKind.i64.wrap (64 * (i : Int)) + k)).toNat 0))]]) := by kernel_rfl
theorem u_gN (xs bs : List Int) (len m : Nat) (n : Int) (i k : Nat) (ys : List (List Int)) : pieceT [0, 1, 6, 7, 8, 9] [9] [0, 1] [true, true, true] (rU KV (stV xs len n (.sl 0 0 m) i 1 k [.arr WS ys 0 [], .vals [.ws .u8 64 bs]])) =
    some ([decide ((k : Int) < 64), decide (0 ≤ IntKind.i64.wrap (IntKind.i64.wrap (64 * (i : Int)) + k) ∧ IntKind.i64.wrap (IntKind.i64.wrap (64 * (i : Int)) + k) < len), decide (0 ≤ (k : Int) ∧ (k : Int) < 64)], KV,
      stV xs len n (.sl 0 0 m) i 1 (IntKind.i64.wrap ((k : Int) + 1)) [.arr WS ys 0 [], .vals [.ws .u8 64 (bs.set k (xs.getD (IntKind.i64.wrap (IntKind.i64.wrap (64 * (i : Int)) + k)).toNat 0))]]) := by kernel_rfl
theorem u_hZ (xs bs : List Int) (len : Nat) (n : Int) (i k : Nat) : pieceT [0, 1, 6, 7] [7] [2] [false, true] (rU KV (stV xs len n .nils i 0 k [.vals [.ws .u8 64 bs]])) =
    some ([decide ((k : Int) < 64), true], KU, stU xs len n (.sl 0 0 1) (IntKind.i64.wrap ((i : Int) + 1)) [.arr WS [limbs (dg 256 bs % ell)] 0 []]) := by kernel_rfl
theorem u_hN (xs bs : List Int) (len m : Nat) (n : Int) (i k : Nat) (ys : List (List Int)) : pieceT [0, 1, 6, 7] [7] [3] [false, true] (rU KV (stV xs len n (.sl 0 0 m) i 1 k [.arr WS ys 0 [], .vals [.ws .u8 64 bs]])) =
    some ([decide ((k : Int) < 64), decide (m = ys.length) && (SX.room (m + 1) (Tryd.prog.bytesOf 28) && SX.room (m + 1) 1)], KU, stU xs len n (.sl 0 0 (m + 1)) (IntKind.i64.wrap ((i : Int) + 1)) [.arr WS (ys ++ [limbs (dg 256 bs % ell)]) 0 []]) := by kernel_rfl

theorem room_ok {n b : Nat} (h : n * b ≤ 140737488355328) : SX.room n b = true := decide_eq_true h
theorem roomS {n : Nat} (h : n ≤ 1048576) : (SX.room n (Tryd.prog.bytesOf 28) && SX.room n 1) = true := by
  rw [bytes_S, room_ok (by omega), room_ok (by omega)]; rfl
section
variable {xs : List Int} {len : Nat} {n : Nat}
abbrev RT (K : List Item) (s : St) (xs : List Int) (n : Nat) : Prop := Runs Tryd.prog D4 Tryd.f46 0 K s (.tup [.c (.sl 0 0 n), .c (.int true .i64 0)]) [.arr WS (tapeL xs n) 0 []]
theorem idx_ok {i k : Nat} (hx : len ≤ xs.length) (hn : 64 * n ≤ len) (hb : len ≤ 1099511627776) (hi : i < n) (hk : k < 64) :
    IntKind.i64.wrap (IntKind.i64.wrap (64 * (i : Int)) + k) = ((64 * i + k : Nat) : Int) ∧ ((xs.drop (64 * i)).take 64)[k]? = some (xs.getD (64 * i + k) 0) := by
  refine ⟨by rw [wrap64 (x := 64 * (i : Int)) (by omega), wrap64 (by omega)]; omega, ?_⟩
  rw [List.getElem?_take, if_pos hk, List.getElem?_drop, List.getElem?_eq_getElem (by omega), List.getD_eq_getElem?_getD, List.getElem?_eq_getElem (by omega)]; rfl
theorem innerZ (hx : len ≤ xs.length) (hn : 64 * n ≤ len) (hb : len ≤ 1099511627776) (hi : 0 < n) (hr : RT KU (stU xs len n (.sl 0 0 1) (1 : Nat) [.arr WS (tapeL xs 1) 0 []]) xs n) :
    RT KV (stV xs len n .nils (0 : Nat) 0 (0 : Nat) [.vals [.ws .u8 64 (List.replicate 64 0)]]) xs n := by
  have hl : ((xs.drop (64 * 0)).take 64).length = 64 := by rw [List.length_take, List.length_drop]; omega
  refine loopG (st := fun k (bs : List Int) => stV xs len n .nils (0 : Nat) 0 k [.vals [.ws .u8 64 bs]]) (I := fun k bs => bs = ((xs.drop (64 * 0)).take 64).take k ++ List.replicate (64 - k) 0) (n := 64) (fun k bs hk hI => ⟨_, fill_set hl hk (idx_ok hx hn hb hi hk).2, fun h => ?_⟩) (fun bs hI => ?_) 64 0 (List.replicate 64 0) rfl rfl
  · subst hI
    have hg := u_gZ xs (((xs.drop (64 * 0)).take 64).take k ++ List.replicate (64 - k) 0) len n 0 k
    obtain ⟨e, _⟩ := idx_ok (xs := xs) (i := 0) hx hn hb hi hk
    rw [e, wsucc (by omega), decide_eq_true (by omega), decide_eq_true (by omega), decide_eq_true (by omega), Int.toNat_natCast] at hg
    exact Runs.piece okD4 mx hg rfl (by rfl) h
  · subst hI
    have hh := u_hZ xs (((xs.drop (64 * 0)).take 64).take 64 ++ List.replicate (64 - 64) 0) len n 0 64
    have e : ((xs.drop (64 * 0)).take 64).take 64 ++ List.replicate (64 - 64) 0 = (xs.drop (64 * 0)).take 64 := by
      rw [List.take_of_length_le (by omega), Nat.sub_self]; exact List.append_nil _
    rw [wsucc (by omega), e] at hh
    rw [e]
    exact Runs.piece okD4 mx hh rfl (by rfl) hr
theorem innerN {i : Nat} (hx : len ≤ xs.length) (hn : 64 * n ≤ len) (hb : len ≤ 1099511627776) (hn4 : n ≤ 4096) (hi : i < n) (hr : RT KU (stU xs len n (.sl 0 0 (i + 1)) (i + 1 : Nat) [.arr WS (tapeL xs (i + 1)) 0 []]) xs n) :
    RT KV (stV xs len n (.sl 0 0 i) i 1 (0 : Nat) [.arr WS (tapeL xs i) 0 [], .vals [.ws .u8 64 (List.replicate 64 0)]]) xs n := by
  have hl : ((xs.drop (64 * i)).take 64).length = 64 := by rw [List.length_take, List.length_drop]; omega
  refine loopG (st := fun k (bs : List Int) => stV xs len n (.sl 0 0 i) i 1 k [.arr WS (tapeL xs i) 0 [], .vals [.ws .u8 64 bs]]) (I := fun k bs => bs = ((xs.drop (64 * i)).take 64).take k ++ List.replicate (64 - k) 0) (n := 64) (fun k bs hk hI => ⟨_, fill_set hl hk (idx_ok hx hn hb hi hk).2, fun h => ?_⟩) (fun bs hI => ?_) 64 0 (List.replicate 64 0) rfl rfl
  · subst hI
    have hg := u_gN xs (((xs.drop (64 * i)).take 64).take k ++ List.replicate (64 - k) 0) len i n i k (tapeL xs i)
    obtain ⟨e, _⟩ := idx_ok (xs := xs) (i := i) hx hn hb hi hk
    rw [e, wsucc (by omega), decide_eq_true (by omega), decide_eq_true (by omega), decide_eq_true (by omega), Int.toNat_natCast] at hg
    exact Runs.piece okD4 mx hg rfl (by rfl) h
  · subst hI
    have hh := u_hN xs (((xs.drop (64 * i)).take 64).take 64 ++ List.replicate (64 - 64) 0) len i n i 64 (tapeL xs i)
    have e : ((xs.drop (64 * i)).take 64).take 64 ++ List.replicate (64 - 64) 0 = (xs.drop (64 * i)).take 64 := by
      rw [List.take_of_length_le (by omega), Nat.sub_self]; exact List.append_nil _
    have el : tapeL xs i ++ [limbs (dg 256 ((xs.drop (64 * i)).take 64) % ell)] = tapeL xs (i + 1) := by
      unfold tapeL; rw [List.range_succ, List.map_append]; rfl
    have e2 : (tapeL xs i).length = i := by unfold tapeL; rw [List.length_map, List.length_range]
    rw [wsucc (by omega), e, el, decide_eq_true e2.symm, roomS (by omega)] at hh
    rw [e]
    exact Runs.piece okD4 mx hh rfl (by rfl) hr
theorem rTape_ok (hx : len ≤ xs.length) (hn : 64 * n ≤ len) (hb : len ≤ 1099511627776) (hn4 : n ≤ 4096) (h0 : 0 < n) : RT KU (stU xs len n .nils (0 : Nat) []) xs n := by
  have he := u_eZ xs len n 0
  rw [decide_eq_true (by omega)] at he
  refine Runs.piece okD4 mx he rfl (by rfl) (innerZ hx hn hb h0 ?_)
  refine loopG (st := fun k (_ : Unit) => stU xs len n (.sl 0 0 k) k [.arr WS (tapeL xs k) 0 []]) (I := fun _ _ => True) (n := n) (fun k a hk _ => ⟨(), trivial, fun hr => ?_⟩) (fun _ _ => ?_) (n - 1) 1 () (by omega) trivial
  · have he := u_eN xs len k n k (tapeL xs k)
    rw [decide_eq_true (by omega)] at he
    exact Runs.piece okD4 mx he rfl (by rfl) (innerN hx hn hb hn4 hk hr)
  · exact Runs.last okD4 mx (u_f xs len n n n (tapeL xs n)) (by rw [decide_eq_false (by omega)]) (by rfl)
end
def TrTape (vs : List V1) (hl : Heap) : Tree (SV × Heap) :=
  match vs, hl with
  | [.c (.ro (.int .u8) xs len), .c (.int _ .i64 n)], [] => Tree.chk (decide (len ≤ 1099511627776 ∧ n ≠ 0)) (tTape xs len n)
  | _, _ => .fail
theorem tdiv64 {len : Nat} : IntKind.i64.wrap ((len : Int).tdiv 64) = IntKind.i64.wrap ((len / 64 : Nat) : Int) := by rfl
set_option maxRecDepth 4000 in
theorem rTape_runs {xs : List Int} {len : Nat} {n : Int} (hx : len ≤ xs.length) (hb : len ≤ 1099511627776) (h0 : n ≠ 0) {r : SV × Heap} (hr : (tTape xs len n).val = some r) : Runs Tryd.prog D4 Tryd.f46 0 [.code (cd Tryd.f46)] (sU xs len n) r.1 r.2 := by
  unfold tTape at hr
  simp only [Tree.val] at hr
  have ed : IntKind.i64.wrap ((len : Int).tdiv 64) = ((len / 64 : Nat) : Int) := by
    rw [show (len : Int).tdiv 64 = ((len / 64 : Nat) : Int) from rfl, wrap64 (by omega)]
  split at hr
  · rename_i h1
    have h1 := of_decide_eq_true h1
    obtain rfl := Option.some.inj hr
    by_cases h0 : n < 0
    · exact Runs.last okD4 mx (u_a xs len n) (by rw [decide_eq_true h0]; rfl) (by rfl)
    · exact Runs.last okD4 mx (u_b xs len n) (by rw [decide_eq_false h0, decide_eq_true (by omega)]; rfl) (by rfl)
  · rename_i h1
    have h1 : ¬ (n < 0 ∨ 4096 < n) := of_decide_eq_false (by simpa using h1)
    split at hr
    · rename_i h2
      have h2 := of_decide_eq_true h2
      obtain rfl := Option.some.inj hr
      exact Runs.last okD4 mx (u_c xs len n) (by rw [ed, decide_eq_false (by omega), decide_eq_false (by omega), decide_eq_true (by omega)]; rfl) (by rfl)
    · rename_i h2
      have h2 : ¬ ((len : Int) < 64 * n) := of_decide_eq_false (by simpa using h2)
      obtain rfl := Option.some.inj hr
      obtain ⟨m, rfl⟩ : ∃ m : Nat, n = (m : Int) := ⟨n.toNat, by omega⟩
      rw [Int.toNat_natCast]
      refine Runs.piece okD4 mx (u_d xs len m) (by rw [ed, decide_eq_false (by omega), decide_eq_false (by omega), decide_eq_false (by omega)]; rfl) (by rfl) ?_
      exact rTape_ok hx (by omega) hb (by omega) (by omega)
theorem ok_rTape : EntryOk Tryd.prog G0 46 TrTape := by
  refine EntryOk.runs (S := D4) (fn := Tryd.f46) (c := cd Tryd.f46) (by kernel_rfl) (by kernel_rfl) (by kernel_rfl) (fun vs hl r hl' ok h => ?_)
  unfold TrTape at h
  split at h
  · rename_i xs len l n
    obtain ⟨h1, h2⟩ := val_chk h
    obtain ⟨h3, h4⟩ := of_decide_eq_true h1
    exact lit_int [1] (rTape_runs (xs := xs) ok.1.1 h3 h4 h2) (by kernel_rfl)
  · cases h
noncomputable def D5 : Tab := D4.put 46 1 TrTape
theorem okD5 : SpecOk Tryd.prog D5 := okD4.put ok_rTape
end Go.Sc

namespace Go.Sc
open Go Go.SX Go.Proofs

def TrAdd (vs : List V1) (hl : Heap) : Tree (SV × Heap) :=
  match vs, hl with
  | [.g [.ws .u64 4 xs], .g [.ws .u64 4 ys]], [] => Tree.chk (decide (val xs < ell ∧ val ys < ell)) (.ret (.one (ws (limbs ((val xs + val ys) % ell))), []))
  | _, _ => .fail
theorem rAdd_1 (xs ys : List Int) : (bodyT D5 Tryd.prog allLoops Tryd.f16 (cd Tryd.f16) [ws xs, ws ys] []).path [true] =
    some ([!decide (val (limbs (val xs + val ys)) < val tab0)], .one (ws (limbs (val (limbs (val xs + val ys)) - val tab0))), []) := by kernel_rfl
theorem rAdd_2 (xs ys : List Int) : (bodyT D5 Tryd.prog allLoops Tryd.f16 (cd Tryd.f16) [ws xs, ws ys] []).path [false] =
    some ([!decide (val (limbs (val xs + val ys)) < val tab0)], .one (ws (limbs (val xs + val ys))), []) := by kernel_rfl
theorem ok_rAdd : EntryOk Tryd.prog G0 16 TrAdd := by
  refine EntryOk.sub (bodyT_ok okD5 mx (un := allLoops) (fn := Tryd.f16) (c := cd Tryd.f16) (by kernel_rfl) (by kernel_rfl) (by kernel_rfl)) (fun vs hl r ok h => ?_)
  unfold TrAdd at h
  split at h
  · rename_i xs ys
    obtain ⟨h1, h2⟩ := val_chk h
    obtain ⟨hx, hy⟩ := of_decide_eq_true h1
    obtain rfl := val_ret h2
    have bx := val_bound (show okL xs from ok.1.1)
    have bY := val_bound (show okL ys from ok.2.1.1)
    have ev : val (limbs (val xs + val ys)) = val xs + val ys := val_limbs (by unfold ell at *; omega)
    have em : low (val xs + val ys) = (val xs + val ys) % ell := low_mod (by omega)
    by_cases hlt : val xs + val ys < ell
    · have hp := rAdd_2 xs ys
      have e : (val xs + val ys) % ell = val xs + val ys := by rw [← em]; unfold low; rw [if_pos hlt]
      rw [ev, val_tab0, decide_eq_true hlt, ← e] at hp
      exact Tree.path_val hp
    · have hp := rAdd_1 xs ys
      have e : (val xs + val ys) % ell = val xs + val ys - ell := by rw [← em]; unfold low; rw [if_neg hlt]
      rw [ev, val_tab0, decide_eq_false hlt, ← e] at hp
      exact Tree.path_val hp
  · cases h
def TrIsZero (vs : List V1) (hl : Heap) : Tree (SV × Heap) :=
  match vs, hl with
  | [.g [.ws .u64 4 xs]], [] => .ret (.one (.c (.bool false (decide (val xs = 0)))), [])
  | _, _ => .fail
theorem rIsZero_b (xs : List Int) : (bodyT D5 Tryd.prog allLoops Tryd.f92 (cd Tryd.f92) [ws xs] []).path [] = some ([], .one (.c (.bool false (xs == [0, 0, 0, 0] && true))), []) := by kernel_rfl
theorem isZero_eq {xs : List Int} (h : okL xs) : (xs == [0, 0, 0, 0] && true) = decide (val xs = 0) := by
  obtain ⟨a, b, c, d, rfl, ha, hb, hc, hd⟩ := okL_get h
  by_cases hz : a = 0 ∧ b = 0 ∧ c = 0 ∧ d = 0
  · obtain ⟨rfl, rfl, rfl, rfl⟩ := hz; rfl
  · have h1 : ¬ val [a, b, c, d] = 0 := by rw [val4]; omega
    rw [decide_eq_false h1, Bool.and_true]
    simp only [beq_eq_false_iff_ne, ne_eq, List.cons.injEq, and_true]
    exact hz
theorem ok_rIsZero : EntryOk Tryd.prog G0 92 TrIsZero := by
  refine EntryOk.sub (bodyT_ok okD5 mx (un := allLoops) (fn := Tryd.f92) (c := cd Tryd.f92) (by kernel_rfl) (by kernel_rfl) (by kernel_rfl)) (fun vs hl r ok h => ?_)
  unfold TrIsZero at h
  split at h
  · rename_i xs
    obtain rfl := val_ret h
    have hp := rIsZero_b xs
    rw [isZero_eq (show okL xs from ok.1.1)] at hp
    exact Tree.path_val hp
  · cases h
noncomputable def D6 : Tab := ((D5.put 16 0 TrAdd).put 92 0 TrIsZero).put 17 0 TInt
theorem b_rInt (n : Int) : (bodyT D5 Tryd.prog allLoops Tryd.f17 (cd Tryd.f17) [.c (.int false .u64 n)] []).path [] = some ([], .one (ws [n, 0, 0, 0]), []) := by kernel_rfl
theorem ok_rInt : EntryOk Tryd.prog G0 17 TInt := by
  refine EntryOk.sub ((bodyT_ok okD5 mx (un := allLoops) (fn := Tryd.f17) (c := cd Tryd.f17) (by kernel_rfl) (by kernel_rfl) (by kernel_rfl)).unlit) (fun vs hl r ok h => ?_)
  unfold TInt at h
  split at h
  · rename_i l n
    obtain rfl := val_ret h
    exact Tree.path_val (b_rInt n)
  · cases h
theorem okD6 : SpecOk Tryd.prog D6 := ((okD5.put ok_rAdd).put ok_rIsZero).put ok_rInt
def TrNeg (vs : List V1) (hl : Heap) : Tree (SV × Heap) :=
  match vs, hl with
  | [.g [.ws .u64 4 xs]], [] => Tree.chk (decide (val xs < ell)) (.ret (.one (ws (limbs ((0 - val xs) % ell))), []))
  | _, _ => .fail
theorem rNeg_1 (xs : List Int) : (bodyT D6 Tryd.prog allLoops Tryd.f75 (cd Tryd.f75) [ws xs] []).path [true] = some ([decide (val xs = 0)], .one (ws xs), []) := by kernel_rfl
theorem rNeg_2 (xs : List Int) : (bodyT D6 Tryd.prog allLoops Tryd.f75 (cd Tryd.f75) [ws xs] []).path [false] = some ([decide (val xs = 0)], .one (ws (limbs (val tab0 - val xs))), []) := by kernel_rfl
theorem ok_rNeg : EntryOk Tryd.prog G0 75 TrNeg := by
  refine EntryOk.sub (bodyT_ok okD6 mx (un := allLoops) (fn := Tryd.f75) (c := cd Tryd.f75) (by kernel_rfl) (by kernel_rfl) (by kernel_rfl)) (fun vs hl r ok h => ?_)
  unfold TrNeg at h
  split at h
  · rename_i xs
    obtain ⟨h1, h2⟩ := val_chk h
    have hx := of_decide_eq_true h1
    obtain rfl := val_ret h2
    have bx := val_bound (show okL xs from ok.1.1)
    by_cases hz : val xs = 0
    · have hp := rNeg_1 xs
      have e : xs = limbs ((0 - val xs) % ell) := by
        rw [hz, ← limbs_val (show okL xs from ok.1.1), hz]; rfl
      rw [decide_eq_true hz] at hp
      exact (Tree.path_val hp).trans (congrArg (fun z => some (SV.one (ws z), ([] : Heap))) e)
    · have hp := rNeg_2 xs
      have e : (0 - val xs) % ell = ell - val xs := by unfold ell at *; omega
      rw [decide_eq_false hz, val_tab0, ← e] at hp
      exact Tree.path_val hp
  · cases h
noncomputable def D7 : Tab := D6.put 75 0 TrNeg
theorem okD7 : SpecOk Tryd.prog D7 := okD6.put ok_rNeg
theorem add_mod2 (a b : Int) : (a + b % ell) % ell = (a + b) % ell := by unfold ell; omega
theorem sub_zero2 (a b : Int) : a + (0 - b) = a - b := by omega
def TrSub (vs : List V1) (hl : Heap) : Tree (SV × Heap) :=
  match vs, hl with
  | [.g [.ws .u64 4 xs], .g [.ws .u64 4 ys]], [] => Tree.chk (decide (val xs < ell ∧ val ys < ell)) (.ret (.one (ws (limbs ((val xs - val ys) % ell))), []))
  | _, _ => .fail
theorem rSub_b (xs ys : List Int) : (bodyT D7 Tryd.prog allLoops Tryd.f52 (cd Tryd.f52) [ws xs, ws ys] []).path [true, true] =
    some ([decide (val ys < ell), decide (val xs < ell ∧ val (limbs ((0 - val ys) % ell)) < ell)], .one (ws (limbs ((val xs + val (limbs ((0 - val ys) % ell))) % ell))), []) := by kernel_rfl
theorem ok_rSub : EntryOk Tryd.prog G0 52 TrSub := by
  refine EntryOk.sub (bodyT_ok okD7 mx (un := allLoops) (fn := Tryd.f52) (c := cd Tryd.f52) (by kernel_rfl) (by kernel_rfl) (by kernel_rfl)) (fun vs hl r ok h => ?_)
  unfold TrSub at h
  split at h
  · rename_i xs ys
    obtain ⟨h1, h2⟩ := val_chk h
    obtain ⟨hx, hy⟩ := of_decide_eq_true h1
    obtain rfl := val_ret h2
    have hp := rSub_b xs ys
    have e : (val xs + (0 - val ys) % ell) % ell = (val xs - val ys) % ell := by
      rw [add_mod2, sub_zero2]
    rw [val_mod, decide_eq_true hy, decide_eq_true ⟨hx, (mod_bound _).2⟩, e] at hp
    exact Tree.path_val hp
  · cases h
noncomputable def D8 : Tab := D7.put 52 0 TrSub
theorem okD8 : SpecOk Tryd.prog D8 := okD7.put ok_rSub
end Go.Sc

namespace Go.Sc
open Go Go.SX Go.Proofs

def Thalves (vs : List V1) (hl : Heap) : Tree (SV × Heap) :=
  match vs, hl with
  | [.g [.ws .u64 4 xs]], [] => .ret (.one (.g [.ws .u64 8 (hvs xs)]), [])
  | _, _ => .fail
theorem halves_b (a b c d : Int) : (bodyT D8 Tryd.prog allLoops Tryd.f76 (cd Tryd.f76) [ws [a, b, c, d]] []).path [] =
    some ([], .one (.g [.ws .u64 8 [band a 4294967295, shr a 32, band b 4294967295, shr b 32, band c 4294967295, shr c 32, band d 4294967295, shr d 32]]), []) := by kernel_rfl
theorem ok_rhalves : EntryOk Tryd.prog G0 76 Thalves := by
  refine EntryOk.sub (bodyT_ok okD8 mx (un := allLoops) (fn := Tryd.f76) (c := cd Tryd.f76) (by kernel_rfl) (by kernel_rfl) (by kernel_rfl)) (fun vs hl r ok h => ?_)
  unfold Thalves at h
  split at h
  · rename_i xs
    obtain rfl := val_ret h
    obtain ⟨a, b, c, d, rfl, ha, hb, hc, hd⟩ := okL_get (show okL xs from ok.1.1)
    have hp := halves_b a b c d
    have e : ∀ {x : Int}, R x → band x 4294967295 = x % 4294967296 := fun h => band_mask h 32 (by decide)
    have f : ∀ x : Int, shr x 32 = x / 4294967296 := fun x => shr_eq x 32
    rw [e ha, e hb, e hc, e hd, f, f, f, f] at hp
    exact Tree.path_val hp
  · cases h
noncomputable def D9 : Tab := D8.put 76 0 Thalves
theorem okD9 : SpecOk Tryd.prog D9 := okD8.put ok_rhalves

/-! ### Mul -/
noncomputable def rX (k : List Item) (s : St) : Tree Out := runK D9 Tryd.prog noLoops 400 k s
noncomputable def sX (xs ys : List Int) : St := ⟨enterT Tryd.f53 [ws xs, ws ys], []⟩
noncomputable def KX : List Item := leftT [] (rX [.code (cd Tryd.f53)] (sX [] []))
noncomputable def hX (x y p : List Int) : Heap := [.vals [.ws .u64 4 [0, 0, 0, 0]], .vals [.ws .u64 8 x], .vals [.ws .u64 8 y], .vals [.ws .u64 16 p]]
noncomputable def stX (x y p : List Int) (i : Int) : St := ⟨slotsOf 70 [(4, pt 0), (5, pt 1), (6, pt 2), (7, pt 3), (8, one (.int false .i64 i))], hX x y p⟩
noncomputable def KY : List Item := leftT [true] (rX KX (stX [] [] [] 0))
noncomputable def stY (x y p : List Int) (i c k : Int) : St := ⟨slotsOf 70 [(4, pt 0), (5, pt 1), (6, pt 2), (7, pt 3), (8, one (.int false .i64 i)), (9, one (.int false .u64 c)), (10, one (.int false .i64 k))], hX x y p⟩
noncomputable def KZ : List Item := leftT [false] (rX KX (stX [] [] [] 0))
noncomputable def stZ (p r : List Int) (i : Int) : St := ⟨slotsOf 70 [(4, pt 0), (7, pt 1), (12, pt 2), (13, one (.int false .i64 i))], [.vals [.ws .u64 4 [0, 0, 0, 0]], .vals [.ws .u64 16 p], .vals [.ws .u64 4 r]]⟩
theorem x_a (xs ys : List Int) : pieceT [4, 5, 6, 7, 8] [8] [2, 3, 4, 5] [] (rX [.code (cd Tryd.f53)] (sX xs ys)) = some ([], KX, stX (hvs xs) (hvs ys) (List.replicate 16 0) (0 : Nat)) := by kernel_rfl
theorem x_b (x y p : List Int) (i : Nat) : pieceT [4, 5, 6, 7, 8, 9, 10] [9, 10] [0, 1, 2, 3] [true] (rX KX (stX x y p i)) = some ([decide ((i : Int) < 8)], KY, stY x y p i 0 (0 : Nat)) := by kernel_rfl
def tX (x y p : List Int) (i k : Nat) (c : Int) : Int := um (um (um (x.getD i 0 * y.getD k 0) + p.getD (IntKind.i64.wrap ((i : Int) + k)).toNat 0) + c)
theorem x_c (x y p : List Int) (i k : Nat) (c : Int) : pieceT [4, 5, 6, 7, 8, 9, 10] [9, 10] [0, 1, 2, 3] [true, true, true, true, true] (rX KY (stY x y p i c k)) =
    some ([decide ((k : Int) < 8), decide (0 ≤ (i : Int) ∧ (i : Int) < 8), decide (0 ≤ (k : Int) ∧ (k : Int) < 8), decide (0 ≤ IntKind.i64.wrap ((i : Int) + k) ∧ IntKind.i64.wrap ((i : Int) + k) < 16), decide (0 ≤ IntKind.i64.wrap ((i : Int) + k) ∧ IntKind.i64.wrap ((i : Int) + k) < 16)], KY,
      stY x y (p.set (IntKind.i64.wrap ((i : Int) + k)).toNat (band (tX x y p i k c) 4294967295)) i (shr (tX x y p i k c) 32) (IntKind.i64.wrap ((k : Int) + 1))) := by kernel_rfl
theorem x_d (x y p : List Int) (i k : Nat) (c : Int) : pieceT [4, 5, 6, 7, 8] [8] [0, 1, 2, 3] [false, true] (rX KY (stY x y p i c k)) =
    some ([decide ((k : Int) < 8), decide (0 ≤ IntKind.i64.wrap ((i : Int) + 8) ∧ IntKind.i64.wrap ((i : Int) + 8) < 16)], KX, stX x y (p.set (IntKind.i64.wrap ((i : Int) + 8)).toNat c) (IntKind.i64.wrap ((i : Int) + 1))) := by kernel_rfl
theorem x_e (x y p : List Int) (i : Nat) : pieceT [4, 7, 12, 13] [13] [0, 3, 4] [false] (rX KX (stX x y p i)) = some ([decide ((i : Int) < 8)], KZ, stZ p [0, 0, 0, 0] 15) := by kernel_rfl
def uX (r : List Int) (w : Int) : List Int := limbs ((val r * 65536 + w) % ell)
theorem x_f (p r : List Int) (i : Int) : pieceT [4, 7, 12, 13] [13] [0, 1, 2] [true, true, true, true, true] (rX KZ (stZ p r i)) =
    some ([decide (i ≥ 0), decide (0 ≤ i ∧ i < 16), decide (val r < ell ∧ shr (p.getD i.toNat 0) 16 < 65536), decide (0 ≤ i ∧ i < 16), decide (val (uX r (shr (p.getD i.toNat 0) 16)) < ell ∧ band (p.getD i.toNat 0) 65535 < 65536)], KZ,
      stZ p (uX (uX r (shr (p.getD i.toNat 0) 16)) (band (p.getD i.toNat 0) 65535)) (IntKind.i64.wrap (i - 1))) := by kernel_rfl
theorem x_g (p r : List Int) (i : Int) : endT Tryd.prog Tryd.f53 [] [false] (rX KZ (stZ p r i)) = some ([decide (i ≥ 0)], .one (ws r), []) := by kernel_rfl

abbrev RX (K : List Item) (s : St) (z : Int) : Prop := Runs Tryd.prog D9 Tryd.f53 0 K s (.one (ws (limbs (z % ell)))) []
theorem mulZ {p : List Int} (hl : p.length = 16) (h : H32 p) : RX KZ (stZ p [0, 0, 0, 0] 15) (dg 4294967296 p) := by
  refine loopG (st := fun k (r : List Int) => stZ p r (15 - (k : Int))) (I := fun k r => r = limbs (dg 4294967296 (p.drop (16 - k)) % ell)) (n := 16) (fun k r hk hI => ?_) (fun r hI => ?_) 16 0 [0, 0, 0, 0] rfl ?_
  · subst hI
    have hf := x_f p (limbs (dg 4294967296 (p.drop (16 - k)) % ell)) (15 - (k : Int))
    have ei : (15 - (k : Int)).toNat = 15 - k := by omega
    have hp := h (15 - k)
    have e1 : shr (p.getD (15 - k) 0) 16 = p.getD (15 - k) 0 / 65536 := shr_eq _ 16
    have e2 : band (p.getD (15 - k) 0) 65535 = p.getD (15 - k) 0 % 65536 := band_mask (by unfold R; omega) 16 (by decide)
    have hd := dg_drop_pred 4294967296 (y := p) (k := 15 - k) (by omega)
    rw [show 15 - k + 1 = 16 - k from by omega] at hd
    have em : uX (uX (limbs (dg 4294967296 (p.drop (16 - k)) % ell)) (p.getD (15 - k) 0 / 65536)) (p.getD (15 - k) 0 % 65536) = limbs (dg 4294967296 (p.drop (16 - (k + 1))) % ell) := by
      unfold uX
      rw [val_mod, val_mod, add_mod_mul, show 16 - (k + 1) = 15 - k from by omega, hd]
      have e3 : (dg 4294967296 (p.drop (16 - k)) % ell * 65536 + p.getD (15 - k) 0 / 65536) * 65536 + p.getD (15 - k) 0 % 65536 = dg 4294967296 (p.drop (16 - k)) % ell * 4294967296 + p.getD (15 - k) 0 := by omega
      rw [e3, add_mod_mul, Int.add_comm, Int.mul_comm]
    have eb : val (uX (limbs (dg 4294967296 (p.drop (16 - k)) % ell)) (p.getD (15 - k) 0 / 65536)) < ell := by unfold uX; rw [val_mod]; exact (mod_bound _).2
    refine ⟨_, rfl, fun hr => ?_⟩
    rw [ei, e1, e2, em, val_mod, decide_eq_true (by omega), decide_eq_true (by omega), decide_eq_true ⟨(mod_bound _).2, by omega⟩, decide_eq_true ⟨eb, by omega⟩, wrap64 (by omega), show 15 - (k : Int) - 1 = 15 - ((k + 1 : Nat) : Int) from by omega] at hf
    exact Runs.piece okD9 mx hf rfl (by rfl) hr
  · subst hI
    exact Runs.last okD9 mx (x_g p _ (15 - ((16 : Nat) : Int))) rfl (by rfl)
  · rw [Nat.sub_zero, ← hl, List.drop_length]; rfl
theorem mulX {x y : List Int} (hx : H32 x) (hxl : x.length = 8) (hy : H32 y) (hyl : y.length = 8) : RX KX (stX x y (List.replicate 16 0) (0 : Nat)) (dg 4294967296 x * dg 4294967296 y) := by
  refine loopG (st := fun k (p : List Int) => stX x y p k) (I := fun i p => p.length = 16 ∧ H32 p ∧ dg 4294967296 p = dg 4294967296 (x.take i) * dg 4294967296 y ∧ ∀ j, i + 8 ≤ j → p.getD j 0 = 0) (n := 8) (fun i p hi hI => ?_) (fun p hI => ?_) 8 0 (List.replicate 16 0) rfl ?_
  · obtain ⟨i1, i2, i3, i4⟩ := hI
    -- the inner loop
    have hx0 := hx i
    have start : Mid (x.getD i 0) y p i 0 p 0 := ⟨i1, i2, ⟨Int.le_refl _, by decide⟩, by rw [List.take_zero]; show _ + 0 * _ = _ + _ * 0 * _; rw [Int.zero_mul, Int.mul_zero, Int.zero_mul], i4⟩
    have fin : ∃ p', (p'.length = 16 ∧ H32 p' ∧ dg 4294967296 p' = dg 4294967296 p + x.getD i 0 * dg 4294967296 y * 4294967296 ^ i ∧ ∀ j, i + 1 + 8 ≤ j → p'.getD j 0 = 0) ∧
        (RX KX (stX x y p' (i + 1 : Nat)) (dg 4294967296 x * dg 4294967296 y) → RX KY (stY x y p i 0 (0 : Nat)) (dg 4294967296 x * dg 4294967296 y)) := by
      have gen : ∀ d k q (c : Int), k + d = 8 → Mid (x.getD i 0) y p i k q c → ∃ p', (p'.length = 16 ∧ H32 p' ∧ dg 4294967296 p' = dg 4294967296 p + x.getD i 0 * dg 4294967296 y * 4294967296 ^ i ∧ ∀ j, i + 1 + 8 ≤ j → p'.getD j 0 = 0) ∧
        (RX KX (stX x y p' (i + 1 : Nat)) (dg 4294967296 x * dg 4294967296 y) → RX KY (stY x y q i c k) (dg 4294967296 x * dg 4294967296 y)) := by
        intro d
        induction d with
        | zero =>
          intro k q c hk m
          obtain rfl : k = 8 := by omega
          refine ⟨_, m.last hyl hi, fun hr => ?_⟩
          have hd := x_d x y q i 8 c
          rw [wrap64 (x := (i : Int) + 8) (by omega), show ((i : Int) + 8).toNat = i + 8 from by omega, wsucc (by omega), decide_eq_true (show 0 ≤ (i : Int) + 8 ∧ (i : Int) + 8 < 16 by omega)] at hd
          exact Runs.piece okD9 mx hd rfl (by rfl) hr
        | succ d ih =>
          intro k q c hk m
          obtain ⟨p', h1, h2⟩ := ih (k + 1) _ _ (by omega) (m.step hx0 hy hyl (by omega) hi)
          refine ⟨p', h1, fun hr => ?_⟩
          have hc := x_c x y q i k c
          obtain ⟨b0, b1, b2⟩ := mul32 hx0 (hy k) (m.h (i + k)) m.hc
          have ew : IntKind.i64.wrap ((i : Int) + k) = ((i + k : Nat) : Int) := by rw [wrap64 (by omega)]; omega
          have et : tX x y q i k c = x.getD i 0 * y.getD k 0 + q.getD (i + k) 0 + c := by
            unfold tX um
            rw [ew, Int.toNat_natCast, wrapU, wrapU, wrapU]
            have := (m.h (i + k)).1
            have := m.hc.1
            omega
          have e1 : band (x.getD i 0 * y.getD k 0 + q.getD (i + k) 0 + c) 4294967295 = (x.getD i 0 * y.getD k 0 + q.getD (i + k) 0 + c) % 4294967296 := band_mask (by unfold R; omega) 32 (by decide)
          have e2 : shr (x.getD i 0 * y.getD k 0 + q.getD (i + k) 0 + c) 32 = (x.getD i 0 * y.getD k 0 + q.getD (i + k) 0 + c) / 4294967296 := shr_eq _ 32
          rw [et, e1, e2, ew, Int.toNat_natCast, wsucc (by omega), decide_eq_true (show (k : Int) < 8 by omega), decide_eq_true (show 0 ≤ (i : Int) ∧ (i : Int) < 8 by omega), decide_eq_true (show 0 ≤ (k : Int) ∧ (k : Int) < 8 by omega), decide_eq_true (show 0 ≤ ((i + k : Nat) : Int) ∧ ((i + k : Nat) : Int) < 16 by omega)] at hc
          exact Runs.piece okD9 mx hc rfl (by rfl) (h2 hr)
      exact gen 8 0 p 0 rfl start
    obtain ⟨p', ⟨q1, q2, q3, q4⟩, hrun⟩ := fin
    refine ⟨p', ⟨q1, q2, ?_, q4⟩, fun hr => ?_⟩
    · rw [q3, i3, dg_take_succ _ (by omega), Int.add_mul]
      congr 1
      rw [Int.mul_comm (4294967296 ^ i), Int.mul_assoc, Int.mul_assoc, Int.mul_comm (dg 4294967296 y)]
    · have hb := x_b x y p i
      rw [decide_eq_true (by omega)] at hb
      exact Runs.piece okD9 mx hb rfl (by rfl) (hrun hr)
  · obtain ⟨i1, i2, i3, _⟩ := hI
    rw [List.take_of_length_le (by omega)] at i3
    rw [← i3]
    exact Runs.piece okD9 mx (x_e x y p 8) rfl (by rfl) (mulZ i1 i2)
  · refine ⟨rfl, fun j => ?_, ?_, fun j hj => ?_⟩
    · rw [List.getD_eq_getElem?_getD, List.getElem?_replicate]
      split <;> exact ⟨Int.le_refl _, by decide⟩
    · show _ = dg 4294967296 [] * _
      rw [show dg 4294967296 [] = 0 from rfl, Int.zero_mul]; rfl
    · rw [List.getD_eq_getElem?_getD, List.getElem?_replicate]
      split <;> rfl
theorem ok_rMul : EntryOk Tryd.prog G0 53 TMul := by
  refine EntryOk.runs (S := D9) (fn := Tryd.f53) (c := cd Tryd.f53) (by kernel_rfl) (by kernel_rfl) (by kernel_rfl) (fun vs hl r hl' ok h => ?_)
  unfold TMul at h
  split at h
  · rename_i xs ys
    obtain ⟨rfl, rfl⟩ := Prod.mk.inj (val_ret h)
    have hx : okL xs := ok.1.1
    have hy : okL ys := ok.2.1.1
    obtain ⟨x1, x2⟩ := H32_hvs hx
    obtain ⟨y1, y2⟩ := H32_hvs hy
    have hr := mulX x1 x2 y1 y2
    rw [hvs_dg, hvs_dg, ← val_dg hx, ← val_dg hy] at hr
    exact Runs.piece okD9 mx (x_a xs ys) rfl (by rfl) hr
  · cases h
noncomputable def D10 : Tab := D9.put 53 0 TMul
theorem okD10 : SpecOk Tryd.prog D10 := okD9.put ok_rMul
end Go.Sc

namespace Go.Sc
open Go Go.SX Go.Proofs

def TPow (vs : List V1) (hl : Heap) : Tree (SV × Heap) :=
  match vs, hl with
  | [.g [.ws .u64 4 xs], .c (.int _ .u64 e)], [] => .ret (.one (ws (limbs (val xs ^ e.toNat % ell))), [])
  | _, _ => .fail
noncomputable def rQ (k : List Item) (s : St) : Tree Out := runK D10 Tryd.prog noLoops 400 k s
noncomputable def sQ (xs : List Int) (e : Int) : St := ⟨enterT Tryd.f74 [ws xs, .c (.int false .u64 e)], []⟩
noncomputable def KQ : List Item := leftT [] (rQ [.code (cd Tryd.f74)] (sQ [] 0))
noncomputable def stQ (xs r : List Int) (e i : Int) : St := ⟨slotsOf 24 [(1, one (.int false .u64 e)), (2, pt 0), (4, pt 1), (5, pt 2), (6, one (.int false .i64 i))], [.vals [.ws .u64 4 xs], .vals [.ws .u64 4 [0, 0, 0, 0]], .vals [.ws .u64 4 r]]⟩
theorem q_a (xs : List Int) (e : Int) : pieceT [1, 2, 4, 5, 6] [6] [0, 1, 2] [] (rQ [.code (cd Tryd.f74)] (sQ xs e)) = some ([], KQ, stQ xs [1, 0, 0, 0] e 63) := by kernel_rfl
def sqr (r : List Int) : List Int := limbs (val r * val r % ell)
theorem q_b (xs r : List Int) (e i : Int) : pieceT [1, 2, 4, 5, 6] [6] [0, 1, 2] [true, true, true] (rQ KQ (stQ xs r e i)) =
    some ([decide (i ≥ 0), decide (0 ≤ i), band (Int.fdiv e (2 ^ (min i.toNat 64))) 1 == 1], KQ, stQ xs (limbs (val (sqr r) * val xs % ell)) e (IntKind.i64.wrap (i - 1))) := by kernel_rfl
theorem q_c (xs r : List Int) (e i : Int) : pieceT [1, 2, 4, 5, 6] [6] [0, 1, 2] [true, true, false] (rQ KQ (stQ xs r e i)) =
    some ([decide (i ≥ 0), decide (0 ≤ i), band (Int.fdiv e (2 ^ (min i.toNat 64))) 1 == 1], KQ, stQ xs (sqr r) e (IntKind.i64.wrap (i - 1))) := by kernel_rfl
theorem q_d (xs r : List Int) (e i : Int) : endT Tryd.prog Tryd.f74 [] [false] (rQ KQ (stQ xs r e i)) = some ([decide (i ≥ 0)], .one (ws r), []) := by kernel_rfl
theorem pow_dbl (x : Int) (v b : Nat) : x ^ (2 * v + b) = x ^ v * x ^ v * x ^ b := by
  rw [Int.pow_add, Nat.two_mul, Int.pow_add]
theorem half_step (E i : Nat) : E / 2 ^ i = 2 * (E / 2 ^ (i + 1)) + E / 2 ^ i % 2 := by
  rw [Nat.pow_succ, ← Nat.div_div_eq_div_mul]; omega
theorem power_runs {xs : List Int} {E : Nat} (hE : E < 18446744073709551616) : Runs Tryd.prog D10 Tryd.f74 0 [.code (cd Tryd.f74)] (sQ xs (E : Int)) (.one (ws (limbs (val xs ^ E % ell)))) [] := by
  refine Runs.piece okD10 mx (q_a xs E) rfl (by rfl) ?_
  refine loopG (st := fun k (r : List Int) => stQ xs r E (63 - (k : Int))) (I := fun k r => r = limbs (val xs ^ (E / 2 ^ (64 - k)) % ell)) (n := 64) (fun k r hk hI => ?_) (fun r hI => ?_) 64 0 [1, 0, 0, 0] rfl ?_
  · subst hI
    have hi : (63 - (k : Int)).toNat = 63 - k := by omega
    have hp : (2 : Int) ^ min (63 - k) 64 = ((2 ^ (63 - k) : Nat) : Int) := by rw [Nat.min_eq_left (by omega)]; simp
    have hq : Int.fdiv (E : Int) ((2 ^ (63 - k) : Nat) : Int) = ((E / 2 ^ (63 - k) : Nat) : Int) := by rw [fdiv_pos]; rfl
    have hle : E / 2 ^ (63 - k) ≤ E := Nat.div_le_self _ _
    have hR : R ((E / 2 ^ (63 - k) : Nat) : Int) := ⟨Int.natCast_nonneg _, by omega⟩
    have hb : band ((E / 2 ^ (63 - k) : Nat) : Int) 1 = ((E / 2 ^ (63 - k) : Nat) : Int) % 2 := band_mask hR 1 (by decide)
    have hh := half_step E (63 - k)
    rw [show 63 - k + 1 = 64 - k from by omega] at hh
    have hs : val (sqr (limbs (val xs ^ (E / 2 ^ (64 - k)) % ell))) = val xs ^ (E / 2 ^ (64 - k)) * val xs ^ (E / 2 ^ (64 - k)) % ell := by
      unfold sqr; rw [val_mod, val_mod, ← Int.mul_emod]
    have hw : IntKind.i64.wrap (63 - (k : Int) - 1) = 63 - ((k + 1 : Nat) : Int) := by rw [wrap64 (by omega)]; omega
    by_cases hbit : E / 2 ^ (63 - k) % 2 = 1
    · have hqb := q_b xs (limbs (val xs ^ (E / 2 ^ (64 - k)) % ell)) E (63 - (k : Int))
      refine ⟨_, rfl, fun hr => ?_⟩
      have e1 : (val xs ^ (E / 2 ^ (64 - k)) * val xs ^ (E / 2 ^ (64 - k)) % ell) * val xs % ell = val xs ^ (E / 2 ^ (64 - (k + 1))) % ell := by
        rw [emod_mul, show 64 - (k + 1) = 63 - k from by omega, hh, hbit, pow_dbl, Int.pow_one]
      have e2 : (((E / 2 ^ (63 - k) : Nat) : Int) % 2 == 1) = true := by
        have : ((E / 2 ^ (63 - k) : Nat) : Int) % 2 = 1 := by omega
        rw [this]; rfl
      rw [hi, hp, hq, hb, hs, e1, e2, hw, decide_eq_true (show 63 - (k : Int) ≥ 0 by omega)] at hqb
      exact Runs.piece okD10 mx hqb rfl (by rfl) hr
    · have hqb := q_c xs (limbs (val xs ^ (E / 2 ^ (64 - k)) % ell)) E (63 - (k : Int))
      refine ⟨_, rfl, fun hr => ?_⟩
      have h0 : E / 2 ^ (63 - k) % 2 = 0 := by omega
      have e1 : sqr (limbs (val xs ^ (E / 2 ^ (64 - k)) % ell)) = limbs (val xs ^ (E / 2 ^ (64 - (k + 1))) % ell) := by
        unfold sqr
        rw [val_mod, ← Int.mul_emod, show 64 - (k + 1) = 63 - k from by omega, hh, h0, pow_dbl, Int.pow_zero, Int.mul_one]
      have e2 : (((E / 2 ^ (63 - k) : Nat) : Int) % 2 == 1) = false := by
        have : ((E / 2 ^ (63 - k) : Nat) : Int) % 2 = 0 := by omega
        rw [this]; rfl
      rw [hi, hp, hq, hb, e1, e2, hw, decide_eq_true (show 63 - (k : Int) ≥ 0 by omega)] at hqb
      exact Runs.piece okD10 mx hqb rfl (by rfl) hr
  · subst hI
    have hd := q_d xs (limbs (val xs ^ (E / 2 ^ (64 - 64)) % ell)) E (63 - ((64 : Nat) : Int))
    rw [Nat.sub_self, Nat.pow_zero, Nat.div_one] at hd ⊢
    exact Runs.last okD10 mx hd rfl (by rfl)
  · rw [Nat.sub_zero, Nat.div_eq_of_lt hE, Int.pow_zero]; rfl
theorem ok_rPower : EntryOk Tryd.prog G0 74 TPow := by
  refine EntryOk.runs (S := D10) (fn := Tryd.f74) (c := cd Tryd.f74) (by kernel_rfl) (by kernel_rfl) (by kernel_rfl) (fun vs hl r hl' ok h => ?_)
  unfold TPow at h
  split at h
  · rename_i xs l e
    obtain ⟨rfl, rfl⟩ := Prod.mk.inj (val_ret h)
    obtain ⟨E, rfl, hE⟩ := nat_of (inU.mp ok.2.1)
    exact lit_int [1] (power_runs hE) (by kernel_rfl)
  · cases h
noncomputable def D11 : Tab := D10.put 74 0 TPow
theorem okD11 : SpecOk Tryd.prog D11 := okD10.put ok_rPower
end Go.Sc
