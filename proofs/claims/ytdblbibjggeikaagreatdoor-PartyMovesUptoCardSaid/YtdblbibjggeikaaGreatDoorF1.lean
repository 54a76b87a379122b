/- Layer 13: parameters, tapes, what fits. -/
import Derived.Test.YtdblbibjggeikaaGreatDoorE8
set_option linter.unusedSectionVars false
set_option linter.unusedVariables false
set_option linter.unusedSimpArgs false
namespace Go.Sc
open Go Go.SX Go.Proofs
variable [Level] [Lone]
abbrev OP : DTy := .pair (.int .u64) (.pair WS .unit)
abbrev OpT := List OP.den
def topV (b : Int) : Int := if b >= 64 then 0 else IntKind.u64.wrap (1 * 2 ^ (min b.toNat 64))
theorem top_a (b c : Int) : (bodyT L10 Tryz.prog allLoops Tryz.f109 (cd Tryz.f109) [pr b c] []).path [true] = some ([decide (b >= 64)], .tup [.c (.int true .u64 0), .c (.bool true false)], []) := by kernel_rfl
theorem top_b (b c : Int) : (bodyT L10 Tryz.prog allLoops Tryz.f109 (cd Tryz.f109) [pr b c] []).path [false, true] = some ([decide (b >= 64), decide (0 <= b)], .tup [.c (.int false .u64 (IntKind.u64.wrap (1 * 2 ^ (min b.toNat 64)))), .c (.bool true true)], []) := by kernel_rfl
def tapeF (a r t1 t2 : List Int) (sl : List (List Int)) (nl : Nat) (sr : List (List Int)) (nr : Nat) : List FCell := [.ws .u64 4 a, .ws .u64 4 r, .ws .u64 4 t1, .ws .u64 4 t2, .c (.ro WS sl nl), .c (.ro WS sr nr)]
def TrTop (vs : List V1) (hl : Heap) : Tree (SV × Heap) :=
 match vs, hl with
 | [.g [.c (.int _ .i64 b), .c (.int _ .i64 _)]], [] => Tree.chk (decide (0 <= b)) (.ret (.tup [.c (.int false .u64 (topV b)), .c (.bool false (decide (b < 64)))], []))
 | _, _ => .fail
theorem ok_rTop : EntryOk Tryz.prog G0 109 TrTop := by
 refine (EntryOk.subU (bodyT_ok okL10 mx (un := allLoops) (fn := Tryz.f109) (c := cd Tryz.f109) (by kernel_rfl) (by kernel_rfl) (by kernel_rfl)).unlitG) (fun vs hl r ok h => ?_)
 unfold TrTop at h;split at h
 ·rename_i l b l' c;obtain ⟨h1, h2⟩ := val_chk h;have h1 := ofD h1
  obtain rfl := val_ret h2;by_cases hb : b >= 64
  ·refine ⟨_, Tree.path_val (cs := [true]) ((top_a b c).trans (by rw [deT hb])), ?_⟩
   rw [topV, if_pos hb, deF (by omega)]; rfl
  ·refine ⟨_, Tree.path_val (cs := [false, true]) ((top_b b c).trans (by rw [deF hb, deT h1])), ?_⟩
   rw [topV, if_neg hb, deT (by omega)]; rfl
 ·cases h
theorem take_le {α : Type} (l : List α) (n : Nat) : (l.take n).length <= n := by rw [List.length_take]; exact Nat.min_le_left _ _
noncomputable def L11 : Tab := (L10.put 109 0 TrTop)
theorem okL11 : SpecOk Tryz.prog L11 := (okL10.put ok_rTop)
def opV (vs : OpT) (i : Nat) : Int := (vs.getD i OP.dflt).1
section
variable (B D Q : List Int) (gs hs : List PL.den) (ng nh : Nat) (b c : Int) (vs : OpT) (nv i : Nat) (a r t1 t2 : List Int) (sl : List (List Int)) (nl : Nat) (sr : List (List Int)) (nr : Nat)
abbrev fiE (x : Int) : SV := .one (.c (.int true .i64 x))
end
def opOk (b v : Int) : Bool := !(decide (b < 64) && decide (v >= topV b))
theorem bneq {x y : Int} (h : x ≠ y) : (x != y) = true := by simp [h]
theorem bneq' {x y : Int} (h : x = y) : (x != y) = false := by simp [h]
noncomputable def L12 : Tab := L11
theorem okL12 : SpecOk Tryz.prog L12 := okL11
end Go.Sc
