/- Layer 13: Begin's pieces. -/
import Derived.Test.YtdblbibjggeikaaGreatDoorF1
import Derived.Test.YtdblbibjggeikaaGreatDoorB6
set_option linter.unusedSectionVars false
set_option linter.unusedVariables false
set_option linter.unusedSimpArgs false
namespace Go.Sc
open Go Go.SX Go.Proofs
variable [Level] [Lone]
structure Vw where
 A : List Int
 S : List Int
 T1 : List Int
 T2 : List Int
 Y : List Int
 Z : List Int
 X : List Int
 Tx : List Int
 Mu : List Int
 Th : List Int
noncomputable def L13 : Tab := L12
theorem okL13 : SpecOk Tryz.prog L13 := okL12
noncomputable abbrev roomW (k : Nat) : Bool := SX.room k (Tryz.prog.bytesOf 26) && SX.room k 1
theorem roomWk {n : Nat} (h : n <= 1048576) : roomW n = true := roomS h
theorem alw_mul {b c : Int} (h : alw b c = true) : 1 <= b * c /\ b * c <= 1024 /\ iw (b * c) = b * c := by
 obtain ⟨⟨b1, b2⟩, c1, c2⟩ := alw_of h;have h1 : 1 * 1 <= b * c := Int.mul_le_mul b1 c1 (by decide) (by omega)
 have h2 : b * c <= 64 * 16 := Int.mul_le_mul b2 c2 (by omega) (by decide)
 generalize b * c = q at *
 refine ⟨by omega, by omega, ?_⟩
 unfold iw;rw [IntKind.wrap_i64];omega
theorem map_range_snoc {α : Type} (f : Nat -> α) (k : Nat) : (List.range k).map f ++ [f k] = (List.range (k + 1)).map f := by
 rw [List.range_succ, List.map_append];rfl
theorem map_range_len {α : Type} (f : Nat -> α) (k : Nat) : ((List.range k).map f).length = k := by rw [List.length_map, List.length_range]
theorem lroom {n : Nat} (h : n <= 1048576) : (SX.room n (Tryz.prog.bytesOf 35) && SX.room n 1) = true := by
 rw [show Tryz.prog.bytesOf 35 = 32 from by kernel_rfl, room_ok (by omega), room_ok (by omega)]; rfl
noncomputable def L14 : Tab := L13
theorem okL14 : SpecOk Tryz.prog L14 := okL13
end Go.Sc
