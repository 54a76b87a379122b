/-
  RangesTape, WHERE WHAT IT READS IS OF BULK AT MOST 1048576: it returns true, and its arguments read as before.
  Condition: the package variable veil/scalar.table holds what the program's text lays (the card ties it).
-/
import Derived.Test.YticfnbhbpcpgeaaDoorPm8
import Derived.Test.YticfnbhbpcpgeaaDoorSx30
import Derived.Test.YticfnbhbpcpgeaaDoorRows
import Derived.Test.YticfnbhbpcpgeaaDoorTie
import Derived.Test.YticfnbhbpcpgeaaDoorCards
import Derived.WalkKit
import Derived.ProofKit
import Derived.OpenShut
import Derived.JoinedCond
import Derived.Deep.DeepHandedRow
import Derived.Lib.LaidTab
namespace Go.Proofs.YticfnbhbpcpgeaaDoor.rangesTape
open Go Go.SX Go.Sc Go.ChangeShapes Go.WideShapes Go.ChangeAt Go.RowKit

theorem own : ownKnob Tryd.prog.godebug = none := by kernel_rfl
theorem func5 : Tryd.prog.funcs[5]? = some Tryd.f5 := by kernel_rfl

def bulk (H : Type) : Bulk H where
  B := Rows.uptoBulk
  A := Rows.uptoBulkAll
  lit := fun l => by cases l <;> simp [Rows.uptoBulk]
  str := fun bs => by simp [Rows.uptoBulk]
  nil := by simp [Rows.uptoBulk]
  slice := fun a b => by simp [Rows.uptoBulk]
  agg := fun a => by simp [Rows.uptoBulk]
  anil := by simp [Rows.uptoBulkAll]
  acons := fun d r => by simp [Rows.uptoBulkAll]

theorem laidOut : laidOutB Tryd.prog = true := by kernel_rfl
theorem readable : ∀ t ∈ Tryd.f5.params.toList, Tryd.prog.readableRec t = true ∧ t < Tryd.prog.types.size := by
  have h : (Tryd.f5.params.toList.all fun t => Tryd.prog.readableRec t && Nat.blt t Tryd.prog.types.size) = true := by kernel_rfl
  intro t ht
  have := List.all_eq_true.mp h t ht
  rw [Bool.and_eq_true] at this
  exact ⟨this.1, by simpa using this.2⟩

/-! ### the table -/
theorem gTab : Tryd.prog.globalNamed "veil/scalar.table" = some 0 := by kernel_rfl
def tblL : List (List Int) := [tab0, tab1, tab2, tab3]
theorem table {W : World} (h : laidMetH Tryd.prog Rows.rangesTapeUptoRow.laid W) : ∀ g t d, G0 g = some ⟨t, d⟩ → RelRp (envOf W) t d 0 0 (.pointer (some ⟨g, 0, none⟩)) := by
  intro g t d hg
  unfold G0 at hg
  split at hg
  · rename_i e
    subst e
    obtain ⟨rfl, rfl⟩ := Option.some.inj hg
    obtain ⟨ps, hL, _⟩ := h
    obtain ⟨g, t, cs, fuel, p, h1, h2, h3, h4⟩ := laid_mem hL (n := "veil/scalar.table") (d := Rows.laid_veil_scalar_table) (by exact List.mem_cons_self)
    obtain rfl := Option.some.inj (gTab.symm.trans h1)
    have et : (Tryd.prog.globals[0]?).map (·.type) = some 102 := by kernel_rfl
    obtain rfl := Option.some.inj (et.symm.trans h2)
    have hc := cells_tab2 (zss := tblL) (k := .u64) (n := 4) (m := 4) (t := 102) (e := 28) (i := 26) (by kernel_rfl) (by kernel_rfl) (by kernel_rfl) (by kernel_rfl) (by kernel_rfl) (by kernel_rfl) h4
    refine relRp_var gTab h3 ?_ ?_
    · rw [hc]
      have w : ∀ l ∈ tblL, List.length (α := Int) l = 4 ∧ (∀ x ∈ l, InK .u64 x) := by
        intro l hl
        simp only [tblL, List.mem_cons, List.not_mem_nil, or_false] at hl
        rcases hl with rfl | rfl | rfl | rfl <;> refine ⟨rfl, ?_⟩ <;> simp [tab0, tab1, tab2, tab3, InK, IntKind.min, IntKind.max, IntKind.signed, IntKind.bits]
      have one : ∀ l ∈ tblL, RoT (envOf W) WS l (List.map (Value.int .u64) l) := fun l hl => ⟨(w l hl).1, (w l hl).2, rfl⟩
      exact ⟨_, _, rfl, one tab0 (by simp [tblL]), _, _, rfl, one tab1 (by simp [tblL]), _, _, rfl, one tab2 (by simp [tblL]), _, _, rfl, one tab3 (by simp [tblL]), rfl⟩
    · rw [hc]; rfl
  · cases hg

theorem wt_bytes (x : List Int × Nat) : DTy.wt (.sl (.int .u8)) x = x.1.length + 1 := by
  show (List.map (fun _ : Int => 1) x.1).sum + 1 = _
  rw [sum_ones]

set_option maxRecDepth 100000 in
theorem contract (H : Type) (enc : TypeId × Value → H) (W : World) (base : Nat) (args : Array Value) (ds gs : List (DataW H)) (before : List MemPlace)
    (hval : ∀ (j : Nat) t v, Tryd.f5.params[j]? = some t → args[j]? = some v → Value.okWide Tryd.prog W .any base t v)
    (hW : DataW.Whole enc Tryd.prog Tryd.f5.params.toList Rows.rangesTapeSpec.vars false W args.toList ds gs before) (hk : Rows.uptoSmall H (ds ++ gs) = true) (hL : laidMetH Tryd.prog Rows.rangesTapeUptoRow.laid W) :
    Calls Tryd.prog 5 args W fun e W' => ∃ v, e = .returned v ∧ Rows.rangesTapeSpec.post enc Tryd.prog Tryd.f5 false true false false W args v W' := by
  have hW' := hW
  obtain ⟨p, q, hA0, hV, rfl, hfz, hnd⟩ := hW
  have hA : DataW.TrodAll enc Tryd.prog W 0 (fun _ => true) true Tryd.f5.params.toList args.toList ds p := hA0
  have hpar : Tryd.f5.params = #[23, 59, 28, 28] := by kernel_rfl
  rw [hpar] at hA hval
  obtain ⟨v0, vs0, d0, ds0, p0, q0, hargs, rfl, rfl, h0, r0⟩ := trodAll_cons hA
  obtain ⟨v1, vs1, d1, ds1, p1, q1, rfl, rfl, rfl, h1, r1⟩ := trodAll_cons r0
  obtain ⟨v2, vs2, d2, ds2, p2, q2, rfl, rfl, rfl, h2, r2⟩ := trodAll_cons r1
  obtain ⟨v3, vs3, d3, ds3, p3, q3, rfl, rfl, rfl, h3, r3⟩ := trodAll_cons r2
  obtain ⟨rfl, rfl, rfl⟩ := trodAll_nil r3
  obtain rfl : args = #[v0, v1, v2, v3] := by cases args; simp_all
  obtain ⟨rfl, rfl⟩ := trodVars_none hV
  clear hA0
  have hb := of_decide_eq_true hk
  simp only [List.cons_append, List.nil_append, Rows.uptoBulkAll] at hb
  have f0 : fits Tryd.prog 4 23 (.pair (.int .i64) (.pair (.int .i64) .unit)) = true := by kernel_rfl
  have k0 : Value.okWide Tryd.prog W .any base 23 v0 := hval 0 23 v0 rfl rfl
  obtain ⟨x0, a0, _, _⟩ := arg_of (bulk H) (n := 4) (T := 23) (t := .pair (.int .i64) (.pair (.int .i64) .unit)) f0 k0 h0
  obtain ⟨x1, a1, e1, w1⟩ := arg_of (bulk H) (n := 4) (T := 59) (t := .sl (.int .u8)) (by kernel_rfl) (hval 1 59 v1 rfl rfl) h1
  obtain ⟨x2, a2, _, _⟩ := arg_of (bulk H) (n := 4) (T := 28) (t := .ws .u64 4) (by kernel_rfl) (hval 2 28 v2 rfl rfl) h2
  obtain ⟨x3, a3, _, _⟩ := arg_of (bulk H) (n := 4) (T := 28) (t := .ws .u64 4) (by kernel_rfl) (hval 3 28 v3 rfl rfl) h3
  obtain ⟨xb, xc, xu⟩ := x0
  obtain ⟨xs, len⟩ := x1
  obtain ⟨e1, _⟩ := e1
  have e1 : len = xs.length := e1
  have w1 : xs.length + 1 ≤ Rows.uptoBulk d1 := (wt_bytes (xs, len)) ▸ w1
  have hd : Rows.uptoBulk d1 ≤ 1048576 := by omega
  have hlen : len ≤ 1048576 := e1 ▸ Nat.le_of_succ_le (Nat.le_trans w1 hd)
  have hlaw : (bL xb xc xs len x2 x3).val = some (.one (.c (.bool false true)), []) := law xb xc xs len x2 x3 e1.symm hlen
  refine (EntryOk.yes (c := cd Tryd.f5) (vs := [pr xb xc, .c (.ro B1 xs len), ws x2, ws x3]) ok_law func5 (by kernel_rfl) (by kernel_rfl) hlaw W (table hL) #[v0, v1, v2, v3] ⟨v0, _, rfl, a0, v1, _, rfl, a1, v2, _, rfl, a2, v3, _, rfl, a3, rfl⟩).mono fun e W' he => ?_
  obtain ⟨rfl, hbel⟩ := he
  refine ⟨_, rfl, post_true (tb := 4) hW' rfl ?_ (by kernel_rfl) (by kernel_rfl) laidOut readable hbel⟩
  rfl

/-- A WORLD FOR THE WITNESS: the settled one, the table holding what its initialiser lays. -/
noncomputable def laidWorld (os : Os) : World :=
  { World.holding Tryd.prog os ⟨#[], #[], []⟩ with heap := (World.holding Tryd.prog os ⟨#[], #[], []⟩).heap.modify 0 fun
      | .cells _ t frozen => .cells (tblL.map fun zs => zs.map fun z => Value.int .u64 z).flatten.toArray t frozen
      | o => o }
def wit : Array Value := #[.agg #[.int .i64 0, .int .i64 0], .slice none 0 0, .agg (Array.replicate 4 (.int .u64 0)), .agg (Array.replicate 4 (.int .u64 0))]
theorem laid_met (os : Os) : laidMet Tryd.prog Rows.rangesTapeUptoRow.laid ((laidWorld os).forCall (fun _ _ => 0) ⟨#[], wit, []⟩).memory :=
  laidMet_of_run' 8 (by kernel_rfl) (by kernel_rfl)
theorem reads (os : Os) {H : Type} (enc : TypeId × Value → H) : ∃ places, DataW.whole enc Tryd.prog ((laidWorld os).forCall (fun _ _ => 0) ⟨#[], wit, []⟩).memory Tryd.f5.params.toList Rows.rangesTapeSpec.vars false wit.toList 8 =
    some ([.agg [.lit (.int .i64 0), .lit (.int .i64 0)], .nil, .agg (List.replicate 4 (.lit (.int .u64 0))), .agg (List.replicate 4 (.lit (.int .u64 0)))], [], places) :=
  ⟨[], by kernel_rfl⟩

set_option maxRecDepth 100000 in
theorem lifted (os : Os) (started : os.Started) (H : Type) (enc : TypeId × Value → H) (F : Stop.Interp) :
    ReturnsInHanded {} Tryd.checked os 5 .any ((Rows.OpenSpec.upto Rows.rangesTapeSpec).preRow enc Tryd.prog Tryd.f5 Rows.rangesTapeUptoRow.domain false Rows.rangesTapeUptoRow.laid) (((Rows.OpenSpec.upto Rows.rangesTapeSpec).at F).post enc Tryd.prog Tryd.f5 false true false false) := by
  obtain ⟨places, hx⟩ := reads os enc
  refine returnsInHanded_of_row (C := Tryd.checked) (s := Rows.OpenSpec.upto Rows.rangesTapeSpec) own started (by kernel_rfl) func5
    (witness_row_at (enc := enc) (C := Tryd.checked) false (laidWorld os) wit rfl (by kernel_rfl) (by kernel_rfl) (by kernel_rfl)
      (OpenSpec.preRow_of_cond 8 hx (by kernel_rfl) (fun k hk => by cases hk; kernel_rfl) (by kernel_rfl) (laid_met os))) ?_
  intro W base args ds gs before hval hW _ hcond _ hL _ _
  exact contract H enc W base args ds gs before hval hW (hcond _ rfl) hL

theorem over : Rows.RangesTapeUptoSaid :=
  OpenClaim.holds_of_cond 5 Tryd.f5 rfl rfl rfl rfl rfl rfl rfl ⟨rfl, rfl, rfl, rfl, rfl⟩ rfl rfl rfl rfl rfl (by kernel_rfl) func5 (by kernel_rfl)
    (of_decide_eq_true (by kernel_rfl)) (by unfold Func.isWrapper; first | (rw [if_pos (by decide +kernel)]; kernel_rfl) | (rw [if_neg (by decide +kernel)]; exact ⟨rfl, rfl⟩))
    (fun os started H enc _ F => by rw [OpenClaim.pre_eq_preRow]; exact lifted os started H enc F)

/-- No parameter wants a stand-in; the program's own looks are off: what the card asks. -/
theorem plain (f : FuncId) (fn : Func) (hf : Tryd.pinned.checked.prog.funcNamed "veil/veillaw13.RangesTape" = some f) (hfn : Tryd.pinned.checked.prog.funcs[f]? = some fn) :
    false = Tryd.pinned.checked.prog.looks [] ∧ ∀ (j : Nat) t, fn.params[j]? = some t → Tryd.pinned.checked.prog.wantsStandIn t = false := by
  obtain rfl : f = 5 := Option.some.inj ((show Tryd.prog.funcNamed "veil/veillaw13.RangesTape" = some 5 by kernel_rfl).symm.trans hf) |>.symm
  obtain rfl : fn = Tryd.f5 := (Option.some.inj (func5.symm.trans hfn)).symm
  refine ⟨by kernel_rfl, fun j t ht => ?_⟩
  have h : (Tryd.f5.params.toList.all fun t => Tryd.prog.wantsStandIn t == false) = true := by kernel_rfl
  have := List.all_eq_true.mp h t (Array.mem_def.mp (Array.mem_of_getElem? ht))
  exact eq_of_beq this

/-- THE CARD -/
theorem proved : Rows.RangesTapeUptoCardSaid :=
  Claim7.holds_tied_plain_at .later [] _ _ _ _ over (fun _ h => by cases h) (by kernel_rfl) (fun _ h => by cases h) rangesTapeUpto_row_tie rfl ⟨rfl, rfl⟩ (by kernel_rfl) rfl plain (by kernel_rfl)
end Go.Proofs.YticfnbhbpcpgeaaDoor.rangesTape
