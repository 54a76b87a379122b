/-
  PartyTapes, WHERE WHAT IT READS IS OF BULK AT MOST 1048576: it returns true, and its arguments read as before.
  Condition: the package variable veil/scalar.table holds what the program's text lays (the card ties it).
-/
import Derived.Test.YticfnbhbpcpgeaaDoorPt
import Derived.Test.YticfnbhbpcpgeaaDoorRows
import Derived.Test.YticfnbhbpcpgeaaDoorTie
import Derived.Test.YticfnbhbpcpgeaaDoorCards
import Derived.WalkKit
import Derived.ProofKit
import Derived.OpenShut
import Derived.JoinedCond
import Derived.Deep.DeepHandedRow
import Derived.Lib.LaidTab
namespace Go.Proofs.YticfnbhbpcpgeaaDoor.partyTapes
open Go Go.SX Go.Sc Go.ChangeShapes Go.WideShapes Go.ChangeAt Go.RowKit

theorem own : ownKnob Tryd.prog.godebug = none := by kernel_rfl
theorem func3 : Tryd.prog.funcs[3]? = some Tryd.f3 := by kernel_rfl

def bulk (H : Type) : Bulk H where
  B := Rows.uptoBulk
  A := Rows.uptoBulkAll
  lit := fun l => by cases l <;> simp [Rows.uptoBulk]
  str := fun bs => by simp [Rows.uptoBulk]
  nil := by simp [Rows.uptoBulk]
  slice := fun a b => by simp [Rows.uptoBulk]
  agg := fun a => by simp [Rows.uptoBulk]
  anil := by simp [Rows.uptoBulkAll]
  acons := fun d r => by simp [Rows.uptoBulkAll]

theorem laidOut : laidOutB Tryd.prog = true := by kernel_rfl
theorem readable : ∀ t ∈ Tryd.f3.params.toList, Tryd.prog.readableRec t = true ∧ t < Tryd.prog.types.size := by
  have h : (Tryd.f3.params.toList.all fun t => Tryd.prog.readableRec t && Nat.blt t Tryd.prog.types.size) = true := by kernel_rfl
  intro t ht
  have := List.all_eq_true.mp h t ht
  rw [Bool.and_eq_true] at this
  exact ⟨this.1, by simpa using this.2⟩

/-! ### the table -/
theorem gTab : Tryd.prog.globalNamed "veil/scalar.table" = some 0 := by kernel_rfl
def tblL : List (List Int) := [tab0, tab1, tab2, tab3]
theorem table {W : World} (h : laidMetH Tryd.prog Rows.partyTapesUptoRow.laid W) : ∀ g t d, G0 g = some ⟨t, d⟩ → RelRp (envOf W) t d 0 0 (.pointer (some ⟨g, 0, none⟩)) ∧ t.rf = false := by
  intro g t d hg
  unfold G0 at hg
  split at hg
  · rename_i e
    subst e
    obtain ⟨rfl, rfl⟩ := Option.some.inj hg
    obtain ⟨ps, hL, _⟩ := h
    obtain ⟨g, t, cs, fuel, p, h1, h2, h3, h4⟩ := laid_mem hL (n := "veil/scalar.table") (d := Rows.laid_veil_scalar_table) (by exact List.mem_cons_self)
    obtain rfl := Option.some.inj (gTab.symm.trans h1)
    have et : (Tryd.prog.globals[0]?).map (·.type) = some 102 := by kernel_rfl
    obtain rfl := Option.some.inj (et.symm.trans h2)
    have hc := cells_tab2 (zss := tblL) (k := .u64) (n := 4) (m := 4) (t := 102) (e := 28) (i := 26) (by kernel_rfl) (by kernel_rfl) (by kernel_rfl) (by kernel_rfl) (by kernel_rfl) (by kernel_rfl) h4
    refine ⟨relRp_var gTab h3 ?_ ?_, rfl⟩
    · rw [hc]
      have w : ∀ l ∈ tblL, List.length (α := Int) l = 4 ∧ (∀ x ∈ l, InK .u64 x) := by
        intro l hl
        simp only [tblL, List.mem_cons, List.not_mem_nil, or_false] at hl
        rcases hl with rfl | rfl | rfl | rfl <;> refine ⟨rfl, ?_⟩ <;> simp [tab0, tab1, tab2, tab3, InK, IntKind.min, IntKind.max, IntKind.signed, IntKind.bits]
      have one : ∀ l ∈ tblL, RoT (envOf W) WS l (List.map (Value.int .u64) l) := fun l hl => ⟨(w l hl).1, (w l hl).2, rfl⟩
      exact ⟨_, _, rfl, one tab0 (by simp [tblL]), _, _, rfl, one tab1 (by simp [tblL]), _, _, rfl, one tab2 (by simp [tblL]), _, _, rfl, one tab3 (by simp [tblL]), rfl⟩
    · rw [hc]; rfl
  · cases hg

/-! ### bounds -/
noncomputable def decP (p : Prop) : Bool := @decide p (Classical.propDecidable p)
theorem decP_true {p : Prop} (h : p) : decP p = true := @decide_eq_true p (Classical.propDecidable p) h
theorem of_decP {p : Prop} (h : decP p = true) : p := @of_decide_eq_true p (Classical.propDecidable p) h
noncomputable def TLaw (vs : List V1) (hl : SX.Heap) : Tree (SV × SX.Heap) :=
  match vs, hl with
  | [.g [.c (.int _ .i64 b), .c (.int _ .i64 c)], .c (.ro (.pair (.ws .u64 4) (.pair (.ws .u64 4) (.pair (.ws .u64 4) (.pair (.ws .u64 4) (.pair (.sl (.ws .u64 4)) (.pair (.sl (.ws .u64 4)) .unit)))))) xs n)], [] =>
    Tree.chk (decP (n ≤ 1048575 ∧ ∀ t ∈ (show List TD from xs), OkT t)) (.ret (.one (.c (.bool false true)), []))
  | _, _ => .fail
theorem ok_law : EntryOk Tryd.prog G0 3 TLaw := by
  refine EntryOk.unlitHRuns (S := P7) (fn := Tryd.f3) (c := cd Tryd.f3) (by kernel_rfl) (by kernel_rfl) (by kernel_rfl) (fun vs hl r hl' ok okh h => ?_)
  unfold TLaw at h
  split at h
  · rename_i l b l' c xs n
    obtain ⟨h1, h2⟩ := SX.val_chk h
    obtain ⟨h3, h4⟩ := of_decP h1
    obtain ⟨rfl, rfl⟩ := Prod.mk.inj (SX.val_ret h2)
    exact f3_runs (b := b) (c := c) (ts := xs) (n := n) h4 ok.2.1.1 h3
  · cases h
theorem sum_mem {α : Type} (f : α → Nat) : ∀ {l : List α} {x : α}, x ∈ l → f x ≤ (l.map f).sum
  | y :: l, x, h => by
    rw [List.map_cons, List.sum_cons]
    rcases List.mem_cons.1 h with rfl | h
    · omega
    · have := sum_mem f h; omega
theorem sum_len {α : Type} (f : α → Nat) (hf : ∀ x, 1 ≤ f x) : ∀ l : List α, l.length ≤ (l.map f).sum
  | [] => Nat.zero_le _
  | y :: l => by
    rw [List.map_cons, List.sum_cons, List.length_cons]
    have := sum_len f hf l
    have := hf y
    omega
def wtT (x : TD) : Nat := DTy.wt TP x
theorem wt_tape (x : TD) : wtT x = 16 + (x.2.2.2.2.1.1.length * 4 + 1) + (x.2.2.2.2.2.1.1.length * 4 + 1) := by
  show 4 + (4 + (4 + (4 + (((x.2.2.2.2.1.1.map fun _ => 4).sum + 1) + (((x.2.2.2.2.2.1.1.map fun _ => 4).sum + 1) + 0))))) = _
  rw [List.map_const', List.sum_replicate_nat, List.map_const', List.sum_replicate_nat]
  omega
theorem ok_tapes {xs : List TD} {n : Nat} (hs : (xs.map wtT).sum + 1 ≤ 1048576) (hn : n = xs.length) (hg : ∀ x ∈ xs, okD TP x) : n ≤ 1048575 ∧ ∀ t ∈ xs, OkT t := by
  refine ⟨?_, fun t ht => ?_⟩
  · have := sum_len wtT (fun x => by rw [wt_tape]; omega) xs
    omega
  · have h1 := sum_mem wtT ht
    rw [wt_tape] at h1
    have h2 := okTape_of (hg t ht)
    exact ⟨by have := h2.1; omega, by have := h2.2; omega, h2⟩

set_option maxRecDepth 100000 in
theorem contract (H : Type) (enc : TypeId × Value → H) (W : World) (base : Nat) (args : Array Value) (ds gs : List (DataW H)) (before : List MemPlace)
    (hval : ∀ (j : Nat) t v, Tryd.f3.params[j]? = some t → args[j]? = some v → Value.okWide Tryd.prog W .any base t v)
    (hW : DataW.Whole enc Tryd.prog Tryd.f3.params.toList Rows.partyTapesSpec.vars false W args.toList ds gs before) (hk : Rows.uptoSmall H (ds ++ gs) = true) (hL : laidMetH Tryd.prog Rows.partyTapesUptoRow.laid W) :
    Calls Tryd.prog 3 args W fun e W' => ∃ v, e = .returned v ∧ Rows.partyTapesSpec.post enc Tryd.prog Tryd.f3 false true false false W args v W' := by
  have hW' := hW
  obtain ⟨p, q, hA0, hV, rfl, hfz, hnd⟩ := hW
  have hA : DataW.TrodAll enc Tryd.prog W 0 (fun _ => true) true Tryd.f3.params.toList args.toList ds p := hA0
  have hpar : Tryd.f3.params = #[23, 24] := by kernel_rfl
  rw [hpar] at hA hval
  obtain ⟨v0, vs0, d0, ds0, p0, q0, hargs, rfl, rfl, h0, r0⟩ := trodAll_cons hA
  obtain ⟨v1, vs1, d1, ds1, p1, q1, rfl, rfl, rfl, h1, r1⟩ := trodAll_cons r0
  obtain ⟨rfl, rfl, rfl⟩ := trodAll_nil r1
  obtain rfl : args = #[v0, v1] := by cases args; simp_all
  obtain ⟨rfl, rfl⟩ := trodVars_none hV
  clear hA0
  have hb := of_decide_eq_true hk
  simp only [List.cons_append, List.nil_append, Rows.uptoBulkAll] at hb
  have f0 : fits Tryd.prog 4 23 (.pair (.int .i64) (.pair (.int .i64) .unit)) = true := by kernel_rfl
  have k0 : Value.okWide Tryd.prog W .any base 23 v0 := hval 0 23 v0 rfl rfl
  obtain ⟨x0, a0, _, _⟩ := arg_of (bulk H) (n := 4) (T := 23) (t := .pair (.int .i64) (.pair (.int .i64) .unit)) f0 k0 h0
  obtain ⟨x1, a1, e1, w1⟩ := arg_of (bulk H) (n := 8) (T := 24) (t := .sl TP) (by kernel_rfl) (hval 1 24 v1 rfl rfl) h1
  obtain ⟨xb, xc, xu⟩ := x0
  obtain ⟨xs, len⟩ := x1
  have hex : len = List.length (α := TD) xs := e1.1
  have hw : (List.map wtT (show List TD from xs)).sum + 1 ≤ Rows.uptoBulk d1 := w1
  have hd : Rows.uptoBulk d1 ≤ 1048576 := by omega
  have hrel : RelVs (envOf W) [pr xb xc, .c (.ro TP xs len)] [v0, v1] := ⟨v0, _, rfl, a0, v1, _, rfl, a1, rfl⟩
  have hgood : okC (.ro TP xs len) := (okVs_of hrel).2.1
  have hok := ok_tapes (Nat.le_trans hw hd) hex hgood.2
  have hlaw : (TLaw [pr xb xc, .c (.ro TP xs len)] []).val = some (.one (.c (.bool false true)), []) := by
    show (Tree.chk (decP (len ≤ 1048575 ∧ ∀ t ∈ (show List TD from xs), OkT t)) (.ret (SV.one (.c (.bool false true)), ([] : SX.Heap)))).val = _
    rw [decP_true hok]; rfl
  refine (EntryOk.yes (c := cd Tryd.f3) (vs := [pr xb xc, .c (.ro TP xs len)]) ok_law func3 (by kernel_rfl) (by kernel_rfl) hlaw W (table hL) #[v0, v1] hrel).mono fun e W' he => ?_
  obtain ⟨rfl, hbel⟩ := he
  refine ⟨_, rfl, post_true (tb := 4) hW' rfl ?_ (by kernel_rfl) (by kernel_rfl) laidOut readable hbel⟩
  rfl

/-- A WORLD FOR THE WITNESS: the settled one, the table holding what its initialiser lays. -/
noncomputable def laidWorld (os : Os) : World :=
  { World.holding Tryd.prog os ⟨#[], #[], []⟩ with heap := (World.holding Tryd.prog os ⟨#[], #[], []⟩).heap.modify 0 fun
      | .cells _ t frozen => .cells (tblL.map fun zs => zs.map fun z => Value.int .u64 z).flatten.toArray t frozen
      | o => o }
def wit : Array Value := #[.agg #[.int .i64 0, .int .i64 0], .slice none 0 0]
theorem laid_met (os : Os) : laidMet Tryd.prog Rows.partyTapesUptoRow.laid ((laidWorld os).forCall (fun _ _ => 0) ⟨#[], wit, []⟩).memory :=
  laidMet_of_run' 8 (by kernel_rfl) (by kernel_rfl)
theorem reads (os : Os) {H : Type} (enc : TypeId × Value → H) : ∃ places, DataW.whole enc Tryd.prog ((laidWorld os).forCall (fun _ _ => 0) ⟨#[], wit, []⟩).memory Tryd.f3.params.toList Rows.partyTapesSpec.vars false wit.toList 8 =
    some ([.agg [.lit (.int .i64 0), .lit (.int .i64 0)], .nil], [], places) :=
  ⟨[], by kernel_rfl⟩

set_option maxRecDepth 100000 in
theorem lifted (os : Os) (started : os.Started) (H : Type) (enc : TypeId × Value → H) (F : Stop.Interp) :
    ReturnsInHanded {} Tryd.checked os 3 .any ((Rows.OpenSpec.upto Rows.partyTapesSpec).preRow enc Tryd.prog Tryd.f3 Rows.partyTapesUptoRow.domain false Rows.partyTapesUptoRow.laid) (((Rows.OpenSpec.upto Rows.partyTapesSpec).at F).post enc Tryd.prog Tryd.f3 false true false false) := by
  obtain ⟨places, hx⟩ := reads os enc
  refine returnsInHanded_of_row (C := Tryd.checked) (s := Rows.OpenSpec.upto Rows.partyTapesSpec) own started (by kernel_rfl) func3
    (witness_row_at (enc := enc) (C := Tryd.checked) false (laidWorld os) wit rfl (by kernel_rfl) (by kernel_rfl) (by kernel_rfl)
      (OpenSpec.preRow_of_cond 8 hx (by kernel_rfl) (fun k hk => by cases hk; kernel_rfl) (by kernel_rfl) (laid_met os))) ?_
  intro W base args ds gs before hval hW _ hcond _ hL _ _
  exact contract H enc W base args ds gs before hval hW (hcond _ rfl) hL

theorem over : Rows.PartyTapesUptoSaid :=
  OpenClaim.holds_of_cond 3 Tryd.f3 rfl rfl rfl rfl rfl rfl rfl ⟨rfl, rfl, rfl, rfl, rfl⟩ rfl rfl rfl rfl rfl (by kernel_rfl) func3 (by kernel_rfl)
    (of_decide_eq_true (by kernel_rfl)) (by unfold Func.isWrapper; first | (rw [if_pos (by decide +kernel)]; kernel_rfl) | (rw [if_neg (by decide +kernel)]; exact ⟨rfl, rfl⟩))
    (fun os started H enc _ F => by rw [OpenClaim.pre_eq_preRow]; exact lifted os started H enc F)

/-- No parameter wants a stand-in; the program's own looks are off: what the card asks. -/
theorem plain (f : FuncId) (fn : Func) (hf : Tryd.pinned.checked.prog.funcNamed "veil/veillaw14.PartyTapes" = some f) (hfn : Tryd.pinned.checked.prog.funcs[f]? = some fn) :
    false = Tryd.pinned.checked.prog.looks [] ∧ ∀ (j : Nat) t, fn.params[j]? = some t → Tryd.pinned.checked.prog.wantsStandIn t = false := by
  obtain rfl : f = 3 := Option.some.inj ((show Tryd.prog.funcNamed "veil/veillaw14.PartyTapes" = some 3 by kernel_rfl).symm.trans hf) |>.symm
  obtain rfl : fn = Tryd.f3 := (Option.some.inj (func3.symm.trans hfn)).symm
  refine ⟨by kernel_rfl, fun j t ht => ?_⟩
  have h : (Tryd.f3.params.toList.all fun t => Tryd.prog.wantsStandIn t == false) = true := by kernel_rfl
  have := List.all_eq_true.mp h t (Array.mem_def.mp (Array.mem_of_getElem? ht))
  exact eq_of_beq this

/-- THE CARD -/
theorem proved : Rows.PartyTapesUptoCardSaid :=
  Claim7.holds_tied_plain_at .later [] _ _ _ _ over (fun _ h => by cases h) (by kernel_rfl) (fun _ h => by cases h) partyTapesUpto_row_tie rfl ⟨rfl, rfl⟩ (by kernel_rfl) rfl plain (by kernel_rfl)
end Go.Proofs.YticfnbhbpcpgeaaDoor.partyTapes
