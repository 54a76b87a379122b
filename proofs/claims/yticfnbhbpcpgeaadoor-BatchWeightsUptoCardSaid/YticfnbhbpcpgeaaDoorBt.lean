/-
  BatchWeights, WHERE WHAT IT READS IS OF BULK AT MOST 1048576: it returns true, and its arguments read as before.
  Condition: the package variables veil/scalar.table, veil/hash.rounds, veil/hash.start, veil/veilref03.round and veil/veilref03.first hold what the program's text lays (the card ties them).
-/
import Derived.Test.YticfnbhbpcpgeaaDoorTr
import Derived.Test.YticfnbhbpcpgeaaDoorSx30
import Derived.Test.YticfnbhbpcpgeaaDoorRows
import Derived.Test.YticfnbhbpcpgeaaDoorTie
import Derived.Test.YticfnbhbpcpgeaaDoorCards
import Derived.WalkKit
import Derived.ProofKit
import Derived.OpenShut
import Derived.JoinedCond
import Derived.Deep.DeepHandedRow
import Derived.Lib.LaidTab
namespace Go.Proofs.YticfnbhbpcpgeaaDoor.batchWeights
open Go Go.SX Go.Sc Go.ChangeShapes Go.WideShapes Go.ChangeAt Go.RowKit

theorem own : ownKnob Tryd.prog.godebug = none := by kernel_rfl
theorem func4 : Tryd.prog.funcs[4]? = some Tryd.f4 := by kernel_rfl

def bulk (H : Type) : Bulk H where
  B := Rows.uptoBulk
  A := Rows.uptoBulkAll
  lit := fun l => by cases l <;> simp [Rows.uptoBulk]
  str := fun bs => by simp [Rows.uptoBulk]
  nil := by simp [Rows.uptoBulk]
  slice := fun a b => by simp [Rows.uptoBulk]
  agg := fun a => by simp [Rows.uptoBulk]
  anil := by simp [Rows.uptoBulkAll]
  acons := fun d r => by simp [Rows.uptoBulkAll]

theorem laidOut : laidOutB Tryd.prog = true := by kernel_rfl
theorem readable : ∀ t ∈ Tryd.f4.params.toList, Tryd.prog.readableRec t = true ∧ t < Tryd.prog.types.size := by
  have h : (Tryd.f4.params.toList.all fun t => Tryd.prog.readableRec t && Nat.blt t Tryd.prog.types.size) = true := by kernel_rfl
  intro t ht
  have := List.all_eq_true.mp h t ht
  rw [Bool.and_eq_true] at this
  exact ⟨this.1, by simpa using this.2⟩

/-! ### the tables -/
def tblL : List (List Int) := [tab0, tab1, tab2, tab3]
theorem rowTab {W : World} {nm : String} {dd : DataW Unit} {g t i n : Nat} {zs : List Int} (h : laidMetH Tryd.prog Rows.batchWeightsUptoRow.laid W) (hm : (nm, dd) ∈ Rows.batchWeightsUptoRow.laid) (hg : Tryd.prog.globalNamed nm = some g)
    (et : (Tryd.prog.globals[g]?).map (·.type) = some t) (ht : Tryd.prog.underlying t = some (.array n i)) (hi : Tryd.prog.underlying i = some (.int .u64)) (hci : Tryd.prog.cellsOf i = 1) (hct : Tryd.prog.cellsOf t = n)
    (hd : dd = Lib.tabData .u64 zs) (hw : zs.length = n ∧ ∀ x ∈ zs, InK .u64 x) : RelRp (envOf W) (.ws .u64 n) zs 0 0 (.pointer (some ⟨g, 0, none⟩)) := by
  obtain ⟨ps, hL, _⟩ := h
  obtain ⟨g', t', cs, fuel, p, h1, h2, h3, h4⟩ := laid_mem hL hm
  obtain rfl := Option.some.inj (hg.symm.trans h1)
  obtain rfl := Option.some.inj (et.symm.trans h2)
  rw [hd] at h4
  have hc := Lib.cells_of_tab ht hi hci hct h4
  refine relRp_var hg h3 ?_ ?_
  · rw [hc]; exact ⟨hw.1, hw.2, rfl⟩
  · rw [hc, List.length_map]; exact hw.1
theorem kT_in : kT.length = 80 ∧ ∀ x ∈ kT, InK .u64 x := by
  refine ⟨kT_len, ?_⟩
  have h : (kT.all fun x => decide ((0 : Int) ≤ x) && decide (x ≤ 18446744073709551615)) = true := by kernel_rfl
  intro x hx
  have := List.all_eq_true.mp h x hx
  rw [Bool.and_eq_true] at this
  exact ⟨of_decide_eq_true this.1, of_decide_eq_true this.2⟩
theorem iT_in : iT.length = 8 ∧ ∀ x ∈ iT, InK .u64 x := by
  refine ⟨iT_len, ?_⟩
  have h : (iT.all fun x => decide ((0 : Int) ≤ x) && decide (x ≤ 18446744073709551615)) = true := by kernel_rfl
  intro x hx
  have := List.all_eq_true.mp h x hx
  rw [Bool.and_eq_true] at this
  exact ⟨of_decide_eq_true this.1, of_decide_eq_true this.2⟩
theorem gTab : Tryd.prog.globalNamed "veil/scalar.table" = some 0 := by kernel_rfl
theorem scalarTab {W : World} (h : laidMetH Tryd.prog Rows.batchWeightsUptoRow.laid W) : RelRp (envOf W) TB tbl 0 0 (.pointer (some ⟨0, 0, none⟩)) := by
  obtain ⟨ps, hL, _⟩ := h
  obtain ⟨g, t, cs, fuel, p, h1, h2, h3, h4⟩ := laid_mem hL (n := "veil/scalar.table") (d := Rows.laid_veil_scalar_table) (by repeat (first | exact List.mem_cons_self | apply List.mem_cons_of_mem))
  obtain rfl := Option.some.inj (gTab.symm.trans h1)
  have et : (Tryd.prog.globals[0]?).map (·.type) = some 102 := by kernel_rfl
  obtain rfl := Option.some.inj (et.symm.trans h2)
  have hc := cells_tab2 (zss := tblL) (k := .u64) (n := 4) (m := 4) (t := 102) (e := 28) (i := 26) (by kernel_rfl) (by kernel_rfl) (by kernel_rfl) (by kernel_rfl) (by kernel_rfl) (by kernel_rfl) h4
  refine relRp_var gTab h3 ?_ ?_
  · rw [hc]
    have w : ∀ l ∈ tblL, List.length (α := Int) l = 4 ∧ (∀ x ∈ l, InK .u64 x) := by
      intro l hl
      simp only [tblL, List.mem_cons, List.not_mem_nil, or_false] at hl
      rcases hl with rfl | rfl | rfl | rfl <;> refine ⟨rfl, ?_⟩ <;> simp [tab0, tab1, tab2, tab3, InK, IntKind.min, IntKind.max, IntKind.signed, IntKind.bits]
    have one : ∀ l ∈ tblL, RoT (envOf W) WS l (List.map (Value.int .u64) l) := fun l hl => ⟨(w l hl).1, (w l hl).2, rfl⟩
    exact ⟨_, _, rfl, one tab0 (by simp [tblL]), _, _, rfl, one tab1 (by simp [tblL]), _, _, rfl, one tab2 (by simp [tblL]), _, _, rfl, one tab3 (by simp [tblL]), rfl⟩
  · rw [hc]; rfl
theorem table {W : World} (h : laidMetH Tryd.prog Rows.batchWeightsUptoRow.laid W) : ∀ g t d, G1 g = some ⟨t, d⟩ → RelRp (envOf W) t d 0 0 (.pointer (some ⟨g, 0, none⟩)) := by
  intro g t d hg
  unfold G1 at hg
  split at hg
  · rename_i e
    subst e
    obtain ⟨rfl, rfl⟩ := Option.some.inj hg
    exact scalarTab h
  split at hg
  · rename_i e
    subst e
    obtain ⟨rfl, rfl⟩ := Option.some.inj hg
    exact rowTab h (nm := "veil/hash.rounds") (dd := Rows.laid_veil_hash_rounds) (t := 163) (i := 26) (by repeat (first | exact List.mem_cons_self | apply List.mem_cons_of_mem)) (by kernel_rfl) (by kernel_rfl) (by kernel_rfl) (by kernel_rfl) (by kernel_rfl) (by kernel_rfl) (by kernel_rfl) kT_in
  split at hg
  · rename_i e
    subst e
    obtain ⟨rfl, rfl⟩ := Option.some.inj hg
    exact rowTab h (nm := "veil/hash.start") (dd := Rows.laid_veil_hash_start) (t := 120) (i := 26) (by repeat (first | exact List.mem_cons_self | apply List.mem_cons_of_mem)) (by kernel_rfl) (by kernel_rfl) (by kernel_rfl) (by kernel_rfl) (by kernel_rfl) (by kernel_rfl) (by kernel_rfl) iT_in
  split at hg
  · rename_i e
    subst e
    obtain ⟨rfl, rfl⟩ := Option.some.inj hg
    exact rowTab h (nm := "veil/veilref03.round") (dd := Rows.laid_veil_veilref03_round) (t := 163) (i := 26) (by repeat (first | exact List.mem_cons_self | apply List.mem_cons_of_mem)) (by kernel_rfl) (by kernel_rfl) (by kernel_rfl) (by kernel_rfl) (by kernel_rfl) (by kernel_rfl) (by kernel_rfl) kT_in
  split at hg
  · rename_i e
    subst e
    obtain ⟨rfl, rfl⟩ := Option.some.inj hg
    exact rowTab h (nm := "veil/veilref03.first") (dd := Rows.laid_veil_veilref03_first) (t := 120) (i := 26) (by repeat (first | exact List.mem_cons_self | apply List.mem_cons_of_mem)) (by kernel_rfl) (by kernel_rfl) (by kernel_rfl) (by kernel_rfl) (by kernel_rfl) (by kernel_rfl) (by kernel_rfl) iT_in
  · cases hg

theorem sum_mem {α : Type} (f : α → Nat) : ∀ {l : List α} {x : α}, x ∈ l → f x ≤ (l.map f).sum
  | y :: l, x, h => by
    rw [List.map_cons, List.sum_cons]
    rcases List.mem_cons.1 h with rfl | h
    · omega
    · have := sum_mem f h; omega
theorem sum_len {α : Type} (f : α → Nat) (hf : ∀ x, 1 ≤ f x) : ∀ l : List α, l.length ≤ (l.map f).sum
  | [] => Nat.zero_le _
  | y :: l => by
    rw [List.map_cons, List.sum_cons, List.length_cons]
    have := sum_len f hf l
    have := hf y
    omega
def wtI (x : BIt) : Nat := DTy.wt ITEM x
theorem wt_item (x : BIt) : wtI x = x.1.size + (1 + (1 + 0)) + (x.2.2.1.1.length * 32 + 1 + (x.2.2.2.1.1.length + 1 + 0)) := by
  show x.1.size + ((1 + (1 + 0)) + (((x.2.2.1.1.map fun _ => 32).sum + 1) + (((x.2.2.2.1.1.map fun _ => 1).sum + 1) + 0))) = _
  rw [sum_ones, List.map_const', List.sum_replicate_nat]
  omega
theorem ok_items {xs : List BIt} {n : Nat} (hs : (xs.map wtI).sum ≤ 1048576) (hn : n ≤ xs.length) (hg : ∀ x ∈ xs, itGood x) : n ≤ 1000000 ∧ ∀ i, i < n → Lb.okX (Lb.it xs i) := by
  have h5 : xs.length * 4 ≤ (xs.map wtI).sum := by
    clear hs hn hg
    induction xs with
    | nil => exact Nat.zero_le _
    | cons y l ih =>
      rw [List.map_cons, List.sum_cons, List.length_cons, wt_item]
      omega
  refine ⟨by omega, fun i hi => ?_⟩
  have hm : Lb.it xs i ∈ xs := by
    unfold Lb.it
    rw [List.getD_eq_getElem?_getD, List.getElem?_eq_getElem (by omega)]; exact List.getElem_mem _
  have hw := sum_mem wtI hm
  have hg := hg _ hm
  rw [wt_item] at hw
  have hg1 := hg.1
  have hg3 := hg.2.2
  refine ⟨⟨?_, by omega, by omega⟩, by omega⟩
  rw [frame_parts hg]; omega

set_option maxRecDepth 100000 in
theorem contract (H : Type) (enc : TypeId × Value → H) (W : World) (base : Nat) (args : Array Value) (ds gs : List (DataW H)) (before : List MemPlace)
    (hval : ∀ (j : Nat) t v, Tryd.f4.params[j]? = some t → args[j]? = some v → Value.okWide Tryd.prog W .any base t v)
    (hW : DataW.Whole enc Tryd.prog Tryd.f4.params.toList Rows.batchWeightsSpec.vars false W args.toList ds gs before) (hk : Rows.uptoSmall H (ds ++ gs) = true) (hL : laidMetH Tryd.prog Rows.batchWeightsUptoRow.laid W) :
    Calls Tryd.prog 4 args W fun e W' => ∃ v, e = .returned v ∧ Rows.batchWeightsSpec.post enc Tryd.prog Tryd.f4 false true false false W args v W' := by
  have hW' := hW
  obtain ⟨p, q, hA0, hV, rfl, hfz, hnd⟩ := hW
  have hA : DataW.TrodAll enc Tryd.prog W 0 (fun _ => true) true Tryd.f4.params.toList args.toList ds p := hA0
  have hpar : Tryd.f4.params = #[53] := by kernel_rfl
  rw [hpar] at hA hval
  obtain ⟨v0, vs0, d0, ds0, p0, q0, hargs, rfl, rfl, h0, r0⟩ := trodAll_cons hA
  obtain ⟨rfl, rfl, rfl⟩ := trodAll_nil r0
  obtain rfl : args = #[v0] := by cases args; simp_all
  obtain ⟨rfl, rfl⟩ := trodVars_none hV
  clear hA0
  have hb := of_decide_eq_true hk
  simp only [List.cons_append, List.nil_append, Rows.uptoBulkAll] at hb
  obtain ⟨x0, a0, e0, w0⟩ := arg_of (bulk H) (n := 8) (T := 53) (t := .sl ITEM) (by kernel_rfl) (hval 0 53 v0 rfl rfl) h0
  obtain ⟨xs, len⟩ := x0
  have hex : len = List.length (α := BIt) xs := e0.1
  have hw : (List.map (DTy.wt ITEM) xs).sum + 1 ≤ Rows.uptoBulk d0 := w0
  have hd : Rows.uptoBulk d0 ≤ 1048576 := by omega
  have hrel : RelVs (envOf W) [.c (.ro ITEM xs len)] [v0] := ⟨v0, _, rfl, a0, rfl⟩
  have hgood : okC (.ro ITEM xs len) := (okVs_of hrel).1
  have hok := ok_items (xs := xs) (n := len) (show (List.map (DTy.wt ITEM) xs).sum ≤ 1048576 by omega) (by rw [hex]; exact Nat.le_refl _) (good_of hgood)
  have hlaw : (TLaw [.c (.ro ITEM xs len)] []).val = some (.one (.c (.bool true true)), []) := by
    show (Tree.chk (decP (len ≤ 1000000 ∧ ∀ i, i < len → Lb.okX (Lb.it xs i))) (.ret (SV.one (.c (.bool true true)), ([] : Heap)))).val = _
    rw [decP_true hok]; rfl
  refine (EntryOk.yes (c := cd Tryd.f4) (vs := [.c (.ro ITEM xs len)]) ok_lawW func4 (by kernel_rfl) (by kernel_rfl) hlaw W (table hL) #[v0] hrel).mono fun e W' he => ?_
  obtain ⟨rfl, hbel⟩ := he
  refine ⟨_, rfl, post_true (tb := 4) hW' rfl ?_ (by kernel_rfl) (by kernel_rfl) laidOut readable hbel⟩
  rfl

/-- A WORLD FOR THE WITNESS: the settled one, the table holding what its initialiser lays. -/
def rowCells (zs : List Int) : Obj → Obj
  | .cells _ t frozen => .cells (zs.map fun z => Value.int .u64 z).toArray t frozen
  | o => o
noncomputable def laidWorld (os : Os) : World :=
  { World.holding Tryd.prog os ⟨#[], #[], []⟩ with heap := (((((World.holding Tryd.prog os ⟨#[], #[], []⟩).heap.modify 0 (rowCells tblL.flatten)).modify 4 (rowCells kT)).modify 2 (rowCells iT)).modify 3 (rowCells kT)).modify 1 (rowCells iT) }
def wit : Array Value := #[.slice none 0 0]
theorem laid_met (os : Os) : laidMet Tryd.prog Rows.batchWeightsUptoRow.laid ((laidWorld os).forCall (fun _ _ => 0) ⟨#[], wit, []⟩).memory :=
  laidMet_of_run' 8 (by kernel_rfl) (by kernel_rfl)
theorem reads (os : Os) {H : Type} (enc : TypeId × Value → H) : ∃ places, DataW.whole enc Tryd.prog ((laidWorld os).forCall (fun _ _ => 0) ⟨#[], wit, []⟩).memory Tryd.f4.params.toList Rows.batchWeightsSpec.vars false wit.toList 8 =
    some ([.nil], [], places) :=
  ⟨[], by kernel_rfl⟩

set_option maxRecDepth 100000 in
theorem lifted (os : Os) (started : os.Started) (H : Type) (enc : TypeId × Value → H) (F : Stop.Interp) :
    ReturnsInHanded {} Tryd.checked os 4 .any ((Rows.OpenSpec.upto Rows.batchWeightsSpec).preRow enc Tryd.prog Tryd.f4 Rows.batchWeightsUptoRow.domain false Rows.batchWeightsUptoRow.laid) (((Rows.OpenSpec.upto Rows.batchWeightsSpec).at F).post enc Tryd.prog Tryd.f4 false true false false) := by
  obtain ⟨places, hx⟩ := reads os enc
  refine returnsInHanded_of_row (C := Tryd.checked) (s := Rows.OpenSpec.upto Rows.batchWeightsSpec) own started (by kernel_rfl) func4
    (witness_row_at (enc := enc) (C := Tryd.checked) false (laidWorld os) wit rfl (by kernel_rfl) (by kernel_rfl) (by kernel_rfl)
      (OpenSpec.preRow_of_cond 8 hx (by kernel_rfl) (fun k hk => by cases hk; kernel_rfl) (by kernel_rfl) (laid_met os))) ?_
  intro W base args ds gs before hval hW _ hcond _ hL _ _
  exact contract H enc W base args ds gs before hval hW (hcond _ rfl) hL

theorem over : Rows.BatchWeightsUptoSaid :=
  OpenClaim.holds_of_cond 4 Tryd.f4 rfl rfl rfl rfl rfl rfl rfl ⟨rfl, rfl, rfl, rfl, rfl⟩ rfl rfl rfl rfl rfl (by kernel_rfl) func4 (by kernel_rfl)
    (of_decide_eq_true (by kernel_rfl)) (by unfold Func.isWrapper; first | (rw [if_pos (by decide +kernel)]; kernel_rfl) | (rw [if_neg (by decide +kernel)]; exact ⟨rfl, rfl⟩))
    (fun os started H enc _ F => by rw [OpenClaim.pre_eq_preRow]; exact lifted os started H enc F)

/-- No parameter wants a stand-in; the program's own looks are off: what the card asks. -/
theorem plain (f : FuncId) (fn : Func) (hf : Tryd.pinned.checked.prog.funcNamed "veil/veillaw15.BatchWeights" = some f) (hfn : Tryd.pinned.checked.prog.funcs[f]? = some fn) :
    false = Tryd.pinned.checked.prog.looks [] ∧ ∀ (j : Nat) t, fn.params[j]? = some t → Tryd.pinned.checked.prog.wantsStandIn t = false := by
  obtain rfl : f = 4 := Option.some.inj ((show Tryd.prog.funcNamed "veil/veillaw15.BatchWeights" = some 4 by kernel_rfl).symm.trans hf) |>.symm
  obtain rfl : fn = Tryd.f4 := (Option.some.inj (func4.symm.trans hfn)).symm
  refine ⟨by kernel_rfl, fun j t ht => ?_⟩
  have h : (Tryd.f4.params.toList.all fun t => Tryd.prog.wantsStandIn t == false) = true := by kernel_rfl
  have := List.all_eq_true.mp h t (Array.mem_def.mp (Array.mem_of_getElem? ht))
  exact eq_of_beq this

/-- THE CARD -/
theorem proved : Rows.BatchWeightsUptoCardSaid :=
  Claim7.holds_tied_plain_at .later [] _ _ _ _ over (fun _ h => by cases h) (by kernel_rfl) (fun _ h => by cases h) batchWeightsUpto_row_tie rfl ⟨rfl, rfl⟩ (by kernel_rfl) rfl plain (by kernel_rfl)
end Go.Proofs.YticfnbhbpcpgeaaDoor.batchWeights
