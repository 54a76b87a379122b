/- PartyMoves, WHERE WHAT IT READS IS OF BULK AT MOST 1048576: on every schedule it returns true, without a data race, the goroutines that it started only leaving; its arguments read as before. Condition: the listed package variables hold what the program's text lays (the card ties them). -/
import Derived.Test.YtdblbibjggeikaaGreatDoorG9
import Derived.Test.YtdblbibjggeikaaGreatDoorQmf
import Derived.Test.YtdblbibjggeikaaGreatDoorC4
import Derived.Test.YtdblbibjggeikaaGreatDoorRows
import Derived.Test.YtdblbibjggeikaaGreatDoorTie
import Derived.Test.YtdblbibjggeikaaGreatDoorCards
import Derived.WalkKit
import Derived.ProofKit
import Derived.OpenShut
import Derived.JoinedCond
import Derived.Deep.DeepHandedRow
import Derived.Lib.LaidTab
set_option linter.unusedSectionVars false
set_option linter.unusedVariables false
set_option linter.unusedSimpArgs false
namespace Go.Proofs.YtdblbibjggeikaaGreatDoor.partyMoves
open Go Go.SX Go.Sc Go.ChangeShapes Go.WideShapes Go.ChangeAt Go.RowKit
instance lev : Level := lone0
instance lon : Lone := ⟨rfl⟩
def bulk (H : Type) : Bulk H where
 B := Rows.uptoBulk
 A := Rows.uptoBulkAll
 lit := fun l => by cases l <;> simp [Rows.uptoBulk]
 str := fun bs => by simp [Rows.uptoBulk]
 nil := by simp [Rows.uptoBulk]
 slice := fun a b => by simp [Rows.uptoBulk]
 agg := fun a => by simp [Rows.uptoBulk]
 anil := by simp [Rows.uptoBulkAll]
 acons := fun d r => by simp [Rows.uptoBulkAll]
theorem readable : ∀ t ∈ Tryz.f4.params.toList, Tryz.prog.readableRec t = true /\ t < Tryz.prog.types.size := by
 have h : (Tryz.f4.params.toList.all fun t => Tryz.prog.readableRec t && Nat.blt t Tryz.prog.types.size) = true := by kernel_rfl
 intro t ht;have := List.all_eq_true.mp h t ht
 rw [Bool.and_eq_true] at this;exact ⟨this.1, by simpa using this.2⟩
theorem gTab : Tryz.prog.globalNamed "veil/scalar.table" = some 0 := by kernel_rfl
def tblL : List (List Int) := [tab0, tab1, tab2, tab3]
theorem table {W : World} (h : laidMetH Tryz.prog Rows.partyMovesUptoRow.laid W) : ∀ g t d, G0 g = some ⟨t, d⟩ -> RelRp (envOf W) t d 0 0 (.pointer (some ⟨g, 0, none⟩)) /\ t.rf = false := by
 intro g t d hg;unfold G0 at hg;split at hg
 ·rename_i e;subst e;obtain ⟨rfl, rfl⟩ := smI hg;obtain ⟨ps, hL, _⟩ := h;obtain ⟨g, t, cs, fuel, p, h1, h2, h3, h4⟩ := laid_mem hL (n := "veil/scalar.table") (d := Rows.laid_veil_scalar_table) (by exact List.mem_cons_self)
  obtain rfl := smI (gTab.symm.trans h1);have et : (Tryz.prog.globals[0]?).map (·.type) = some 220 := by kernel_rfl
  obtain rfl := smI (et.symm.trans h2);have hc := cells_tab2 (zss := tblL) (k := .u64) (n := 4) (m := 4) (t := 220) (e := 26) (i := 24) (by kernel_rfl) (by kernel_rfl) (by kernel_rfl) (by kernel_rfl) (by kernel_rfl) (by kernel_rfl) h4
  refine ⟨relRp_var gTab h3 ?_ ?_, rfl⟩
  ·rw [hc];have w : ∀ l ∈ tblL, List.length (α := Int) l = 4 /\ (∀ x ∈ l, InK .u64 x) := by
    intro l hl;simp only [tblL, List.mem_cons, List.not_mem_nil, or_false] at hl;rcases hl with rfl | rfl | rfl | rfl <;> refine ⟨rfl, ?_⟩ <;> simp [tab0, tab1, tab2, tab3, InK, IntKind.min, IntKind.max, IntKind.signed, IntKind.bits]
   have one : ∀ l ∈ tblL, RoT (envOf W) WS l (List.map (Value.int .u64) l) := fun l hl => ⟨(w l hl).1, (w l hl).2, rfl⟩
   exact ⟨_, _, rfl, one tab0 (by simp [tblL]), _, _, rfl, one tab1 (by simp [tblL]), _, _, rfl, one tab2 (by simp [tblL]), _, _, rfl, one tab3 (by simp [tblL]), rfl⟩
  ·rw [hc]; rfl
 ·cases hg
noncomputable def decP (p : Prop) : Bool := @decide p (Classical.propDecidable p)
theorem decP_true {p : Prop} (h : p) : decP p = true := @deT p (Classical.propDecidable p) h
theorem of_decP {p : Prop} (h : decP p = true) : p := @ofD p (Classical.propDecidable p) h
noncomputable def TLaw (vs : List V1) (hl : SX.Heap) : Tree (SV × SX.Heap) :=
 match vs, hl with
 | [u, .c (.int _ .i64 j), .c (.ro (.pair .bool (.pair (.ws .u64 4) (.pair (.ws .u64 4) (.pair (.ws .u64 4) .unit)))) ms n)], [] => match pPc u with
  | some s => Tree.chk (decP (PcOk s (tpT (atP s j)) (tpN (atP s j)) (tpM (atP s j)) /\ n <= 1048576)) (.ret (.one (.c (.bool false true)), []))
  | none => .fail
 | _, _ => .fail
theorem ok_law : EntryOk Tryz.prog G0 4 TLaw := by
 refine EntryOk.unlitHRuns (S := N7) (fn := Tryz.f4) (c := cd Tryz.f4) (by kernel_rfl) (by kernel_rfl) (by kernel_rfl) (fun vs hl r hl' ok okh h => ?_)
 unfold TLaw at h;split at h
 ·rename_i u l j ms n;split at h
  ·rename_i s e;obtain ⟨h1, h2⟩ := SX.val_chk h;obtain ⟨h3, h4⟩ := of_decP h1;obtain ⟨rfl, rfl⟩ := Prod.mk.inj (SX.val_ret h2);rw [List.map_cons, List.map_cons, List.map_cons, List.map_nil, pPc_eq e];exact pm_runs ms h4 h3
  ·cases h
 ·cases h
abbrev CT : DTy := .pair (.pair (.int .i64) (.pair (.int .i64) .unit)) (.pair WS (.pair WS (.pair WS (.pair (.sl WS) (.pair (.sl WS) (.pair (.sl OP) (.pair (.sl TP) (.pair (.sl WS) .unit))))))))
def csOf (x : CT.den) : PcA := ⟨x.1.1, x.1.2.1, x.2.1, x.2.2.1, x.2.2.2.1, x.2.2.2.2.1.1, x.2.2.2.2.1.2, x.2.2.2.2.2.1.1, x.2.2.2.2.2.1.2, x.2.2.2.2.2.2.1.1, x.2.2.2.2.2.2.1.2, x.2.2.2.2.2.2.2.1.1, x.2.2.2.2.2.2.2.1.2, x.2.2.2.2.2.2.2.2.1.1, x.2.2.2.2.2.2.2.2.1.2⟩
theorem sum_mem {α : Type} (f : α -> Nat) : ∀ {l : List α} {x : α}, x ∈ l -> f x <= (l.map f).sum
 | y :: l, x, h => by
  rw [List.map_cons, List.sum_cons];rcases List.mem_cons.1 h with rfl | h
  ·omega
  ·have := sum_mem f h; omega
theorem sum_len {α : Type} (f : α -> Nat) (hf : ∀ x, 1 <= f x) : ∀ l : List α, l.length <= (l.map f).sum
 | [] => Nat.zero_le _
 | y :: l => by
  rw [List.map_cons, List.sum_cons, List.length_cons];have := sum_len f hf l
  have := hf y
  omega
theorem wt_case (x : CT.den) : (csOf x).ng = (csOf x).G.length -> (csOf x).nh = (csOf x).H.length -> (csOf x).ng * 4 + (csOf x).nh * 4 + ((csOf x).ts.map (DTy.wt TP)).sum + 2 <= CT.wt x := by
 intro h1 h2;have e : CT.wt x = (1 + (1 + 0)) + (4 + (4 + (4 + ((((csOf x).G.map fun _ => 4).sum + 1) + ((((csOf x).H.map fun _ => 4).sum + 1) + ((((csOf x).vs.map (DTy.wt OP)).sum + 1) + ((((csOf x).ts.map (DTy.wt TP)).sum + 1) + ((((csOf x).ch.map fun _ => 4).sum + 1) + 0)))))))) := rfl
 rw [e, List.map_const', List.map_const', List.map_const', List.sum_replicate_nat, List.sum_replicate_nat, List.sum_replicate_nat];omega
theorem wt_tape (x : TP.den) : DTy.wt TP x = 16 + ((tpT x).l.length * 4 + 1) + ((tpT x).rr.length * 4 + 1) := by
 show 4 + (4 + (4 + (4 + ((((tpT x).l.map fun _ => 4).sum + 1) + ((((tpT x).rr.map fun _ => 4).sum + 1) + 0))))) = _
 rw [List.map_const', List.sum_replicate_nat, List.map_const', List.sum_replicate_nat];omega
theorem wt_moves (ms : List MV.den) : ms.length <= (ms.map (DTy.wt MV)).sum := sum_len _ (fun x => by show 1 <= 1 + (4 + (4 + (4 + 0))); omega) _
theorem at_ok {s : PcA} (j : Int) (hx : ∀ x ∈ s.ts, TP.exact x) (hn : s.nt = s.ts.length) (hw : (s.ts.map (DTy.wt TP)).sum <= 1048576) (hg : s.ng <= 1048576 /\ s.nh <= 1048576) : PcOk s (tpT (atP s j)) (tpN (atP s j)) (tpM (atP s j)) := by
 have key : ∀ x : TP.den, TP.exact x -> DTy.wt TP x <= 1048576 -> PcOk s (tpT x) (tpN x) (tpM x) := fun x h1 h2 => by
  rw [wt_tape] at h2;have e1 : tpN x = (tpT x).l.length := h1.2.2.2.2.1.1
  have e2 : tpM x = (tpT x).rr.length := h1.2.2.2.2.2.1.1
  exact ⟨hg, e1, e2, by omega, by omega⟩
 unfold atP;by_cases h : 0 <= j /\ j < s.nt
 ·rw [if_pos h];have hlt : j.toNat < s.ts.length := by omega
  have hm : s.ts.getD j.toNat TP.dflt ∈ s.ts := by
   rw [List.getD_eq_getElem?_getD, List.getElem?_eq_getElem hlt]
   exact List.getElem_mem hlt
  exact key _ (hx _ hm) (Nat.le_trans (sum_mem (DTy.wt TP) hm) hw)
 ·rw [if_neg h];exact ⟨hg, rfl, rfl, by show (0 : Nat) <= _; omega, by show (0 : Nat) <= _; omega⟩
set_option maxRecDepth 100000 in
theorem contract (H : Type) (enc : TypeId × Value -> H) (W : World) (base : Nat) (args : Array Value) (ds gs : List (DataW H)) (before : List MemPlace)
  (hval : ∀ (j : Nat) t v, Tryz.f4.params[j]? = some t -> args[j]? = some v -> Value.okWide Tryz.prog W .any base t v)
  (hW : DataW.Whole enc Tryz.prog Tryz.f4.params.toList Rows.partyMovesSpec.vars false W args.toList ds gs before) (hk : Rows.uptoSmall H (ds ++ gs) = true) (hL : laidMetH Tryz.prog Rows.partyMovesUptoRow.laid W) :
  SX.Ends Tryz.prog (fun v W' => Rows.partyMovesSpec.post enc Tryz.prog Tryz.f4 false true false false W args v W') (Conc.solo (Conc.G (Frame.enter Tryz.prog 4 args .normal) []) W) #[] := by
 have hW' := hW
 obtain ⟨p, q, hA0, hV, rfl, hfz, hnd⟩ := hW;have hA : DataW.TrodAll enc Tryz.prog W 0 (fun _ => true) true Tryz.f4.params.toList args.toList ds p := hA0
 have hpar : Tryz.f4.params = #[86, 3, 87] := by kernel_rfl
 rw [hpar] at hA hval;obtain ⟨v0, vs0, d0, ds0, p0, q0, hargs, rfl, rfl, h0, r0⟩ := trodAll_cons hA;obtain ⟨v1, vs1, d1, ds1, p1, q1, rfl, rfl, rfl, h1, r1⟩ := trodAll_cons r0;obtain ⟨v2, vs2, d2, ds2, p2, q2, rfl, rfl, rfl, h2, r2⟩ := trodAll_cons r1;obtain ⟨rfl, rfl, rfl⟩ := trodAll_nil r2;obtain rfl : args = #[v0, v1, v2] := by cases args; simp_all
 obtain ⟨rfl, rfl⟩ := trodVars_none hV;clear hA0;have hb := ofD hk
 simp only [List.cons_append, List.nil_append, Rows.uptoBulkAll] at hb;obtain ⟨x0, a0, e0, w0⟩ := arg_of (bulk H) (n := 8) (T := 86) (t := CT) (by kernel_rfl) (hval 0 86 v0 rfl rfl) h0
 obtain ⟨x1, a1, e1, w1⟩ := arg_of (bulk H) (n := 8) (T := 3) (t := .int .i64) (by kernel_rfl) (hval 1 3 v1 rfl rfl) h1
 obtain ⟨x2, a2, e2, w2⟩ := arg_of (bulk H) (n := 8) (T := 87) (t := .sl MV) (by kernel_rfl) (hval 2 87 v2 rfl rfl) h2
 obtain ⟨ms, len⟩ := x2;have hex : len = List.length (α := MV.den) ms := e2.1
 have hw0 : CT.wt x0 <= Rows.uptoBulk d0 := w0
 have hw1 : (List.map (α := MV.den) (DTy.wt MV) ms).sum + 1 <= Rows.uptoBulk d2 := w2
 have hw2 : List.length (α := MV.den) ms <= (List.map (α := MV.den) (DTy.wt MV) ms).sum := wt_moves ms
 have q1 : (csOf x0).ng = (csOf x0).G.length := e0.2.2.2.2.1.1
 have q2 : (csOf x0).nh = (csOf x0).H.length := e0.2.2.2.2.2.1.1
 have q3 : (csOf x0).nt = (csOf x0).ts.length := e0.2.2.2.2.2.2.2.1.1
 have q4 : ∀ x ∈ (csOf x0).ts, TP.exact x := e0.2.2.2.2.2.2.2.1.2
 have hw3 := wt_case x0 q1 q2
 have hok : PcOk (csOf x0) (tpT (atP (csOf x0) x1)) (tpN (atP (csOf x0) x1)) (tpM (atP (csOf x0) x1)) /\ len <= 1048576 := ⟨at_ok x1 q4 q3 (by omega) (by omega), by omega⟩
 have s := subF_seen W
 have a0' := argV_subF s CT rfl x0 v0 a0
 have a1' := argV_subF s (.int .i64) rfl x1 v1 a1
 have a2' := argV_subF s (.sl MV) rfl (ms, len) v2 a2
 have hrel : RelVs (envOf (ghost (seen0 W) W)) [argV CT x0, argV (.int .i64) x1, argV (.sl MV) (ms, len)] [v0, v1, v2] := ⟨v0, _, rfl, a0', v1, _, rfl, a1', v2, _, rfl, a2', rfl⟩
 have hlaw : (TLaw [argV CT x0, argV (.int .i64) x1, argV (.sl MV) (ms, len)] []).val = some (.one (.c (.bool false true)), []) := by
  show (Tree.chk (decP (PcOk (csOf x0) (tpT (atP (csOf x0) x1)) (tpN (atP (csOf x0) x1)) (tpM (atP (csOf x0) x1)) /\ len <= 1048576)) (.ret (SV.one (.c (.bool false true)), ([] : SX.Heap)))).val = _
  rw [decP_true hok]; rfl
 refine ends_of_entry (t := 6) (c := cd Tryz.f4) ok_law func0 (by kernel_rfl) (by kernel_rfl) (by kernel_rfl) (by kernel_rfl) hlaw W (rep_seen (table hL)) #[v0, v1, v2] hrel fun W' hbel => ?_
 refine post_true (tb := 4) hW' rfl ?_ (by kernel_rfl) (by kernel_rfl) laidOut readable hbel
 rfl
def rowCells (k : IntKind) (zs : List Int) : Obj -> Obj
 | .cells _ t frozen => .cells (zs.map fun z => Value.int k z).toArray t frozen
 | o => o
noncomputable def laidWorld (os : Os) : World :=
 { World.holding Tryz.prog os ⟨#[], #[], []⟩ with heap := ((((World.holding Tryz.prog os ⟨#[], #[], []⟩).heap.modify 0 (rowCells .u64 tblL.flatten)).modify 3 (rowCells .i64 [0, 0, 0, 0, 0, 0, 0, 0, 0, 0])).modify 1 (rowCells .i64 [1, 0, 0, 0, 0, 0, 0, 0, 0, 0])).modify 6 (rowCells .i64 [67108845, 67108863, 67108863, 67108863, 67108863, 67108863, 67108863, 67108863, 67108863, 2097151]) }
def u4 : Value := .agg #[.int .u64 0, .int .u64 0, .int .u64 0, .int .u64 0]
def wit : Array Value := #[.agg #[.int .i64 0, .int .i64 0, .int .u64 0, .int .u64 0, .int .u64 0, .int .u64 0, .int .u64 0, .int .u64 0, .int .u64 0, .int .u64 0, .int .u64 0, .int .u64 0, .int .u64 0, .int .u64 0, .slice none 0 0, .slice none 0 0, .slice none 0 0, .slice none 0 0, .slice none 0 0], .int .i64 0, .slice none 0 0]
theorem laid_met (os : Os) : laidMet Tryz.prog Rows.partyMovesUptoRow.laid ((laidWorld os).forCall (fun _ _ => 0) ⟨#[], wit, []⟩).memory :=
 laidMet_of_run' 8 (by kernel_rfl) (by kernel_rfl)
def w4 {H : Type} : DataW H := .agg [.lit (.int .u64 0), .lit (.int .u64 0), .lit (.int .u64 0), .lit (.int .u64 0)]
theorem reads (os : Os) {H : Type} (enc : TypeId × Value -> H) : ∃ places, DataW.whole enc Tryz.prog ((laidWorld os).forCall (fun _ _ => 0) ⟨#[], wit, []⟩).memory Tryz.f4.params.toList Rows.partyMovesSpec.vars false wit.toList 8 =
  some ([.agg [.agg [.lit (.int .i64 0), .lit (.int .i64 0)], w4, w4, w4, .nil, .nil, .nil, .nil, .nil], .lit (.int .i64 0), .nil], [], places) :=
 ⟨[], by kernel_rfl⟩
set_option maxRecDepth 100000 in
theorem lifted (os : Os) (started : os.Started) (H : Type) (enc : TypeId × Value -> H) (F : Stop.Interp) :
  ReturnsInLeavingWide {} Tryz.checked os 4 .any ((Rows.OpenSpec.upto Rows.partyMovesSpec).preRow enc Tryz.prog Tryz.f4 Rows.partyMovesUptoRow.domain false Rows.partyMovesUptoRow.laid) (((Rows.OpenSpec.upto Rows.partyMovesSpec).at F).post enc Tryz.prog Tryz.f4 false true false false) := by
 obtain ⟨places, hx⟩ := reads os enc;refine returnsInLeaving_of_row (C := Tryz.checked) (s := Rows.OpenSpec.upto Rows.partyMovesSpec) own started func0
  (witness_row_at (enc := enc) (C := Tryz.checked) false (laidWorld os) wit rfl (by kernel_rfl) (by kernel_rfl) (by kernel_rfl)
   (OpenSpec.preRow_of_cond 8 hx (by kernel_rfl) (fun k hk => by cases hk; kernel_rfl) (by kernel_rfl) (laid_met os))) ?_
 intro W base args ds gs before hval hW hcond hL;exact contract H enc W base args ds gs before hval hW (hcond _ rfl) hL
theorem lifted' (os : Os) (started : os.Started) (H : Type) (enc : TypeId × Value -> H) (F : Stop.Interp) :
  ReturnsInLeavingWide Rows.partyMovesUptoRow.assume Tryz.checked os 4 .any (Rows.partyMovesUptoRow.pre enc Tryz.prog Tryz.f4 (Rows.OpenSpec.upto Rows.partyMovesSpec)) (((Rows.OpenSpec.upto Rows.partyMovesSpec).at F).post enc Tryz.prog Tryz.f4 Rows.partyMovesUptoRow.apart Rows.partyMovesUptoRow.fresh Rows.partyMovesUptoRow.handsOn Rows.partyMovesUptoRow.again) := by
 rw [OpenClaim.pre_eq_preRow];exact lifted os started H enc F
theorem over : Rows.PartyMovesUptoSaid :=
 row_leaving (p := Tryz.pinned) (s := Rows.OpenSpec.upto Rows.partyMovesSpec) (c := Rows.partyMovesUptoRow) 4 Tryz.f4 rfl rfl rfl rfl rfl ⟨rfl, rfl, rfl, rfl, rfl, rfl, rfl⟩ rfl rfl rfl rfl rfl named func0 closed inst wrap
  (fun os started H enc _ F => lifted' os started H enc F)
theorem proved : Rows.PartyMovesUptoCardSaid :=
 card_goes .later _ _ _ _ over (by kernel_rfl) partyMovesUpto_row_tie rfl ⟨rfl, rfl⟩ (by kernel_rfl) rfl plain (by kernel_rfl)
end Go.Proofs.YtdblbibjggeikaaGreatDoor.partyMoves
