/-
  LedgerBlocks, WHERE WHAT IT READS IS OF BULK AT MOST 1048576: it returns true, and its arguments read as before.
-/
import Derived.Test.YticfnbhbpcpgeaaLb8
import Derived.Test.YticfnbhbpcpgeaaSx28
import Derived.Test.YticfnbhbpcpgeaaRows
import Derived.WalkKit
import Derived.ProofKit
import Derived.OpenShut
import Derived.JoinedCond
namespace Go.Proofs.Yticfnbhbpcpgeaa.ledgerBlocks
open Go Go.SX Go.LB Go.ChangeShapes Go.WideShapes Go.ChangeAt Go.RowKit

theorem own : ownKnob Try.prog.godebug = none := by kernel_rfl

def bulk (H : Type) : Bulk H where
  B := Rows.uptoBulk
  A := Rows.uptoBulkAll
  lit := fun l => by cases l <;> simp [Rows.uptoBulk]
  str := fun bs => by simp [Rows.uptoBulk]
  nil := by simp [Rows.uptoBulk]
  slice := fun a b => by simp [Rows.uptoBulk]
  agg := fun a => by simp [Rows.uptoBulk]
  anil := by simp [Rows.uptoBulkAll]
  acons := fun d r => by simp [Rows.uptoBulkAll]

theorem laidOut : laidOutB Try.prog = true := by kernel_rfl
theorem readable : ∀ t ∈ Try.f3.params.toList, Try.prog.readableRec t = true ∧ t < Try.prog.types.size := by
  have h : (Try.f3.params.toList.all fun t => Try.prog.readableRec t && Nat.blt t Try.prog.types.size) = true := by kernel_rfl
  intro t ht
  have := List.all_eq_true.mp h t ht
  rw [Bool.and_eq_true] at this
  exact ⟨this.1, by simpa using this.2⟩

theorem sum_mem {α : Type} {f : α → Nat} : ∀ {l : List α} {x : α}, x ∈ l → f x ≤ (l.map f).sum
  | y :: l, x, h => by
    rw [List.map_cons, List.sum_cons]
    rcases List.mem_cons.1 h with rfl | h
    · omega
    · have := sum_mem (f := f) h; omega

theorem len_le {α : Type} {f : α → Nat} (h : ∀ x, 1 ≤ f x) : ∀ l : List α, l.length ≤ (l.map f).sum
  | [] => Nat.zero_le _
  | x :: l => by
    have := len_le h l
    have := h x
    rw [List.map_cons, List.sum_cons, List.length_cons]; omega
theorem wt_bytes (x : List Int × Nat) : DTy.wt (.sl (.int .u8)) x = x.1.length + 1 := by
  show (List.map (fun _ : Int => 1) x.1).sum + 1 = _
  rw [sum_ones]

theorem good {ms : List Int × Nat} {xs : Xs × Nat} (e2 : DTy.exact (.sl (.int .u8)) ms) (e3 : DTy.exact (.sl (.sl (.int .u8))) xs) {b2 b3 : Nat} (w2 : DTy.wt (.sl (.int .u8)) ms ≤ b2) (w3 : DTy.wt (.sl (.sl (.int .u8))) xs ≤ b3) (hb : b2 + b3 ≤ 1048576) :
    LB.Good ms.1 ms.2 xs.1 xs.2 := by
  obtain ⟨q2, _⟩ := e2
  obtain ⟨q3, q4⟩ := e3
  have q2 : ms.2 = ms.1.length := q2
  have q3 : xs.2 = xs.1.length := q3
  rw [wt_bytes] at w2
  have w3 : (List.map (DTy.wt (.sl (.int .u8))) xs.1).sum + 1 ≤ b3 := w3
  have hl := len_le (f := DTy.wt (.sl (.int .u8))) (fun x => by rw [wt_bytes x]; omega) xs.1
  have hl : xs.1.length ≤ (List.map (DTy.wt (.sl (.int .u8))) xs.1).sum := hl
  refine ⟨q2.symm, by omega, q3.symm, by omega, fun p hp => ?_⟩
  have h1 : p.2 = p.1.length := (q4 p hp).1
  have h2 : DTy.wt (.sl (.int .u8)) p ≤ (List.map (DTy.wt (.sl (.int .u8))) xs.1).sum := sum_mem (f := DTy.wt (.sl (.int .u8))) hp
  rw [wt_bytes] at h2
  exact ⟨h1.symm, by omega⟩

theorem contract (H : Type) (enc : TypeId × Value → H) (W : World) (base : Nat) (args : Array Value) (ds gs : List (DataW H)) (before : List MemPlace)
    (hval : ∀ (j : Nat) t v, Try.f3.params[j]? = some t → args[j]? = some v → Value.okWide Try.prog W .any base t v)
    (hW : DataW.Whole enc Try.prog Try.f3.params.toList Rows.ledgerBlocksSpec.vars false W args.toList ds gs before) (hk : Rows.uptoSmall H (ds ++ gs) = true) :
    Calls Try.prog 3 args W fun e W' => ∃ v, e = .returned v ∧ Rows.ledgerBlocksSpec.post enc Try.prog Try.f3 false true false false W args v W' := by
  have hW' := hW
  obtain ⟨p, q, hA0, hV, rfl, hfz, hnd⟩ := hW
  have hA : DataW.TrodAll enc Try.prog W 0 (fun _ => true) true Try.f3.params.toList args.toList ds p := hA0
  have hpar : Try.f3.params = #[23, 3, 24, 25] := by kernel_rfl
  rw [hpar] at hA hval
  obtain ⟨v0, vs0, d0, ds0, p0, q0, hargs, rfl, rfl, h0, r0⟩ := trodAll_cons hA
  obtain ⟨v1, vs1, d1, ds1, p1, q1, rfl, rfl, rfl, h1, r1⟩ := trodAll_cons r0
  obtain ⟨v2, vs2, d2, ds2, p2, q2, rfl, rfl, rfl, h2, r2⟩ := trodAll_cons r1
  obtain ⟨v3, vs3, d3, ds3, p3, q3, rfl, rfl, rfl, h3, r3⟩ := trodAll_cons r2
  obtain ⟨rfl, rfl, rfl⟩ := trodAll_nil r3
  obtain rfl : args = #[v0, v1, v2, v3] := by cases args; simp_all
  obtain ⟨rfl, rfl⟩ := trodVars_none hV
  clear hA0
  have hb := of_decide_eq_true hk
  simp only [List.cons_append, List.nil_append, Rows.uptoBulkAll] at hb
  obtain ⟨x0, a0, _, _⟩ := arg_of (bulk H) (n := 4) (T := 23) (t := .ws .u8 64) (by kernel_rfl) (hval 0 23 v0 rfl rfl) h0
  obtain ⟨x1, a1, _, _⟩ := arg_of (bulk H) (n := 4) (T := 3) (t := .int .i64) (by kernel_rfl) (hval 1 3 v1 rfl rfl) h1
  obtain ⟨x2, a2, e2, w2⟩ := arg_of (bulk H) (n := 4) (T := 24) (t := .sl (.int .u8)) (by kernel_rfl) (hval 2 24 v2 rfl rfl) h2
  obtain ⟨x3, a3, e3, w3⟩ := arg_of (bulk H) (n := 4) (T := 25) (t := .sl (.sl (.int .u8))) (by kernel_rfl) (hval 3 25 v3 rfl rfl) h3
  have g : LB.Good x2.1 x2.2 x3.1 x3.2 := good e2 e3 w2 w3 (by show Rows.uptoBulk d2 + Rows.uptoBulk d3 ≤ _; omega)
  have hr : Runs Try.prog S3 Try.f3 0 [.code (cd Try.f3)] ⟨enterT Try.f3 [argV (.ws .u8 64) x0, argV (.int .i64) x1, argV (.sl (.int .u8)) x2, argV (.sl (.sl (.int .u8))) x3], []⟩ (.one (.c (.bool true true))) [] := runs3 g
  refine (Runs.yes (f := 3) (by kernel_rfl) (by kernel_rfl) (fun _ => rfl) hr W #[v0, v1, v2, v3] ⟨v0, _, rfl, a0, v1, _, rfl, a1, v2, _, rfl, a2, v3, _, rfl, a3, rfl⟩).mono fun e W' he => ?_
  obtain ⟨rfl, hbel⟩ := he
  refine ⟨_, rfl, post_true (tb := 4) hW' rfl ?_ (by kernel_rfl) (by kernel_rfl) laidOut readable hbel⟩
  rfl

set_option maxRecDepth 100000 in
theorem lifted (os : Os) (started : os.Started) (H : Type) (enc : TypeId × Value → H) (F : Stop.Interp) :
    ReturnsInHanded {} Try.checked os 3 .any ((Rows.OpenSpec.upto Rows.ledgerBlocksSpec).pre6 enc Try.prog Try.f3 Rows.ledgerBlocksUptoRow.domain false) (((Rows.OpenSpec.upto Rows.ledgerBlocksSpec).at F).post enc Try.prog Try.f3 false true false false) := by
  refine returnsInHanded_of_cond (C := Try.checked) (s := Rows.OpenSpec.upto Rows.ledgerBlocksSpec) (k := Rows.uptoSmall) rfl own started (by kernel_rfl) (by kernel_rfl)
    (OpenSpec.witness (enc := enc) (C := Try.checked) (s := Rows.OpenSpec.upto Rows.ledgerBlocksSpec) (k := Rows.uptoSmall) rfl false ⟨#[], #[.agg (Array.replicate 64 (.int .u8 0)), .int .i64 0, .slice none 0 0, .slice none 0 0], []⟩ 8 (by kernel_rfl) (by kernel_rfl) (by kernel_rfl)
      (x := ([.agg (List.replicate 64 (.lit (.int .u8 0))), .lit (.int .i64 0), .nil, .nil], [], [])) (by kernel_rfl) rfl (by kernel_rfl)) ?_
  intro W base args ds gs before hval hW _ hk _
  exact contract H enc W base args ds gs before hval hW hk

theorem over : Rows.ledgerBlocksUptoRow.holds Try.pinned (Rows.OpenSpec.upto Rows.ledgerBlocksSpec) :=
  OpenClaim.holds_of_cond 3 Try.f3 rfl rfl rfl rfl rfl rfl rfl ⟨rfl, rfl, rfl, rfl, rfl⟩ rfl rfl rfl rfl rfl (by kernel_rfl) (by kernel_rfl) (by kernel_rfl)
    (of_decide_eq_true (by kernel_rfl)) (by unfold Func.isWrapper; first | (rw [if_pos (by decide +kernel)]; kernel_rfl) | (rw [if_neg (by decide +kernel)]; exact ⟨rfl, rfl⟩))
    (fun os started H enc _ F => lifted os started H enc F)

theorem proved : Rows.LedgerBlocksUptoSaid :=
  over
end Go.Proofs.Yticfnbhbpcpgeaa.ledgerBlocks
