/-
  SX, part 33: nil slices within aggregates as slices that are only read.
-/
import Derived.Test.YticfnbhbpcpgeaaDoorSx32
namespace Go.SX
open Go

def normFs : List (Option DTy) → List FCell → List FCell
  | t :: ts, .c x :: fs => (match normV t (.c x) with | .c y => FCell.c y | .g _ => FCell.c x) :: normFs ts fs
  | _ :: ts, f :: fs => f :: normFs ts fs
  | _, fs => fs
def normVG : List (Option DTy) → V1 → V1
  | t :: _, .c x => normV t (.c x)
  | ts, .g fs => .g (normFs ts fs)
  | [], v => v
def normLG : List (List (Option DTy)) → List V1 → List V1
  | t :: ts, v :: vs => normVG t v :: normLG ts vs
  | _, vs => vs
def sizesOkG (ts : List (List (Option DTy))) : Bool := ts.all sizesOk

section
variable {P : Program} {G : GlobT} {E : Env}
theorem sizesOk_cons {t : Option DTy} {ts : List (Option DTy)} (h : sizesOk (t :: ts) = true) : (∀ t', t = some t' → 0 < t'.size) ∧ sizesOk ts = true := by
  simp only [sizesOk, List.all_cons, Bool.and_eq_true] at h
  refine ⟨fun t' e => ?_, h.2⟩
  subst e
  simpa using h.1
theorem normFs_rel : ∀ {ts : List (Option DTy)} {fs : List FCell} {vs : List Value}, sizesOk ts = true → RelFs E fs vs → RelFs E (normFs ts fs) vs
  | [], fs, vs, _, h => by cases fs <;> exact h
  | t :: ts, [], vs, _, h => h
  | t :: ts, .ws k n xs :: fs, vs, ht, h => by
    obtain ⟨v1, v2, rfl, h1, h2⟩ := h
    exact ⟨v1, v2, rfl, h1, normFs_rel (sizesOk_cons ht).2 h2⟩
  | t :: ts, .c x :: fs, vs, ht, h => by
    obtain ⟨v1, v2, rfl, ⟨v, rfl, h1⟩, h2⟩ := h
    have h3 := normV_rel (v := .c x) (sizesOk_cons ht).1 h1
    unfold normFs
    refine ⟨[v], v2, rfl, ?_, normFs_rel (sizesOk_cons ht).2 h2⟩
    split
    · rename_i y e
      rw [e] at h3
      exact ⟨v, rfl, h3⟩
    · exact ⟨v, rfl, h1⟩
theorem normVG_rel {ts : List (Option DTy)} {v : V1} {u : Value} (ht : sizesOk ts = true) (h : RelV E v u) : RelV E (normVG ts v) u := by
  cases v with
  | c x =>
    cases ts with
    | nil => exact h
    | cons t ts => exact normV_rel (sizesOk_cons ht).1 h
  | g fs =>
    obtain ⟨cs, rfl, h⟩ := h
    cases ts <;> exact ⟨cs, rfl, normFs_rel ht h⟩
theorem normLG_rel : ∀ {ts : List (List (Option DTy))} {vs : List V1} {us : List Value}, sizesOkG ts = true → RelVs E vs us → RelVs E (normLG ts vs) us
  | [], vs, us, _, h => by cases vs <;> exact h
  | t :: ts, [], us, _, h => h
  | t :: ts, v :: vs, us, ht, h => by
    obtain ⟨u, us', rfl, h1, h2⟩ := h
    simp only [sizesOkG, List.all_cons, Bool.and_eq_true] at ht
    exact ⟨u, us', rfl, normVG_rel ht.1 h1, normLG_rel ht.2 h2⟩
theorem EntryOk.normG {f : FuncId} {T : List V1 → Heap → Tree (SV × Heap)} (h : EntryOk P G f T) (ts : List (List (Option DTy))) (ht : sizesOkG ts = true) : EntryOk P G f (fun vs hl => T (normLG ts vs) hl) :=
  fun vs hl r hl' hr E us hE hrep hv => h (normLG ts vs) hl r hl' hr E us hE hrep (normLG_rel ht hv)
end
end Go.SX
