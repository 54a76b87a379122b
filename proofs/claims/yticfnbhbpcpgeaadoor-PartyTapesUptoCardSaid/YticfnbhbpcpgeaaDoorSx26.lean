/-
  SX, part 26: bodies in pieces; forms of arguments.
-/
import Derived.Test.YticfnbhbpcpgeaaDoorSx25
import Derived.KernelRfl
namespace Go.SX
open Go
variable {P : Program} {G : GlobT} {E : Env} {S : Tab}

/-- a way through a tree: the tests that are met, and the end -/
def Tree.path {α : Type} : Tree α → List Bool → Option (List Bool × α)
  | .ret a, [] => some ([], a)
  | .br b t e, c :: cs => match (match c with | true => path t cs | false => path e cs) with
    | some (bs, a) => some (b :: bs, a)
    | none => none
  | _, _ => none

theorem Tree.path_val {α : Type} : ∀ {t : Tree α} {cs : List Bool} {a : α}, t.path cs = some (cs, a) → t.val = some a
  | .ret a, [], b, h => by simp [Tree.path] at h; rw [h]; rfl
  | .ret a, c :: cs, b, h => by simp [Tree.path] at h
  | .fail, cs, b, h => by cases cs <;> simp [Tree.path] at h
  | .br x t e, [], b, h => by simp [Tree.path] at h
  | .br x t e, c :: cs, b, h => by
    cases c with
    | true =>
      simp only [Tree.path] at h
      split at h
      · rename_i bs a hp
        simp only [Option.some.injEq, Prod.mk.injEq, List.cons.injEq] at h
        obtain ⟨⟨rfl, rfl⟩, rfl⟩ := h
        show t.val = _
        exact Tree.path_val hp
      · cases h
    | false =>
      simp only [Tree.path] at h
      split at h
      · rename_i bs a hp
        simp only [Option.some.injEq, Prod.mk.injEq, List.cons.injEq] at h
        obtain ⟨⟨rfl, rfl⟩, rfl⟩ := h
        show e.val = _
        exact Tree.path_val hp
      · cases h

def unlC : Cell → Cell
  | .int _ k n => .int false k n
  | .bool _ b => .bool false b
  | x => x
def unlS : SV → SV
  | .one (.c x) => .one (.c (unlC x))
  | x => x
def unlT (l : List Nat) : Nat → List SV → List SV
  | _, [] => []
  | i, v :: vs => (match seen i l with | true => unlS v | false => v) :: unlT l (i + 1) vs
/-- numbers that are known as such are taken as any -/
def St.unlit (l : List Nat) (s : St) : St := { t := unlT l 0 s.t, h := s.h }

theorem unlC_rel {x : Cell} {v : Value} (h : RelC E x v) : RelC E (unlC x) v := by cases x <;> exact h
theorem unlS_rel {x : SV} {v : Value} (h : RelS E x v) : RelS E (unlS x) v := by
  unfold unlS
  split
  · exact unlC_rel h
  · exact h
theorem unlT_rel {l : List Nat} : ∀ {i : Nat} {t : List SV} {us : List Value}, RelTs E t us → RelTs E (unlT l i t) us
  | _, [], _, h => h
  | i, v :: vs, _, h => by
    obtain ⟨u, us, rfl, h1, h2⟩ := h
    refine ⟨u, us, rfl, ?_, unlT_rel h2⟩
    split
    · exact unlS_rel h1
    · exact h1
theorem Runs.unlit {fn : Func} {m : Nat} {is : List Item} {s : St} {v : SV} {hl : Heap} (l : List Nat) (h : Runs P S fn m is (s.unlit l) v hl) : Runs P S fn m is s v hl :=
  fun E0 E a x hm hs => h E0 E a x hm ⟨hs.h, hs.eq, unlT_rel hs.t, hs.d⟩

/-- a piece's end: what is left to do, and what is still to be known -/
def pieceT (keep unl ids : List Nat) (cs : List Bool) (t : Tree Out) : Option (List Bool × List Item × St) :=
  match t.path cs with
  | some (bs, .stop k s) => some (bs, k, (s.cut keep ids).unlit unl)
  | _ => none
def endT (P : Program) (fn : Func) (ids : List Nat) (cs : List Bool) (t : Tree Out) : Option (List Bool × SV × Heap) :=
  match t.path cs with
  | some (bs, .fin s) => match finR P fn ids s with
    | some (v, hl) => some (bs, v, hl)
    | none => none
  | _ => none
/-- what is left to do at a piece's end -/
def leftT (cs : List Bool) (t : Tree Out) : List Item :=
  match t.path cs with
  | some (_, .stop k _) => k
  | _ => []

theorem Runs.piece (hsp : SpecOk P S) (hmx : P.follows .mixedOrders = true) {un : Code → Bool} {n m : Nat} {fn : Func} {is k : List Item} {s s' : St} {v : SV} {hl : Heap} {cs bs : List Bool} {keep unl ids : List Nat}
    (h : pieceT keep unl ids cs (runK S P un n is s) = some (bs, k, s')) (hb : bs = cs) (hids : idsOk m ids = true) (hr : Runs P S fn m k s' v hl) : Runs P S fn m is s v hl := by
  unfold pieceT at h
  split at h
  · rename_i bs' k' s1 hp
    simp only [Option.some.injEq, Prod.mk.injEq] at h
    obtain ⟨rfl, rfl, rfl⟩ := h
    subst hb
    exact Runs.run hsp hmx (Tree.path_val hp) (Runs.cut keep ids hids (Runs.unlit unl hr))
  · cases h

theorem Runs.last (hsp : SpecOk P S) (hmx : P.follows .mixedOrders = true) {un : Code → Bool} {n m : Nat} {fn : Func} {is : List Item} {s : St} {v : SV} {hl : Heap} {cs bs : List Bool} {ids : List Nat}
    (h : endT P fn ids cs (runK S P un n is s) = some (bs, v, hl)) (hb : bs = cs) (hids : idsOk m ids = true) : Runs P S fn m is s v hl := by
  unfold endT at h
  split at h
  · rename_i bs' s1 hp
    split at h
    · rename_i v' hl' hf
      simp only [Option.some.injEq, Prod.mk.injEq] at h
      obtain ⟨rfl, rfl, rfl⟩ := h
      subst hb
      exact Runs.run hsp hmx (Tree.path_val hp) ⟨ids, hids, hf⟩
    · cases h
  · cases h

theorem EntryOk.of_runs {f : FuncId} {fn : Func} {c : Code} {T : List V1 → Heap → Tree (SV × Heap)} (hf : P.funcs[f]? = some fn) (hb : fn.body = some c) (hn : (fn.name == "runtime.NumGoroutine") = false)
    (h : ∀ vs hl r hl', (T vs hl).val = some (r, hl') → Runs P S fn hl.length [.code c] ⟨enterT fn vs, hl⟩ r hl') : EntryOk P S.gl f T :=
  fun vs hl r hl' hr => Runs.spec hf hb hn (h vs hl r hl' hr)

theorem SpecOk.own {l : List Nat} (h : SpecOk P S) : SpecOk P (S.own l) := fun f vs hl r hl' hr E us => h f vs hl r hl' hr E us

/-- a nil slice is one that is only read, too -/
def normV : Option DTy → V1 → V1
  | some t, .c .nils => .c (.ro t [] 0)
  | _, x => x
def normL : List (Option DTy) → List V1 → List V1
  | t :: ts, v :: vs => normV t v :: normL ts vs
  | _, vs => vs
def sizesOk (ts : List (Option DTy)) : Bool := ts.all fun | some t => Nat.blt 0 t.size | none => true

theorem normV_rel {t : Option DTy} {v : V1} {u : Value} (ht : ∀ t', t = some t' → 0 < t'.size) (h : RelV E v u) : RelV E (normV t v) u := by
  unfold normV
  split
  · rename_i t'
    obtain rfl : u = .slice none 0 0 := h
    exact ⟨none, 0, rfl, Nat.le_refl _, Nat.le_refl _, by omega, ht _ rfl, fun h => (h rfl).elim⟩
  · exact h

theorem normL_rel : ∀ {ts : List (Option DTy)} {vs : List V1} {us : List Value}, sizesOk ts = true → RelVs E vs us → RelVs E (normL ts vs) us
  | [], vs, us, _, h => by unfold normL; exact h
  | t :: ts, [], us, _, h => h
  | t :: ts, v :: vs, us, ht, h => by
    obtain ⟨u, us', rfl, h1, h2⟩ := h
    simp only [sizesOk, List.all_cons, Bool.and_eq_true] at ht
    refine ⟨u, us', rfl, normV_rel (fun t' e => ?_) h1, normL_rel ht.2 h2⟩
    subst e
    simpa using ht.1

theorem EntryOk.norm {f : FuncId} {T : List V1 → Heap → Tree (SV × Heap)} (h : EntryOk P G f T) (ts : List (Option DTy)) (ht : sizesOk ts = true) : EntryOk P G f (fun vs hl => T (normL ts vs) hl) :=
  fun vs hl r hl' hr E us hE hrep hv => h (normL ts vs) hl r hl' hr E us hE hrep (normL_rel ht hv)
end Go.SX
