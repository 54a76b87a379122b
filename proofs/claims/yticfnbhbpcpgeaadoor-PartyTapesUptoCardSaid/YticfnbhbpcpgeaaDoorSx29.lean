/-
  SX, part 29: what is known of arguments; functions without a body; entries out of stronger ones.
-/
import Derived.Test.YticfnbhbpcpgeaaDoorSx26
import Derived.Laws.Externs
namespace Go.SX
open Go

/-- what every value of a kind meets -/
def okD : (t : DTy) → t.den → Prop
  | .int k, d => InK k d
  | .ws k n, d => List.length (α := Int) d = n ∧ ∀ x ∈ (show List Int from d), InK k x
  | .pair a b, d => okD a d.1 ∧ okD b d.2
  | .sl t, d => d.2 ≤ List.length d.1 ∧ ∀ x ∈ d.1, okD t x
  | _, _ => True
def okC : Cell → Prop
  | .int _ k n => InK k n
  | .ro t xs len => len ≤ xs.length ∧ ∀ x ∈ xs, okD t x
  | _ => True
def okF : List FCell → Prop
  | [] => True
  | .c x :: fs => okC x ∧ okF fs
  | .ws k n xs :: fs => (xs.length = n ∧ ∀ x ∈ xs, InK k x) ∧ okF fs
def okV : V1 → Prop
  | .c x => okC x
  | .g fs => okF fs
def okVs : List V1 → Prop
  | [] => True
  | v :: vs => okV v ∧ okVs vs

section
variable {E : Env}
theorem okD_sl {t : DTy} (ih : ∀ d us, RoT E t d us → okD t d) {xs : List t.den} {len : Nat} {v : Value} (h : RoSl E t.size (RoT E t) xs len v) : len ≤ xs.length ∧ ∀ x ∈ xs, okD t x := by
  obtain ⟨a, cap, _, h2, _, _, _, h6⟩ := h
  refine ⟨h2, fun x hx => ?_⟩
  obtain ⟨k, off, c, e, fz, _, _, _, g4⟩ := h6 (List.ne_nil_of_mem hx)
  obtain ⟨i, hi, rfl⟩ := List.getElem_of_mem hx
  obtain ⟨us, q1, _⟩ := g4 i hi
  exact ih _ _ q1
theorem okD_of : ∀ (t : DTy) (d : t.den) (us : List Value), RoT E t d us → okD t d
  | .unit, _, _, _ => trivial
  | .int _, _, _, h => h.2
  | .bool, _, _, _ => trivial
  | .str, _, _, _ => trivial
  | .ws _ _, _, _, h => ⟨h.1, h.2.1⟩
  | .pair a b, d, us, h => by
    obtain ⟨v1, v2, _, h2, h3⟩ := h
    exact ⟨okD_of a _ _ h2, okD_of b _ _ h3⟩
  | .sl t, d, us, h => by
    obtain ⟨v, _, h2⟩ := h
    exact okD_sl (okD_of t) h2
  | .ref, _, _, _ => trivial
theorem okC_of {x : Cell} {v : Value} (h : RelC E x v) : okC x := by
  cases x <;> try exact trivial
  · exact h.2
  · exact okD_sl (okD_of _) h
theorem okF_of : ∀ {fs : List FCell} {us : List Value}, RelFs E fs us → okF fs
  | [], _, _ => trivial
  | .c x :: fs, us, h => by
    obtain ⟨v1, v2, _, ⟨v, _, h1⟩, h2⟩ := h
    exact ⟨okC_of h1, okF_of h2⟩
  | .ws k n xs :: fs, us, h => by
    obtain ⟨v1, v2, _, h1, h2⟩ := h
    exact ⟨⟨h1.1, h1.2.1⟩, okF_of h2⟩
theorem okV_of {v : V1} {u : Value} (h : RelV E v u) : okV v := by
  cases v with
  | c x => exact okC_of h
  | g fs => obtain ⟨cs, _, h⟩ := h; exact okF_of h
theorem okVs_of : ∀ {vs : List V1} {us : List Value}, RelVs E vs us → okVs vs
  | [], _, _ => trivial
  | v :: vs, us, h => by
    obtain ⟨u, us', _, h1, h2⟩ := h
    exact ⟨okV_of h1, okVs_of h2⟩
end

section
variable {P : Program} {G : GlobT} {S : Tab}
theorem EntryOk.sub {f : FuncId} {T T' : List V1 → Heap → Tree (SV × Heap)} (h : EntryOk P G f T') (hs : ∀ vs hl r, okVs vs → (T vs hl).val = some r → (T' vs hl).val = some r) : EntryOk P G f T :=
  fun vs hl r hl' hr E us hE hrep hv => h vs hl r hl' (hs vs hl (r, hl') (okVs_of hv) hr) E us hE hrep hv

theorem EntryOk.runs {f : FuncId} {fn : Func} {c : Code} {T : List V1 → Heap → Tree (SV × Heap)} (hf : P.funcs[f]? = some fn) (hb : fn.body = some c) (hn : (fn.name == "runtime.NumGoroutine") = false)
    (h : ∀ vs hl r hl', okVs vs → (T vs hl).val = some (r, hl') → Runs P S fn hl.length [.code c] ⟨enterT fn vs, hl⟩ r hl') : EntryOk P S.gl f T :=
  fun vs hl r hl' hr E us hE hrep hv => Runs.spec hf hb hn (h vs hl r hl' (okVs_of hv) hr) E us hE hrep hv

def unlV : V1 → V1
  | .c x => .c (unlC x)
  | x => x
/-- numbers that are known as such are taken as any -/
theorem EntryOk.unlit {f : FuncId} {T : List V1 → Heap → Tree (SV × Heap)} (h : EntryOk P G f T) : EntryOk P G f (fun vs hl => T (vs.map unlV) hl) := by
  intro vs hl r hl' hr E us hE hrep hv
  refine h _ hl r hl' hr E us hE hrep ?_
  clear hr
  have : ∀ {vs : List V1} {us : List Value}, RelVs E vs us → RelVs E (vs.map unlV) us := by
    intro vs
    induction vs with
    | nil => intro us h; exact h
    | cons v vs ih =>
      intro us h
      obtain ⟨u, us', rfl, h1, h2⟩ := h
      refine ⟨u, us', rfl, ?_, ih h2⟩
      cases v with
      | c x => exact unlC_rel h1
      | g fs => exact h1
  exact this hv

def unlR : SV → SV
  | .one v => .one (unlV v)
  | .tup vs => .tup (vs.map unlV)
  | x => x
theorem unlV_rel {E : Env} {v : V1} {u : Value} (h : RelV E v u) : RelV E (unlV v) u := by
  cases v with
  | c x => exact unlC_rel h
  | g fs => exact h
theorem unlVs_rel {E : Env} : ∀ {vs : List V1} {us : List Value}, RelVs E vs us → RelVs E (vs.map unlV) us
  | [], _, h => h
  | _ :: _, _, h => by
    obtain ⟨u, us', rfl, h1, h2⟩ := h
    exact ⟨u, us', rfl, unlV_rel h1, unlVs_rel h2⟩
theorem unlR_rel {E : Env} {v : SV} {u : Value} (h : RelS E v u) : RelS E (unlR v) u := by
  cases v with
  | any => exact h
  | one v => exact unlV_rel h
  | tup vs =>
    obtain ⟨us, rfl, h⟩ := h
    exact ⟨us, rfl, unlVs_rel h⟩
theorem CallP.mono' {f : FuncId} {us : Array Value} {w : World} {R R' : Value → World → Prop} (h : CallP P f us w R) (hr : ∀ v w', R v w' → R' v w') : CallP P f us w R' := h.mono hr
/-- numbers in the results, too, are taken as any -/
theorem EntryOk.subU {f : FuncId} {T T' : List V1 → Heap → Tree (SV × Heap)} (h : EntryOk P G f T') (hs : ∀ vs hl r, okVs vs → (T vs hl).val = some r → ∃ r', (T' vs hl).val = some (r', r.2) ∧ unlR r' = r.1) : EntryOk P G f T := by
  intro vs hl r hl' hr E us hE hrep hv
  obtain ⟨r', h1, h2⟩ := hs vs hl (r, hl') (okVs_of hv) hr
  refine (h vs hl r' hl' h1 E us hE hrep hv).mono' fun v w' ⟨β', R', q1, q2, q3⟩ => ⟨β', R', q1, q2, ?_⟩
  have h2 : unlR r' = r := h2
  rw [← h2]
  exact unlR_rel q3

/-- .. also within aggregates -/
def unlF : List FCell → List FCell
  | [] => []
  | .c x :: fs => .c (unlC x) :: unlF fs
  | f :: fs => f :: unlF fs
def unlG : V1 → V1
  | .c x => .c (unlC x)
  | .g fs => .g (unlF fs)
theorem unlF_rel {E : Env} : ∀ {fs : List FCell} {vs : List Value}, RelFs E fs vs → RelFs E (unlF fs) vs
  | [], _, h => h
  | .c x :: fs, _, h => by
    obtain ⟨v1, v2, rfl, ⟨v, rfl, h1⟩, h2⟩ := h
    exact ⟨[v], v2, rfl, ⟨v, rfl, unlC_rel h1⟩, unlF_rel h2⟩
  | .ws k n xs :: fs, _, h => by
    obtain ⟨v1, v2, rfl, h1, h2⟩ := h
    exact ⟨v1, v2, rfl, h1, unlF_rel h2⟩
theorem unlG_rel {E : Env} {v : V1} {u : Value} (h : RelV E v u) : RelV E (unlG v) u := by
  cases v with
  | c x => exact unlC_rel h
  | g fs =>
    obtain ⟨cs, rfl, h⟩ := h
    exact ⟨cs, rfl, unlF_rel h⟩
theorem unlGs_rel {E : Env} : ∀ {vs : List V1} {us : List Value}, RelVs E vs us → RelVs E (vs.map unlG) us
  | [], _, h => h
  | _ :: _, _, h => by
    obtain ⟨u, us', rfl, h1, h2⟩ := h
    exact ⟨u, us', rfl, unlG_rel h1, unlGs_rel h2⟩
theorem EntryOk.unlitG {f : FuncId} {T : List V1 → Heap → Tree (SV × Heap)} (h : EntryOk P G f T) : EntryOk P G f (fun vs hl => T (vs.map unlG) hl) :=
  fun _ hl r hl' hr E us hE hrep hv => h _ hl r hl' hr E us hE hrep (unlGs_rel hv)
theorem okVs_unl {vs : List V1} (h : okVs vs) : okVs (vs.map unlG) := by
  have hC : ∀ {x : Cell}, okC x → okC (unlC x) := fun {x} h => by cases x <;> exact h
  have hF : ∀ {fs : List FCell}, okF fs → okF (unlF fs) := by
    intro fs
    induction fs with
    | nil => exact id
    | cons f fs ih =>
      cases f with
      | c x => exact fun h => ⟨hC h.1, ih h.2⟩
      | ws k n xs => exact fun h => ⟨h.1, ih h.2⟩
  induction vs with
  | nil => exact h
  | cons v vs ih =>
    refine ⟨?_, ih h.2⟩
    cases v with
    | c x => exact hC h.1
    | g fs => exact hF h.1
/-- a body that is gone through with its numbers taken as any -/
theorem EntryOk.unlitRuns {f : FuncId} {fn : Func} {c : Code} {T : List V1 → Heap → Tree (SV × Heap)} (hf : P.funcs[f]? = some fn) (hb : fn.body = some c) (hn : (fn.name == "runtime.NumGoroutine") = false)
    (h : ∀ vs hl r hl', okVs vs → (T vs hl).val = some (r, hl') → Runs P S fn hl.length [.code c] ⟨enterT fn (vs.map unlG), hl⟩ r hl') : EntryOk P S.gl f T :=
  fun vs hl r hl' hr E us hE hrep hv => Runs.spec hf hb hn (h vs hl r hl' (okVs_of hv) hr) E us hE hrep (unlGs_rel hv)

/-- a function that the model itself answers -/
theorem EntryOk.extern {f : FuncId} {fn : Func} {e : Array Value → Sem Value} {T : List V1 → Heap → Tree (SV × Heap)} (hf : P.funcs[f]? = some fn) (hname : (fn.name == "runtime.NumGoroutine") = false)
    (hb : fn.body.isNone = true) (hn : Extern.findNext fn = none) (he : Extern.find fn = some e) (hh : ∀ vs hl r, (T vs hl).val = some r → hl = [] ∧ r.2 = [])
    (h : ∀ vs r, okVs vs → (T vs []).val = some (r, []) → ∀ (E : Env) (us : Array Value) (w : World), RelVs E vs us.toList → ∃ v, (e us).run P w = .ok v w ∧ ∀ E', RelS E' r v) : EntryOk P G f T := by
  intro vs hl r hl' hr E us hE hrep hv
  obtain ⟨rfl, h2⟩ := hh _ _ _ hr
  obtain rfl : hl' = [] := h2
  right
  obtain ⟨v, h3, h4⟩ := h vs r (okVs_of hv) hr E us E.w hv
  refine ⟨v, E.w, ?_, E.β, E.R, ?_, ?_, h4 _⟩
  · rw [run_callFunc_extern hf hname hb hn he, h3]; rfl
  · rw [← hE]; exact hrep
  · rw [← hE]; exact Ext.refl E
end

theorem Runs.resU {P : Program} {S : Tab} {fn : Func} {m : Nat} {k : List Item} {s : St} {v : SV} {hl : Heap} (h : Runs P S fn m k s v hl) : Runs P S fn m k s (unlR v) hl :=
  fun E0 E a x hm hs => (h E0 E a x hm hs).mono fun _ _ ⟨q1, q⟩ => ⟨q1, fun w₁ g => let ⟨u, q2, β', R', q3, q4, q5⟩ := q w₁ g; ⟨u, q2, β', R', q3, q4, unlR_rel q5⟩⟩

/-- a loop whose state is told by a number and some datum -/
theorem loopG {P : Program} {S : Tab} {fn : Func} {m : Nat} {K : List Item} {v : SV} {hl : Heap} {α : Type} {st : Nat → α → St} {I : Nat → α → Prop} {n : Nat}
    (step : ∀ k a, k < n → I k a → ∃ a', I (k + 1) a' ∧ (Runs P S fn m K (st (k + 1) a') v hl → Runs P S fn m K (st k a) v hl))
    (last : ∀ a, I n a → Runs P S fn m K (st n a) v hl) : ∀ d k a, k + d = n → I k a → Runs P S fn m K (st k a) v hl
  | 0, k, a, h, hI => by obtain rfl : k = n := by omega
                         exact last a hI
  | d + 1, k, a, h, hI => by
    obtain ⟨a', hI', hr⟩ := step k a (by omega) hI
    exact hr (loopG step last d (k + 1) a' (by omega) hI')
end Go.SX
