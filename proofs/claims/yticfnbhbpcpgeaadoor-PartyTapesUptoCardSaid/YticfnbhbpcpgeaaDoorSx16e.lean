/-
  SX, part 16e: one goroutine's way, in whatever company: the others make blocks and draw answers, no more is seen of them.
-/
import Derived.Test.YticfnbhbpcpgeaaDoorSx16d
import Derived.Conc.Own3
import Derived.Conc.Own5
import Derived.Conc.Fork
namespace Go.SX
open Go Go.Conc
variable {P : Program} {main : Bool}

/-- the world with more blocks at its end, and another count of draws -/
structure Grow (w w₁ : World) : Prop where
  os : w₁.os = w.os
  tape : w₁.tape = w.tape
  output : w₁.output = w.output
  size : w.heap.size ≤ w₁.heap.size
  heap : ∀ k, k < w.heap.size → w₁.heap[k]? = w.heap[k]?
theorem Grow.refl (w : World) : Grow w w := ⟨rfl, rfl, rfl, Nat.le_refl _, fun _ _ => rfl⟩
theorem Grow.trans {a b c : World} (h : Grow a b) (h' : Grow b c) : Grow a c :=
  ⟨h'.os.trans h.os, h'.tape.trans h.tape, h'.output.trans h.output, Nat.le_trans h.size h'.size, fun k hk => (h'.heap k (Nat.lt_of_lt_of_le hk h.size)).trans (h.heap k hk)⟩

/-- it comes to a stop, on whatever way -/
inductive Way (P : Program) (main : Bool) (Stop : Goroutine → World → Prop) : Goroutine → World → Prop
  | stop {g : Goroutine} {w : World} : (∀ w₁, Grow w w₁ → Stop g w₁) → Way P main Stop g w
  | step {g : Goroutine} {w : World} (g' : World → Goroutine) (w' : World → World) (es : World → Array Event) : g.status = .running →
      (∀ w₁, Grow w w₁ → stepG P main g w₁ = .go (g' w₁) (w' w₁) (es w₁)) → (∀ w₁, Grow w w₁ → Way P main Stop (g' w₁) (w' w₁)) → Way P main Stop g w

section
variable {Stop Stop' : Goroutine → World → Prop} {g : Goroutine} {w : World}
theorem Way.go (hs : g.status = .running) (h : ∀ w₁, Grow w w₁ → ∃ g' w' es, stepG P main g w₁ = .go g' w' es ∧ Way P main Stop g' w') : Way P main Stop g w := by
  classical
  have h' : ∀ w₁, ∃ g' w' es, Grow w w₁ → stepG P main g w₁ = .go g' w' es ∧ Way P main Stop g' w' := fun w₁ => by
    by_cases hg : Grow w w₁
    · obtain ⟨a, b, c, d⟩ := h w₁ hg; exact ⟨a, b, c, fun _ => d⟩
    · exact ⟨g, w, #[], fun q => (hg q).elim⟩
  have hh := fun w₁ => Classical.choose_spec (Classical.choose_spec (Classical.choose_spec (h' w₁)))
  exact .step (fun w₁ => Classical.choose (h' w₁)) (fun w₁ => Classical.choose (Classical.choose_spec (h' w₁))) (fun w₁ => Classical.choose (Classical.choose_spec (Classical.choose_spec (h' w₁)))) hs (fun w₁ hg => (hh w₁ hg).1) (fun w₁ hg => (hh w₁ hg).2)
theorem Way.grow (h : Way P main Stop g w) {w₁ : World} (hg : Grow w w₁) : Way P main Stop g w₁ := by
  cases h with
  | stop h => exact .stop fun w₂ h₂ => h w₂ (hg.trans h₂)
  | step g' w' es hs h k => exact .step g' w' es hs (fun w₂ h₂ => h w₂ (hg.trans h₂)) (fun w₂ h₂ => k w₂ (hg.trans h₂))
theorem Way.bind (h : Way P main Stop g w) (hk : ∀ g w, Stop g w → Way P main Stop' g w) : Way P main Stop' g w := by
  induction h with
  | stop h =>
    rename_i g w
    have h0 := hk _ _ (h w (Grow.refl w))
    exact h0
  | step g' w' es hs h _ ih => exact .step g' w' es hs h ih
/-- an own step of control that leaves the world -/
theorem Way.ctl {g' : Goroutine} (hs : g.status = .running) (h : ∀ w₁, stepG P main g w₁ = .go g' w₁) (hk : Way P main Stop g' w) : Way P main Stop g w :=
  .go hs fun w₁ hg => ⟨g', w₁, #[], h w₁, hk.grow hg⟩
end

/-! ### steps that Derived/Conc lacks in this form -/
section
variable {b : Frame} {a : Act} {k : List Item} {cs : List Frame} {w : World}
theorem stepG_ret' : stepG P main (G (b.at a (.code .ret :: k)) cs) w = .go (G { b.at a (.code .ret :: k) with mode := .returning } cs) w := by simp [G, stepG, stepG.exec, Frame.at]
theorem stepG_leave' {f : FuncId} {fn : Func} {fr c : Frame} {v : Value} {w' : World} (hfn : fr.fn = f) (hn : fr.kind = .normal) (hm : fr.mode = .returning) (hd : fr.defers = []) (hf : P.funcs[f]? = some fn)
    (hr : (results fn fr.tmps).run P w = .ok v w') : ∃ es, stepG P main (G fr (c :: cs)) w = .go (G (c.finish v) cs) w' es := by
  refine ⟨Go.seen P f ((results fn fr.tmps).events P w #[]), ?_⟩
  obtain ⟨fn', tmps, todo, defers, mode, kind, ro⟩ := fr
  simp only at hfn hn hm hd hr
  subst hfn hn hm hd
  simp [G, stepG, unwind, doReturn, hf, hr, GStep.after]
theorem stepG_draw {id : Nat} {ops : Array Oper} :
    stepG P main (G (b.at a (.code (.region id ops true) :: k)) cs) w =
      .go (G (b.at a (.inRegion ops (Region.schedule (P.follows .mixedOrders) ops (w.tape w.drawn (.order b.fn id))) :: k)) cs) { w with drawn := w.drawn + 1 } := by
  simp [G, stepG, stepG.exec, Frame.at, choose, Sem.run, Question.forced, Question.cut]
end

/-- f's frame on its way out, with a result -/
def Leaves (P : Program) (f : FuncId) (R : Value → World → Prop) (fr : Frame) (w : World) : Prop :=
  fr.fn = f ∧ fr.kind = .normal ∧ fr.mode = .returning ∧ fr.defers = [] ∧ ∃ fn, P.funcs[f]? = some fn ∧ ∀ w₁, Grow w w₁ → ∃ u, (results fn fr.tmps).run P w₁ = .ok u w₁ ∧ R u w₁
/-- f is entered: it hands back what R says -/
def EnterOk (P : Program) (f : FuncId) (us : Array Value) (w : World) (R : Value → World → Prop) : Prop :=
  ∀ (main : Bool) (Stop : Goroutine → World → Prop) (cs : List Frame), (∀ fr w', Leaves P f R fr w' → Way P main Stop (G fr cs) w') → Way P main Stop (G (Frame.enter P f us .normal) cs) w
theorem EnterOk.call {f : FuncId} {us : Array Value} {w : World} {R : Value → World → Prop} (h : EnterOk P f us w R) {Stop : Goroutine → World → Prop} {c : Frame} {cs : List Frame}
    (hk : ∀ u w', R u w' → Way P main Stop (G (c.finish u) cs) w') : Way P main Stop (G (Frame.enter P f us .normal) (c :: cs)) w := by
  refine h main Stop (c :: cs) (fun fr w' hl => ?_)
  obtain ⟨h1, h2, h3, h4, fn, h5, h6⟩ := hl
  refine Way.go rfl (fun w₁ g => ?_)
  obtain ⟨u, h7, h8⟩ := h6 w₁ g
  obtain ⟨es, he⟩ := stepG_leave' (P := P) (main := main) (cs := cs) (c := c) h1 h2 h3 h4 h5 h7
  exact ⟨_, _, es, he, hk u w₁ h8⟩
/-- a call of f: it yields what R says -/
def CallP (P : Program) (f : FuncId) (us : Array Value) (w : World) (R : Value → World → Prop) : Prop :=
  ((callFunc f us).run P w = .ok (.enter f us) w ∧ EnterOk P f us w R) ∨
  (∃ v w', (callFunc f us).run P w = .ok (.value v) w' ∧ R v w')
theorem CallP.mono {f : FuncId} {us : Array Value} {w : World} {R R' : Value → World → Prop} (h : CallP P f us w R) (hr : ∀ v w', R v w' → R' v w') : CallP P f us w R' := by
  rcases h with ⟨h1, h2⟩ | ⟨v, w', h1, h2⟩
  · exact .inl ⟨h1, fun main Stop cs hk => h2 main Stop cs fun fr w' ⟨q1, q2, q3, q4, fn, q5, q6⟩ => hk fr w' ⟨q1, q2, q3, q4, fn, q5, fun w₁ g => let ⟨u, z1, z2⟩ := q6 w₁ g; ⟨u, z1, hr u w₁ z2⟩⟩⟩
  · exact .inr ⟨v, w', h1, hr _ _ h2⟩

/-! ### alone -/
theorem step_solo {g g' : Goroutine} {w w' : World} {es : Array Event} (hs : g.status = .running) (h : stepG P true g w = .go g' w' es) : step P (solo g w) = .next (solo g' w') := by
  have := (stepT_solo (P := P) (w := w) hs).trans (runT_solo_go h)
  unfold step
  rw [this]
theorem Way.steps {Stop : Goroutine → World → Prop} {g : Goroutine} {w : World} (h : Way P true Stop g w) : ∃ g' w', Stop g' w' ∧ Steps P (solo g w) (solo g' w') := by
  induction h with
  | stop h => exact ⟨_, _, h _ (Grow.refl _), Steps.refl _ _⟩
  | step g' w' es hs h _ ih =>
    obtain ⟨g2, w2, h1, h2⟩ := ih _ (Grow.refl _)
    exact ⟨g2, w2, h1, Steps.head (step_solo hs (h _ (Grow.refl _))) h2⟩
theorem EnterOk.calls {f : FuncId} {us : Array Value} {w : World} {R : Value → World → Prop} (h : EnterOk P f us w R) : Calls P f us w fun e w' => ∃ v, e = .returned v ∧ R v w' := by
  intro cs
  obtain ⟨g', w', ⟨fr, rfl, h1, h2, h3, h4, fn, h5, h6⟩, hst⟩ := (h true (fun g w => ∃ fr, g = G fr cs ∧ Leaves P f R fr w) cs (fun fr w' hl => .stop fun w₁ g => ⟨fr, rfl, hl.1, hl.2.1, hl.2.2.1, hl.2.2.2.1, let ⟨fn, q1, q2⟩ := hl.2.2.2.2; ⟨fn, q1, fun w₂ g₂ => q2 w₂ (g.trans g₂)⟩⟩)).steps
  obtain ⟨u, h7, h8⟩ := h6 w' (Grow.refl _)
  exact ⟨.returned u, w', fr, ⟨u, rfl, h8⟩, hst, h1, h3, h4, h2, fn, by rw [h1]; exact h5, h7⟩
end Go.SX
