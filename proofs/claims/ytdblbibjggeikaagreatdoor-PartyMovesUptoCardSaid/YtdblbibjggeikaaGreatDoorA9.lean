/- SX, part 16t: what the machine's run is asked for; goroutine 0 beside those that only leave. -/
import Derived.Test.YtdblbibjggeikaaGreatDoorA8
import Derived.Conc.Beside
import Derived.Conc.Own3
import Derived.Conc.Own5
import Derived.Conc.Fork
set_option linter.unusedSectionVars false
set_option linter.unusedVariables false
set_option linter.unusedSimpArgs false
namespace Go.SX
open Go Go.Conc
variable {P : Program}
structure Grow (w w₁ : World) : Prop where
 os : w₁.os = w.os
 tape : w₁.tape = w.tape
 output : w₁.output = w.output
 size : w.heap.size <= w₁.heap.size
 heap : ∀ k, k < w.heap.size -> w₁.heap[k]? = w.heap[k]?
theorem Grow.refl (w : World) : Grow w w := ⟨rfl, rfl, rfl, Nat.le_refl _, fun _ _ => rfl⟩
theorem Grow.trans {a b c : World} (h : Grow a b) (h' : Grow b c) : Grow a c :=
 ⟨h'.os.trans h.os, h'.tape.trans h.tape, h'.output.trans h.output, Nat.le_trans h.size h'.size, fun k hk => (h'.heap k (Nat.lt_of_lt_of_le hk h.size)).trans (h.heap k hk)⟩
class Level where
 both : Bool
 vol : Addr -> Prop
def Ends (P : Program) (Post : Value -> World -> Prop) (m : Machine) (t : Trace) : Prop :=
 ∃ M last o w' t', runNT P (M + 1) m t = (.ended o w', t') /\ runN P M m = .next last /\ step P last = .ended o w' /\ Conc.Good P Post last o w' t'
theorem Ends.step {Post : Value -> World -> Prop} {m m' : Machine} {t : Trace} {ops : Array MemOp} (h : Go.stepT P m = (.next m', ops)) (he : Ends P Post m' (t ++ ops)) : Ends P Post m t := by
 obtain ⟨M, last, o, w', t', h1, h2, h3, h4⟩ := he;refine ⟨M + 1, last, o, w', t', ?_, ?_, h3, h4⟩
 ·rw [runNT, h]; exact h1
 ·have : Go.step P m = .next m' := by unfold Go.step; rw [h]
  rw [runN, this]; exact h2
structure Gone (Shun : Loc -> Prop) (B : Nat) (t : Trace) : Prop where
 clean : ∀ said, ¬ Race said t
 known : ∀ i a, touchAt t i = some a -> a.loc.isMemory = true -> Knows t 0 i \/ (Shun a.loc /\ a.kind = .atomic)
 over : t.HandedOver
 hears : Deaf t 0 = 0
 low : ∀ op ∈ t, ∀ x, op.act.touch? = some x -> x.loc.low B
structure Solo (P : Program) (Shun : Loc -> Prop) (gs : Array Goroutine) (w : World) (t : Trace) (q : Nat -> Nat) (M : Nat -> Kd) (g : Goroutine) : Prop where
 g0 : gs[0]? = some g
 leave : Leavers P t gs q
 past : Gone Shun w.heap.size t
 num : ∀ op ∈ t, op.g < gs.size
 shun : ∀ a, Shun (.cell a) -> M a.block = .off
 fit : Fit M w
structure Held (M : Nat -> Kd) (w : World) (M' : Nat -> Kd) (w' : World) : Prop where
 size : w.heap.size <= w'.heap.size
 off : ∀ k, k < w.heap.size -> M k ≠ .own -> M' k = M k /\ w'.heap[k]? = w.heap[k]?
 lock : ∀ k, M' k = .lock -> M k = .lock
theorem Held.refl (M : Nat -> Kd) (w : World) : Held M w M w := ⟨Nat.le_refl _, fun _ _ _ => ⟨rfl, rfl⟩, fun _ h => h⟩
theorem Held.trans {M M' M'' : Nat -> Kd} {a b c : World} (h : Held M a M' b) (g : Held M' b M'' c) : Held M a M'' c :=
 ⟨Nat.le_trans h.size g.size, fun k hk hm => by
  obtain ⟨q1, q2⟩ := h.off k hk hm;obtain ⟨q3, q4⟩ := g.off k (Nat.lt_of_lt_of_le hk h.size) (by rw [q1]; exact hm)
  exact ⟨q3.trans q1, q4.trans q2⟩, fun k hk => h.lock k (g.lock k hk)⟩
theorem Held.at {M M' : Nat -> Kd} {w w' : World} (h : Held M w M' w') (d : Nat) : Held M w M' (w'.at d) := ⟨h.size, h.off, h.lock⟩
theorem Stood.held {M : Nat -> Kd} {w w' : World} (h : Stood M w w') : Held M w M w' := ⟨h.size, fun k hk hm => ⟨rfl, h.off k hk hm⟩, fun _ h => h⟩
def Big (P : Program) (g : Goroutine) (v : World) (K : Goroutine -> World -> Prop) : Prop :=
 ∀ (Post : Value -> World -> Prop) (Shun : Loc -> Prop) (M : Nat -> Kd) (w : World) (gs : Array Goroutine) (sl : Option (Nat × Nat)) (t : Trace) (q : Nat -> Nat), Grow v (ghost M w) -> Solo P Shun gs w t q M g ->
  (∀ Shun' M' w' gs' sl' t' q' g', K g' (ghost M' w') -> Held M w M' w' -> Solo P Shun' gs' w' t' q' M' g' -> Ends P Post (crowd gs' w' sl') t') -> Ends P Post (crowd gs w sl) t
end Go.SX
namespace Go.SX
open Go Go.Conc
variable {P : Program} {main : Bool} [Level]
def Lock (P : Program) (main : Bool) (g : Goroutine) (v : World) : Prop :=
 ∀ (M : Nat -> Kd) (w : World), ghost M w = v -> Fit M w -> ∀ (g' : Goroutine) (v' : World) (es : Array Event), stepG P main g v = .go g' v' es ->
  ∃ w', stepG P main g w = .go g' w' es /\ ghost M w' = v' /\ Stood M w w' /\ ∀ e ∈ es, EvOk M w' e
theorem Lock.ctl {g g' : Goroutine} (h : ∀ w₁, stepG P main g w₁ = .go g' w₁) (v : World) : Lock P main g v := fun M w hv hf g2 v' es he => by
 rw [h v] at he;cases he
 exact ⟨w, h w, hv, Stood.refl w, by simp⟩
def VolStep (P : Program) (main : Bool) (g : Goroutine) (a : Addr) (δ : Int) (g' : Int -> Goroutine) : Prop :=
 ∀ (w : World) (n : Int), w.cell? a = some (.int .i64 n) -> w.frozen? a = false -> stepG P main g w = .go (g' (IntKind.i64.wrap (n + δ))) (w.setCell a (.int .i64 (IntKind.i64.wrap (n + δ)))) #[⟨.cell a, false, true⟩, ⟨.cell a, true, true⟩]
inductive Way0 (P : Program) (main : Bool) (Stop : Goroutine -> World -> Prop) : Goroutine -> World -> Prop
 | stop {g : Goroutine} {w : World} : (∀ w₁, Grow w w₁ -> Stop g w₁) -> Way0 P main Stop g w
 | step {g : Goroutine} {w : World} (g' : World -> Goroutine) (w' : World -> World) (es : World -> Array Event) : g.status = .running -> (∀ w₁, Grow w w₁ -> Lock P main g w₁) ->
   (∀ w₁, Grow w w₁ -> stepG P main g w₁ = .go (g' w₁) (w' w₁) (es w₁)) -> (∀ w₁, Grow w w₁ -> Way0 P main Stop (g' w₁) (w' w₁)) -> Way0 P main Stop g w
 | vol {g : Goroutine} {w : World} (a : Addr) (δ : Int) (g' : Int -> Goroutine) : g.status = .running -> Level.vol a -> VolStep P main g a δ g' -> (∀ n, IntKind.i64.min <= n /\ n <= IntKind.i64.max -> ∀ w₁, Grow w w₁ -> Way0 P main Stop (g' n) w₁) -> Way0 P main Stop g w
 | big {g : Goroutine} {w : World} (K : Goroutine -> World -> Prop) : main = true -> Level.both = false -> (∀ w₁, Grow w w₁ -> Big P g w₁ K) -> (∀ g' w', K g' w' -> Way0 P main Stop g' w') -> Way0 P main Stop g w
def Way (P : Program) (main : Bool) (Stop : Goroutine -> World -> Prop) (g : Goroutine) (w : World) : Prop := (main = true \/ Level.both = true) -> Way0 P main Stop g w
section
variable {Stop Stop' : Goroutine -> World -> Prop} {g : Goroutine} {w : World}
theorem Way0.grow (h : Way0 P main Stop g w) {w₁ : World} (hg : Grow w w₁) : Way0 P main Stop g w₁ := by
 cases h with
 | stop h => exact .stop fun w₂ h₂ => h w₂ (hg.trans h₂)
 | step g' w' es hs hl h k => exact .step g' w' es hs (fun w₂ h₂ => hl w₂ (hg.trans h₂)) (fun w₂ h₂ => h w₂ (hg.trans h₂)) (fun w₂ h₂ => k w₂ (hg.trans h₂))
 | vol a δ g' hs ha h k => exact .vol a δ g' hs ha h (fun n hn w₂ h₂ => k n hn w₂ (hg.trans h₂))
 | big K hm hb h k => exact .big K hm hb (fun w₂ h₂ => h w₂ (hg.trans h₂)) k
theorem Way.stop (h : ∀ w₁, Grow w w₁ -> Stop g w₁) : Way P main Stop g w := fun _ => .stop h
theorem Way.go (hs : g.status = .running) (hl : ∀ w₁, Grow w w₁ -> Lock P main g w₁) (h : ∀ w₁, Grow w w₁ -> ∃ g' w' es, stepG P main g w₁ = .go g' w' es /\ Way P main Stop g' w') : Way P main Stop g w := fun hm => by
 classical
 have h' : ∀ w₁, ∃ g' w' es, Grow w w₁ -> stepG P main g w₁ = .go g' w' es /\ Way0 P main Stop g' w' := fun w₁ => by
  by_cases hg : Grow w w₁
  ·obtain ⟨a, b, c, d, e⟩ := h w₁ hg; exact ⟨a, b, c, fun _ => ⟨d, e hm⟩⟩
  ·exact ⟨g, w, #[], fun q => (hg q).elim⟩
 have hh := fun w₁ => Classical.choose_spec (Classical.choose_spec (Classical.choose_spec (h' w₁)))
 exact .step (fun w₁ => Classical.choose (h' w₁)) (fun w₁ => Classical.choose (Classical.choose_spec (h' w₁))) (fun w₁ => Classical.choose (Classical.choose_spec (Classical.choose_spec (h' w₁)))) hs hl (fun w₁ hg => (hh w₁ hg).1) (fun w₁ hg => (hh w₁ hg).2)
theorem Way.grow (h : Way P main Stop g w) {w₁ : World} (hg : Grow w w₁) : Way P main Stop g w₁ := fun hm => (h hm).grow hg
theorem Way.vol (a : Addr) (δ : Int) (g' : Int -> Goroutine) (hs : g.status = .running) (ha : Level.vol a) (hv : VolStep P main g a δ g') (hk : ∀ n, IntKind.i64.min <= n /\ n <= IntKind.i64.max -> ∀ w₁, Grow w w₁ -> Way P main Stop (g' n) w₁) : Way P main Stop g w := fun hm => .vol a δ g' hs ha hv (fun n hn w₁ h₁ => hk n hn w₁ h₁ hm)
theorem Way.ctl {g' : Goroutine} (hs : g.status = .running) (h : ∀ w₁, stepG P main g w₁ = .go g' w₁) (hk : Way P main Stop g' w) : Way P main Stop g w :=
 .go hs (fun w₁ _ => Lock.ctl h w₁) fun w₁ hg => ⟨g', w₁, #[], h w₁, hk.grow hg⟩
end
section
variable {b : Frame} {a : Act} {k : List Item} {cs : List Frame} {w : World}
theorem stepG_ret' : stepG P main (G (b.at a (.code .ret :: k)) cs) w = .go (G { b.at a (.code .ret :: k) with mode := .returning } cs) w := by simp [G, stepG, stepG.exec, Frame.at]
theorem stepG_leave' {f : FuncId} {fn : Func} {fr c : Frame} {v : Value} {w' : World} (hfn : fr.fn = f) (hn : fr.kind = .normal) (hm : fr.mode = .returning) (hd : fr.defers = []) (hf : P.funcs[f]? = some fn)
  (hr : (results fn fr.tmps).run P w = .ok v w') : ∃ es, stepG P main (G fr (c :: cs)) w = .go (G (c.finish v) cs) w' es := by
 refine ⟨Go.seen P f ((results fn fr.tmps).events P w #[]), ?_⟩
 obtain ⟨fn', tmps, todo, defers, mode, kind, ro⟩ := fr;simp only at hfn hn hm hd hr
 subst hfn hn hm hd;simp [G, stepG, unwind, doReturn, hf, hr, GStep.after]
theorem stepG_leave2 {f : FuncId} {fn : Func} {fr c : Frame} {u : Value} {w' : World} (hfn : fr.fn = f) (hn : fr.kind = .normal) (hm : fr.mode = .returning) (hd : fr.defers = []) (hf : P.funcs[f]? = some fn)
  (hr : (results fn fr.tmps).run P w = .ok u w') : stepG P main (G fr (c :: cs)) w = .go (G (c.finish u) cs) w' (Go.seen P f ((results fn fr.tmps).events P w #[])) := by
 obtain ⟨fn', tmps, todo, defers, mode, kind, ro⟩ := fr;simp only at hfn hn hm hd hr
 subst hfn hn hm hd;simp [G, stepG, unwind, doReturn, hf, hr, GStep.after]
theorem run_of_runT {α : Type} {s : Sem α} {w w' : World} {es es' : Array Event} {a : α} (h : s.runT P w es = (.ok a w', es')) : s.run P w = .ok a w' /\ s.events P w es = es' := by
 rw [Sem.runT_eq] at h;simpa using h
theorem lock_leave {f : FuncId} {fn : Func} {fr c : Frame} {u : Value} {v v1 : World} (hfn : fr.fn = f) (hn : fr.kind = .normal) (hm : fr.mode = .returning) (hd : fr.defers = []) (hf : P.funcs[f]? = some fn) (hr : (results fn fr.tmps).run P v = .ok u v1) : Lock P main (G fr (c :: cs)) v := by
 intro M w hv hfit g' v' es he;rw [stepG_leave2 hfn hn hm hd hf hr] at he;cases he
 obtain ⟨w', new, q1, q2, q3, q4, q5⟩ := (b_results (P := P) (fn := fn) (tmps := fr.tmps)).obl M w hv hfit #[] ((results fn fr.tmps).events P v #[]) u v1 (by rw [Sem.runT_eq, hr])
 obtain ⟨r1, r2⟩ := run_of_runT q1;refine ⟨w', by rw [stepG_leave2 hfn hn hm hd hf r1, r2], q2, q3, fun e hm => q5 e ?_⟩
 have := seen_sub hm
 rw [q4] at this;simpa using this
theorem stepG_draw {id : Nat} {ops : Array Oper} :
  stepG P main (G (b.at a (.code (.region id ops true) :: k)) cs) w =
   .go (G (b.at a (.inRegion ops (Region.schedule (P.follows .mixedOrders) ops (w.tape w.drawn (.order b.fn id))) :: k)) cs) { w with drawn := w.drawn + 1 } := by
 simp [G, stepG, stepG.exec, Frame.at, choose, Sem.run, Question.forced, Question.cut]
theorem lock_draw {id : Nat} {ops : Array Oper} (v : World) : Lock P main (G (b.at a (.code (.region id ops true) :: k)) cs) v := fun M w hv hf g' v' es he => by
 rw [stepG_draw] at he;cases he
 subst hv;exact ⟨_, stepG_draw, rfl, ⟨Nat.le_refl _, fun _ _ _ => rfl, rfl, rfl, rfl⟩, by simp⟩
end
def Leaves (P : Program) (f : FuncId) (R : Value -> World -> Prop) (fr : Frame) (w : World) : Prop :=
 fr.fn = f /\ fr.kind = .normal /\ fr.mode = .returning /\ fr.defers = [] /\ ∃ fn, P.funcs[f]? = some fn /\ ∀ w₁, Grow w w₁ -> ∃ u, (results fn fr.tmps).run P w₁ = .ok u w₁ /\ R u w₁
def EnterOk (P : Program) (f : FuncId) (us : Array Value) (w : World) (R : Value -> World -> Prop) : Prop :=
 ∀ (main : Bool) (Stop : Goroutine -> World -> Prop) (cs : List Frame), (∀ fr w', Leaves P f R fr w' -> Way P main Stop (G fr cs) w') -> Way P main Stop (G (Frame.enter P f us .normal) cs) w
theorem EnterOk.call {f : FuncId} {us : Array Value} {w : World} {R : Value -> World -> Prop} (h : EnterOk P f us w R) {Stop : Goroutine -> World -> Prop} {c : Frame} {cs : List Frame}
  (hk : ∀ u w', R u w' -> Way P main Stop (G (c.finish u) cs) w') : Way P main Stop (G (Frame.enter P f us .normal) (c :: cs)) w := by
 refine h main Stop (c :: cs) (fun fr w' hl => ?_)
 obtain ⟨h1, h2, h3, h4, fn, h5, h6⟩ := hl;refine Way.go rfl (fun w₁ g => ?_) (fun w₁ g => ?_)
 ·obtain ⟨u, h7, _⟩ := h6 w₁ g;exact lock_leave h1 h2 h3 h4 h5 h7
 obtain ⟨u, h7, h8⟩ := h6 w₁ g;obtain ⟨es, he⟩ := stepG_leave' (P := P) (main := main) (cs := cs) (c := c) h1 h2 h3 h4 h5 h7;exact ⟨_, _, es, he, hk u w₁ h8⟩
def VolSem (P : Program) (s : Sem Next) (a : Addr) (δ : Int) : Prop :=
 ∀ (w : World) (n : Int), w.cell? a = some (.int .i64 n) -> w.frozen? a = false ->
  ∃ f, s.runT P w #[] = (.ok (.value (.int .i64 (IntKind.i64.wrap (n + δ)))) (w.setCell a (.int .i64 (IntKind.i64.wrap (n + δ)))), #[⟨.mark (.extern f), false, true⟩, ⟨.cell a, false, true⟩, ⟨.cell a, true, true⟩])
def CallP (P : Program) (f : FuncId) (us : Array Value) (w : World) (R : Value -> World -> Prop) : Prop :=
 Obl P w (callFunc f us) /\ (((callFunc f us).run P w = .ok (.enter f us) w /\ EnterOk P f us w R) \/
 (∃ v w', (callFunc f us).run P w = .ok (.value v) w' /\ R v w'))
def VolP (P : Program) (f : FuncId) (us : Array Value) (w : World) (R : Value -> World -> Prop) : Prop :=
 ∃ a δ, Level.vol a /\ VolSem P (callFunc f us) a δ /\ ∀ n, IntKind.i64.min <= n /\ n <= IntKind.i64.max -> R (.int .i64 n) w
def CallB (b : Bool) (P : Program) (f : FuncId) (us : Array Value) (w : World) (R : Value -> World -> Prop) : Prop :=
 match b with
 | true => VolP P f us w R
 | false => CallP P f us w R
theorem CallP.mono {f : FuncId} {us : Array Value} {w : World} {R R' : Value -> World -> Prop} (h : CallP P f us w R) (hr : ∀ v w', R v w' -> R' v w') : CallP P f us w R' := by
 obtain ⟨ho, h⟩ := h;refine ⟨ho, ?_⟩
 rcases h with ⟨h1, h2⟩ | ⟨v, w', h1, h2⟩
 ·exact .inl ⟨h1, fun main Stop cs hk => h2 main Stop cs fun fr w' ⟨q1, q2, q3, q4, fn, q5, q6⟩ => hk fr w' ⟨q1, q2, q3, q4, fn, q5, fun w₁ g => let ⟨u, z1, z2⟩ := q6 w₁ g; ⟨u, z1, hr u w₁ z2⟩⟩⟩
 ·exact .inr ⟨v, w', h1, hr _ _ h2⟩
theorem CallB.mono {b : Bool} {f : FuncId} {us : Array Value} {w : World} {R R' : Value -> World -> Prop} (h : CallB b P f us w R) (hr : ∀ v w', R v w' -> R' v w') : CallB b P f us w R' := by
 cases b with
 | false => exact CallP.mono h hr
 | true =>
  obtain ⟨a, δ, h1, h2, h3⟩ := h;exact ⟨a, δ, h1, h2, fun n hn => hr _ _ (h3 n hn)⟩
end Go.SX
namespace Go.SX
open Go
variable {P : Program} [Level]
def SpecOk (P : Program) (S : Tab) : Prop :=
 ∀ f vs hl r hl', (S.T f vs hl).val = some (r, hl') -> ∀ (E : Env) (us : Array Value), E.H = hl -> RepH S.gl E -> RelVs E vs us.toList ->
  CallB (S.vf f) P f us E.w fun u w' => ∃ β' R', RepH S.gl ⟨β', hl', w', R'⟩ /\ Ext E ⟨β', hl', w', R'⟩ /\ RelS ⟨β', hl', w', R'⟩ r u
def CallOk (b : Bool) (P : Program) (G : GlobT) (E : Env) (f : FuncId) (us : Array Value) (r : Res) : Prop := CallB b P f us E.w fun u w' => ResR G E r u w'
theorem seen_iff {b : Nat} {l : List Nat} : seen b l = true ↔ b ∈ l := by simp [seen]
theorem nodup_of : ∀ {l : List Nat}, nodupB l = true -> l.Nodup
 | [], _ => List.nodup_nil
 | x :: xs, h => by
  simp only [nodupB, Bool.and_eq_true, Bool.not_eq_true'] at h;refine List.nodup_cons.2 ⟨fun hm => ?_, nodup_of h.2⟩
  rw [seen_iff.2 hm] at h; cases h.1
theorem place_some {ids : List Nat} {b j : Nat} (h : place ids b = some j) : ids[j]? = some b := by
 unfold place at h;obtain ⟨h1, h2, _⟩ := List.findIdx?_eq_some_iff_getElem.1 h
 rw [List.getElem?_eq_getElem h1]
 simpa using h2
theorem place_none {ids : List Nat} {b : Nat} (h : place ids b = none) : b ∉ ids := by
 unfold place at h;rw [List.findIdx?_eq_none_iff] at h
 intro hm;have := h b hm
 simp at this
theorem getB_eq (H : Heap) (n : Nat) : getB H n = (H[n]?).getD .dead := by
 induction H generalizing n with
 | nil => simp [getB]
 | cons x H ih => cases n with
  | zero => rfl
  | succ n => simp only [getB, ih]; simp
theorem mapO_get {α β : Type} {f : α -> Option β} : ∀ {l : List α} {r : List β}, mapO f l = some r -> r.length = l.length /\ ∀ (i : Nat) (x : α), l[i]? = some x -> ∃ y, f x = some y /\ r[i]? = some y
 | [], r, h => by obtain rfl := smI h; exact ⟨rfl, fun i x h => by simp at h⟩
 | a :: l, r, h => by
  simp only [mapO] at h;split at h
  ·rename_i y r' h1 h2;obtain rfl := smI h;obtain ⟨g1, g2⟩ := mapO_get h2;refine ⟨by simp [g1], fun i x hx => ?_⟩
   cases i with
   | zero => simp at hx; subst hx; exact ⟨y, h1, rfl⟩
   | succ i => simp at hx; obtain ⟨z, q1, q2⟩ := g2 i x hx; exact ⟨z, q1, by simpa using q2⟩
  ·cases h
section pass
variable {G : GlobT} {E : Env} {look : Look} {ids : List Nat} {hl : Heap} {Rl : Nat -> Prop}
theorem passB_arr {look : Look} {ids : List Nat} {t : DTy} {xs : List t.den} {lo : Nat} {blk : Blk} (h : passB look ids (.arr t xs lo []) = some blk) : t.rf = false /\ blk = .arr t xs 0 [] := by
 simp only [passB] at h;split at h
 ·cases h
 ·rename_i hf;exact ⟨hf, (smI h).symm⟩
def callee (E : Env) (ids : List Nat) (hl : Heap) (Rl : Nat -> Prop) : Env := ⟨fun j => match ids[j]? with | some b => E.β b | none => none, hl, E.w, Rl⟩
structure PassOk (G : GlobT) (E : Env) (look : Look) (ids : List Nat) (hl : Heap) (Rl : Nat -> Prop) (shown : List Nat) : Prop where
 hE : RepH G E
 hlook : ∀ b, look b = .dead \/ look b = getB E.H b \/ (∃ t xs lo par, look b = .arr t xs lo par /\ getB E.H b = .frz t xs)
 hnd : ids.Nodup
 hhl : mapO (fun b => passB look ids (look b)) ids = some hl
 hlids : ∀ b ∈ ids, look b = .dead \/ look b = getB E.H b
 sub : ∀ k, E.R k -> Rl k
 hshown : ∀ b ∈ shown, ∀ k, E.β b = some k -> Rl k
 from_ : ∀ k, Rl k -> E.R k \/ ∃ b ∈ shown, E.β b = some k
 hout : ∀ b ∈ shown, b ∉ ids
variable {shown : List Nat} (h : PassOk G E look ids hl Rl shown)
include h
theorem PassOk.get {j b : Nat} (hj : ids[j]? = some b) : ∃ blk, passB look ids (look b) = some blk /\ getB hl j = blk /\ look b = getB E.H b := by
 obtain ⟨g1, g2⟩ := mapO_get h.hhl;obtain ⟨blk, q1, q2⟩ := g2 j b hj;refine ⟨blk, q1, by rw [getB_eq, q2]; rfl, ?_⟩
 rcases h.hlids b (List.mem_of_getElem? hj) with h1 | h1
 ·rw [h1] at q1; simp [passB] at q1
 ·exact h1
theorem PassOk.rot : ∀ {t : DTy} {d : t.den} {vs : List Value}, t.rf = false -> RoT E t d vs -> RoT (callee E ids hl Rl) t d vs
 | .unit, _, _, _, q => q
 | .int _, _, _, _, q => q
 | .bool, _, _, _, q => q
 | .str, _, _, _, q => q
 | .ws _ _, _, _, _, q => q
 | .pair a b, d, vs, hf, q => by
  have hf : (a.rf || b.rf) = false := hf
  rw [Bool.or_eq_false_iff] at hf;obtain ⟨v1, v2, q1, q2, q3⟩ := q;exact ⟨v1, v2, q1, PassOk.rot hf.1 q2, PassOk.rot hf.2 q3⟩
 | .sl t, d, vs, hf, q => by
  obtain ⟨v, q1, a, cap, q2, q3, q4, q5, q6, q7⟩ := q;refine ⟨v, q1, a, cap, q2, q3, q4, q5, q6, fun hne => ?_⟩
  obtain ⟨k, off, c, e, fz, g1, g2, g3, g4⟩ := q7 hne;exact ⟨k, off, c, e, fz, g1, h.sub k g2, g3, g4.mono fun a us hq => PassOk.rot (t := t) hf hq⟩
 | .ref, _, _, hf, _ => by cases hf
 | .vp, _, _, _, q => q
theorem PassOk.rosl {t : DTy} {xs : List t.den} {len : Nat} {v : Value} (hf : t.rf = false) (q : RoSl E t.size (RoT E t) xs len v) : RoSl (callee E ids hl Rl) t.size (RoT (callee E ids hl Rl) t) xs len v := by
 obtain ⟨a, cap, q2, q3, q4, q5, q6, q7⟩ := q;refine ⟨a, cap, q2, q3, q4, q5, q6, fun hne => ?_⟩
 obtain ⟨k, off, c, e, fz, g1, g2, g3, g4⟩ := q7 hne;exact ⟨k, off, c, e, fz, g1, h.sub k g2, g3, g4.mono fun a us hq => h.rot hf hq⟩
omit h in
theorem PassOk.beta {j b : Nat} (hj : ids[j]? = some b) : (callee E ids hl Rl).β j = E.β b := by
 show (match ids[j]? with | some b => E.β b | none => none) = _
 rw [hj]
theorem PassOk.showSl {b off len : Nat} {t : DTy} {xs : List t.den} {v : Value} (hf : t.rf = false) (hb : (∃ lo par, getB E.H b = .arr t xs lo par) \/ getB E.H b = .frz t xs) (hs : b ∈ shown) (hv : RelC E (.sl b off len) v) :
  RelC (callee E ids hl Rl) (.ro t (xs.drop off) len) v := by
 obtain ⟨f1, f2, f3⟩ := h.hE.fits hb;have hsl : SlAt E b t.size off len xs.length v := by
  obtain ⟨_, hv⟩ := hv;unfold RelSl at hv;rcases hb with ⟨lo, par, hb⟩ | hb <;> rw [hb] at hv <;> exact hv
 obtain ⟨a, cap, rfl, h1, h2, h3, h4⟩ := hsl;rcases h4 with ⟨h4, h5⟩ | ⟨k, c, e, fz, h4, h5, h6, h7⟩
 ·have h0 := f2 h4
  have hx : xs = [] := List.eq_nil_of_length_eq_zero h0
  subst hx;exact ⟨a, cap, rfl, by simp at h3 ⊢; omega, by simp, h2, f1, fun h => by simp at h⟩
 ·have hle := f3 k c e fz h4 h6
  rw [<- h7] at hle;have hle := Nat.le_of_mul_le_mul_right hle f1
  refine ⟨a, cap, rfl, by rw [List.length_drop]; omega, by rw [List.length_drop]; omega, h2, f1, fun hne => ?_⟩
  have hpos : 0 < (xs.drop off).length := List.length_pos_iff.2 hne
  rw [List.length_drop] at hpos;obtain ⟨c', e', fz', g1, g2⟩ := blockRows h.hE hb h4;rw [h6] at g1; cases g1;refine ⟨k, off * t.size, c, e, fz, h5.resolve_left (by omega), h.hshown b hs k h4, h6, ?_⟩
  have := (g2.drop off).mono (Q' := RoT (callee E ids hl Rl) t) fun a us hq => h.rot hf hq
  rwa [Nat.zero_add] at this
theorem PassOk.lookSl {b off len : Nat} {v : Value} (hv : RelC E (.sl b off len) v) {t : DTy} {xs : List t.den} (hb : (∃ lo par, look b = .arr t xs lo par) \/ look b = .frz t xs) : (∃ lo par, getB E.H b = .arr t xs lo par) \/ getB E.H b = .frz t xs := by
 rcases h.hlook b with h1 | h1 | ⟨t', xs', lo', par', h1, h2⟩
 ·rcases hb with ⟨lo, par, hb⟩ | hb <;> rw [h1] at hb <;> cases hb
 ·rcases hb with ⟨lo, par, hb⟩ | hb
  ·exact .inl ⟨lo, par, by rw [<- h1]; exact hb⟩
  ·exact .inr (by rw [<- h1]; exact hb)
 ·rcases hb with ⟨lo, par, hb⟩ | hb <;> rw [h1] at hb <;> cases hb
  exact .inr h2
omit h in
theorem rf_of {t : DTy} (hr : (match t.rf with | true => [0] | false => []) = ([] : List Nat)) : t.rf = false := by
 cases h : t.rf with
 | false => rfl
 | true => rw [h] at hr; cases hr
theorem PassOk.caps0 : ∀ {cs : List Cell} {us : List Value}, capRefs cs = [] -> RelCaps E cs us -> RelCaps (callee E ids hl Rl) cs us
 | [], _, _, hv => hv
 | c :: cs, us, hr, hv => by
  obtain ⟨u, us', rfl, h1, h2⟩ := hv;cases c <;> first | exact h1.elim | (simp [capRefs] at hr; done) | exact ⟨u, us', rfl, h1, PassOk.caps0 (cs := cs) hr h2⟩ | skip
  rename_i t d o k;have hr : (match t.rf with | true => [0] | false => []) ++ capRefs cs = ([] : List Nat) := hr
  obtain ⟨kb, off, c, e, fz, vs, q1, q2, q3, q4, q5, q6⟩ := h1;exact ⟨u, us', rfl, ⟨kb, off, c, e, fz, vs, q1, h.sub kb q2, q3, h.rot (rf_of (List.append_eq_nil_iff.1 hr).1) q4, q5, q6⟩, PassOk.caps0 (List.append_eq_nil_iff.1 hr).2 h2⟩
theorem PassOk.noRefs : ∀ {x : Cell} {v : Value}, cellRefs x = [] -> RelC E x v -> RelC (callee E ids hl Rl) x v
 | .any, v, _, hv => hv
 | .int .., v, _, hv => hv
 | .bool .., v, _, hv => hv
 | .str _, v, _, hv => hv
 | .nilp, v, _, hv => hv
 | .nils, v, _, hv => hv
 | .nilif, v, _, hv => hv
 | .nilfn, v, _, hv => hv
 | .fn f cs, v, hr, hv => by
  obtain ⟨us, h1, h2⟩ := hv;exact ⟨us, h1, h.caps0 hr h2⟩
 | .vptr _, v, _, hv => hv
 | .rptr t d o k, v, hr, hv => by
  obtain ⟨kb, off, c, e, fz, us, q1, q2, q3, q4, q5, q6⟩ := hv;exact ⟨kb, off, c, e, fz, us, q1, h.sub kb q2, q3, h.rot (rf_of hr) q4, q5, q6⟩
 | .ro t xs len, v, hr, hv => h.rosl (rf_of hr) hv
 | .ifc t x, v, hr, hv => by
  obtain ⟨u, rfl, hv⟩ := hv;exact ⟨u, rfl, PassOk.noRefs (x := x) hr hv⟩
 | .ifd T t d, v, hr, hv => by
  obtain ⟨cs, rfl, hv⟩ := hv;exact ⟨cs, rfl, h.rot (rf_of hr) hv⟩
 | .ref .., v, hr, hv => by simp [cellRefs] at hr
 | .ptr .., v, hr, hv => by simp [cellRefs] at hr
 | .sl .., v, hr, hv => by simp [cellRefs] at hr
 | .sla .., v, hr, hv => by simp [cellRefs] at hr
theorem PassOk.relptr {b i es o k n j : Nat} {v : Value} (hj : place ids b = some j) (hv : RelPtr E b i es o k n v) : RelPtr (callee E ids hl Rl) j i es o k n v := by
 have hj := place_some hj
 obtain ⟨blk, g1, g2, g3⟩ := h.get hj;unfold RelPtr at hv ⊢;have hβ := PassOk.beta (E := E) (hl := hl) (Rl := Rl) hj
 have hat : ∀ {es o : Nat}, PtrAt E b i es o k n v -> PtrAt (callee E ids hl Rl) j i es o k n v := fun ⟨⟨kb, q1, q2⟩, q3⟩ => ⟨⟨kb, hβ.trans q1, q2⟩, q3⟩
 show (match getB hl j with | .vals _ => _ | .arr t xs _ _ => _ | .frz t xs => _ | .gone => _ | .dead => _)
 rw [<- g3] at hv;cases hb : look b with
 | vals fs =>
  rw [hb] at hv g1;simp only [passB] at g1;split at g1
  ·obtain rfl := smI g1;rw [g2]; exact hat hv
  ·cases g1
 | arr t xs lo par =>
  rw [hb] at hv g1;cases par with
  | nil => rw [(passB_arr g1).2] at g2; rw [g2]; exact ⟨hv.1, fun e => hat (hv.2.1 e), hv.2.2⟩
  | cons _ _ => cases g1
 | frz t xs => rw [hb] at g1; cases g1
 | gone => rw [hb] at g1; cases g1
 | dead => rw [hb] at g1; cases g1
theorem PassOk.caps : ∀ {cs r : List Cell} {us : List Value}, passCaps ids cs = some r -> RelCaps E cs us -> RelCaps (callee E ids hl Rl) r us
 | [], r, us, hp, hv => by obtain rfl := smI hp; exact hv
 | c :: cs, r, us, hp, hv => by
  obtain ⟨u, us', rfl, h1, h2⟩ := hv;simp only [passCaps] at hp;split at hp
  ·rename_i y r' hy hr';obtain rfl := smI hp;refine ⟨u, us', rfl, ?_, PassOk.caps hr' h2⟩
   cases c <;> first | exact h1.elim | (cases hy; done) | skip
   ·simp only [passCap] at hy;split at hy
    ·rename_i j hj;obtain rfl := smI hy;exact ⟨h1.1, h.relptr hj h1.2⟩
    ·cases hy
   ·simp only [passCap] at hy;split at hy
    ·cases hy
    ·rename_i hf;obtain rfl := smI hy;obtain ⟨kb, off, c, e, fz, vs, q1, q2, q3, q4, q5, q6⟩ := h1;exact ⟨kb, off, c, e, fz, vs, q1, h.sub kb q2, q3, h.rot hf q4, q5, q6⟩
   ·obtain rfl := smI hy;exact h1
  ·cases hp
theorem PassOk.cell0 : ∀ {x y : Cell} {v : Value}, passC0 look ids x = some y -> (∀ b ∈ shownC0 ids x, b ∈ shown) -> RelC E x v -> RelC (callee E ids hl Rl) y v
 | .any, y, v, hp, _, hv => by obtain rfl := smI hp; exact hv
 | .int .., y, v, hp, _, hv => by obtain rfl := smI hp; exact hv
 | .bool .., y, v, hp, _, hv => by obtain rfl := smI hp; exact hv
 | .str _, y, v, hp, _, hv => by obtain rfl := smI hp; exact hv
 | .nilp, y, v, hp, _, hv => by obtain rfl := smI hp; exact hv
 | .nils, y, v, hp, _, hv => by obtain rfl := smI hp; exact hv
 | .nilif, y, v, hp, _, hv => by obtain rfl := smI hp; exact hv
 | .nilfn, y, v, hp, _, hv => by obtain rfl := smI hp; exact hv
 | .rptr t d o k, y, v, hp, _, hv => by
  simp only [passC0] at hp;split at hp
  ·cases hp
  ·rename_i hf;obtain rfl := smI hp;obtain ⟨kb, off, c, e, fz, us, q1, q2, q3, q4, q5, q6⟩ := hv;exact ⟨kb, off, c, e, fz, us, q1, h.sub kb q2, q3, h.rot hf q4, q5, q6⟩
 | .ro t xs len, y, v, hp, _, hv => by
  simp only [passC0] at hp;split at hp
  ·cases hp
  ·rename_i hf;obtain rfl := smI hp;exact h.rosl hf hv
 | .ifd T t d, y, v, hp, _, hv => by
  simp only [passC0] at hp;split at hp
  ·cases hp
  ·rename_i hf;obtain rfl := smI hp;obtain ⟨cs, rfl, hv⟩ := hv;exact ⟨cs, rfl, h.rot hf hv⟩
 | .ref _, y, v, hp, _, hv => by cases hp
 | .vptr _, y, v, hp, _, hv => by
  obtain rfl := smI hp; exact hv
 | .fn f cs, y, v, hp, _, hv => by
  simp only [passC0] at hp;split at hp
  ·rename_i r hr;obtain rfl := smI hp;obtain ⟨us, h1, h2⟩ := hv;exact ⟨us, h1, h.caps hr h2⟩
  ·cases hp
 | .ptr b i es o k n, y, v, hp, _, hv => by
  simp only [passC0] at hp;split at hp
  ·rename_i j hj;obtain rfl := smI hp;exact ⟨hv.1, h.relptr hj hv.2⟩
  ·cases hp
 | .sl b off len, y, v, hp, hs, hv => by
  simp only [passC0] at hp;split at hp
  ·rename_i j hj;obtain rfl := smI hp;have hj := place_some hj
   obtain ⟨blk, g1, g2, g3⟩ := h.get hj;obtain ⟨hs, hv⟩ := hv;refine ⟨hs, ?_⟩
   unfold RelSl at hv ⊢;have hβ := PassOk.beta (E := E) (hl := hl) (Rl := Rl) hj
   show (match getB hl j with | .arr t xs _ _ => _ | .frz t xs => _ | .gone => _ | _ => _)
   rw [<- g3] at hv;cases hb : look b with
   | vals fs => rw [hb] at hv; exact hv.elim
   | arr t xs lo par =>
    rw [hb] at hv g1;cases par with
    | nil =>
     rw [(passB_arr g1).2] at g2;rw [g2];obtain ⟨a, cap, q1, q2, q3, q4, q5⟩ := hv;refine ⟨a, cap, q1, q2, q3, q4, ?_⟩
     rw [hβ]; exact q5
    | cons _ _ => cases g1
   | frz t xs => rw [hb] at g1; cases g1
   | gone => rw [hb] at g1; cases g1
   | dead => rw [hb] at hv; exact hv.elim
  ·rename_i hno;have hsh : b ∈ shown := hs b (by
    simp only [shownC0];rw [if_neg (by rw [seen_iff]; exact place_none hno)]
    simp)
   split at hp
   ·rename_i t xs lo par hb;split at hp
    ·cases hp
    ·rename_i hf;obtain rfl := smI hp;exact h.showSl hf (h.lookSl hv (.inl ⟨lo, par, hb⟩)) hsh hv
   ·rename_i t xs hb;split at hp
    ·cases hp
    ·rename_i hf;obtain rfl := smI hp;exact h.showSl hf (h.lookSl hv (.inr hb)) hsh hv
   ·cases hp
 | .sla b o n off len, y, v, hp, hs, hv => by
  simp only [passC0] at hp;split at hp
  ·rename_i j hj;obtain rfl := smI hp;have hj := place_some hj
   obtain ⟨blk, g1, g2, g3⟩ := h.get hj;obtain ⟨hs, hv⟩ := hv;refine ⟨hs, ?_⟩
   unfold RelSla at hv ⊢;have hβ := PassOk.beta (E := E) (hl := hl) (Rl := Rl) hj
   show (match getB hl j with | .vals _ => _ | .gone => _ | _ => _)
   rw [<- g3] at hv;cases hb : look b with
   | vals fs =>
    rw [hb] at hv g1;simp only [passB] at g1;split at g1
    ·obtain rfl := smI g1;rw [g2];obtain ⟨a, cap, q1, q2, q3, q4, q5⟩ := hv;exact ⟨a, cap, q1, q2, q3, q4, by rw [hβ]; exact q5⟩
    ·cases g1
   | arr t xs lo par => rw [hb] at hv; exact hv.elim
   | frz t xs => rw [hb] at g1; cases g1
   | gone => rw [hb] at g1; cases g1
   | dead => rw [hb] at hv; exact hv.elim
  ·rename_i hno;have hsh : b ∈ shown := hs b (by
    simp only [shownC0];rw [if_neg (by rw [seen_iff]; exact place_none hno)]
    simp)
   split at hp
   ·rename_i fs hb;split at hp
    ·rename_i kd m xs hw;split at hp
     ·rename_i hm;obtain rfl := smI hp;have hbE : getB E.H b = .vals fs := by
       rcases h.hlook b with h1 | h1 | ⟨t', xs', lo', par', h1, h2⟩
       ·rw [h1] at hb; cases hb
       ·rw [<- h1]; exact hb
       ·rw [h1] at hb; cases hb
      obtain ⟨_, hv⟩ := hv;unfold RelSla at hv;rw [hbE] at hv;obtain ⟨a, cap, rfl, q1, q2, q3, q4⟩ := hv;obtain ⟨k', c, e, fz, g1, g2, g3, g4⟩ := h.hE.vals hbE;obtain ⟨r1, r2, r3, r4⟩ := wsAt_rel hw g4;rw [Array.length_toList] at r4;subst hm;refine ⟨a, cap, rfl, by show len <= List.length (List.drop off xs); rw [List.length_drop]; omega, by show List.length (List.drop off xs) <= cap; rw [List.length_drop]; omega, q2, by show 0 < 1; omega, fun hne => ?_⟩
      have hpos : 0 < List.length (List.drop off xs) := List.length_pos_iff.2 hne
      rw [List.length_drop] at hpos;rcases q4 with q4 | ⟨k, q4, rfl⟩
      ·omega
      rw [q4] at g1; obtain rfl := smI g1;refine ⟨k, o + off, c, e, fz, rfl, h.hshown b hsh k q4, g2, fun i hi => ?_⟩
      have hi' : i < List.length (List.drop off xs) := hi
      rw [List.length_drop] at hi';have hgi : ∀ (hq : i < List.length (α := Int) (xs.drop off)), ((xs.drop off)[i]'hq) = xs[off + i] := fun hq => by rw [List.getElem_drop]
      have hgi := hgi hi
      refine ⟨[.int kd xs[off + i]], ⟨congrArg (fun z => [Value.int kd z]) hgi.symm, ?_⟩, rfl, fun j hj => ?_⟩
      ·show InK kd ((xs.drop off)[i]'hi)
       rw [hgi]; exact r2 _ (List.getElem_mem _)
      ·have hj : j = 0 := by have : j < 1 := hj; omega
       subst hj;have hr : (c.toList.drop o).take xs.length = xs.map (Value.int kd) := by rw [<- r3, r1]
       have hq : ((c.toList.drop o).take xs.length)[off + i]? = some (.int kd xs[off + i]) := by
        rw [hr, List.getElem?_map, List.getElem?_eq_getElem (by omega)]; rfl
       rw [List.getElem?_take, if_pos (by omega), List.getElem?_drop, Array.getElem?_toList] at hq
       show c[o + off + (i * 1 + 0)]? = _
       rw [show o + off + (i * 1 + 0) = o + (off + i) from by omega, hq]; rfl
     ·cases hp
    ·cases hp
   ·cases hp
 | .ifc t x, y, v, hp, hs, hv => by
  obtain ⟨u, rfl, hv⟩ := hv;cases x with
  | ptr b i es o k n =>
   simp only [passC0] at hp;split at hp
   ·rename_i j hj;obtain rfl := smI hp;exact ⟨u, rfl, PassOk.cell0 (x := .ptr b i es o k n) (by simp only [passC0]; rw [hj]) (fun b hb => by simp [shownC0] at hb) hv⟩
   ·cases hp
  | _ =>
   simp only [passC0] at hp;split at hp
   ·rename_i hr;obtain rfl := smI hp;exact ⟨u, rfl, h.noRefs hr hv⟩
   ·cases hp
theorem PassOk.view : ∀ {fs : List FCell} {ds : List (List Int × Nat)} {vs : List Value}, viewL look ids fs = some ds -> (∀ b ∈ shownN ids fs, b ∈ shown) -> RelFs E fs vs ->
  ds.length = fs.length /\ ∀ i (hi : i < ds.length), ∃ v, vs[i]? = some v /\ RoT (callee E ids hl Rl) (.sl (.int .u8)) ds[i] [v]
 | [], ds, vs, hv, _, _ => by
  obtain rfl := smI hv;exact ⟨rfl, fun i hi => by cases hi⟩
 | .ws .. :: fs, ds, vs, hv, _, _ => by simp [viewL] at hv
 | .c x :: fs, ds, vs, hv, hs, hr => by
  simp only [viewL] at hv;split at hv
  ·rename_i d r h1 h2;obtain rfl := smI hv;obtain ⟨v1, v2, rfl, ⟨v, rfl, q1⟩, q2⟩ := hr;obtain ⟨g1, g2⟩ := PassOk.view h2 (fun b hb => hs b (List.mem_append_right _ hb)) q2
   have hx : RoSl (callee E ids hl Rl) 1 (RoT (callee E ids hl Rl) (.int .u8)) d.1 d.2 v := by
    unfold viewC at h1;split at h1
    ·rename_i xs len hp;obtain rfl := smI h1;exact h.cell0 hp (fun b hb => hs b (List.mem_append_left _ hb)) q1
    ·rename_i hp;obtain rfl := smI h1;obtain rfl : v = .slice none 0 0 := h.cell0 hp (fun b hb => hs b (List.mem_append_left _ hb)) q1
     exact ⟨none, 0, rfl, Nat.le_refl _, Nat.le_refl _, by omega, by omega, fun hne => (hne rfl).elim⟩
    ·cases h1
   refine ⟨by simp [g1], fun i hi => ?_⟩
   cases i with
   | zero => exact ⟨v, rfl, v, rfl, hx⟩
   | succ i =>
    obtain ⟨w, e1, e2⟩ := g2 i (by simpa using hi)
    exact ⟨w, by simpa using e1, e2⟩
  ·cases hv
theorem PassOk.cell {x y : Cell} {v : Value} (hp : passC look ids x = some y) (hs : ∀ b ∈ shownC look ids x, b ∈ shown) (hv : RelC E x v) : RelC (callee E ids hl Rl) y v := by
 unfold passC at hp;split at hp
 ·rename_i b o n off len;have hs0 : ∀ q ∈ shownC0 ids (.sla b o n off len), q ∈ shown := fun q hq => hs q (List.mem_append_left _ hq)
  split at hp
  ·rename_i fs hpl hb;split at hp
   ·exact h.cell0 hp hs0 hv
   ·rename_i hw;split at hp
    ·rename_i hc;obtain ⟨rfl, rfl, rfl, rfl⟩ := hc;split at hp
     ·rename_i ds hds;obtain rfl := smI hp;have hsn : ∀ q ∈ shownN ids fs, q ∈ shown := fun q hq => hs q (List.mem_append_right _ (by rw [hpl, hb]; simp only [hw]; exact hq))
      have hbs : b ∈ shown := hs0 b (by
       simp only [shownC0];rw [if_neg (by rw [seen_iff]; exact place_none hpl)]
       simp)
      have hbE : getB E.H b = .vals fs := by
       rcases h.hlook b with h1 | h1 | ⟨t', xs', lo', par', h1, h2⟩
       ·rw [h1] at hb; cases hb
       ·rw [<- h1]; exact hb
       ·rw [h1] at hb; cases hb
      obtain ⟨_, hv⟩ := hv;unfold RelSla at hv;rw [hbE] at hv;obtain ⟨a, cap, rfl, q1, q2, q3, q4⟩ := hv;obtain ⟨k', c, e, fz, g1, g2, g3, g4⟩ := h.hE.vals hbE;obtain ⟨r1, r2⟩ := h.view hds hsn g4;refine ⟨a, cap, rfl, by show _ <= List.length (α := List Int × Nat) ds; omega, by show List.length (α := List Int × Nat) ds <= cap; omega, q2, by show 0 < 1; omega, fun hne => ?_⟩
      have hpos : 0 < List.length (α := List Int × Nat) ds := List.length_pos_iff.2 hne
      rcases q4 with q4 | ⟨k, q4, rfl⟩
      ·omega
      rw [q4] at g1; obtain rfl := smI g1;refine ⟨k, 0, c, e, fz, rfl, h.hshown b hbs k q4, g2, fun i hi => ?_⟩
      obtain ⟨w, e1, e2⟩ := r2 i hi;refine ⟨[w], e2, rfl, fun j hj => ?_⟩
      have hj : j = 0 := by have : j < 1 := hj; omega
      subst hj;rw [Array.getElem?_toList] at e1
      show c[0 + (i * 1 + 0)]? = _
      rw [show 0 + (i * 1 + 0) = i from by omega, e1]; rfl
     ·cases hp
    ·cases hp
  ·exact h.cell0 hp hs0 hv
 ·rename_i hx;refine h.cell0 hp (fun q hq => hs q ?_) hv
  unfold shownC;split
  ·rename_i b o n off len;exact (hx b o n off len rfl).elim
  ·exact hq
end pass
end Go.SX
