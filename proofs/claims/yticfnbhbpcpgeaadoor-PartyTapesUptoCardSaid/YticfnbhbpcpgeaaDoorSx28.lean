/-
  SX, part 28: the row's answer: true, and all reads as before.
-/
import Derived.Test.YticfnbhbpcpgeaaDoorSx27
namespace Go.SX
open Go Go.RowKit Go.ChangeShapes Go.WideShapes

/-- the world that a call finds: nothing of its own, all that is there is only read -/
def envOf (w : World) : Env := { β := fun _ => none, H := [], w := w, R := fun k => k < w.heap.size }

theorem rep_envOf {G : GlobT} (hG : ∀ g, G g = none) (w : World) : RepH G (envOf w) where
  ro := fun k hk => ⟨hk, fun b hb => by cases hb⟩
  inj := fun b b' k hb => by cases hb
  blk := fun b => trivial
  glob := fun g t d h => by rw [hG] at h; cases h

theorem below_of_ext {w : World} {E' : Env} (x : Ext (envOf w) E') : Below w.heap.size w E'.w :=
  ⟨x.os, x.tape, x.output, x.size, fun k hk => x.keep k hk (fun b hb => by cases hb)⟩

def argV : (t : DTy) → t.den → V1
  | .int k, d => .c (.int false k d)
  | .bool, d => .c (.bool false d)
  | .str, d => .c (.str d)
  | .sl t, d => .c (.ro t d.1 d.2)
  | .ws k n, d => .g [.ws k n d]
  | .unit, _ => .g []
  | .pair a b, d => .g (toF (.pair a b) d)
  | .ref, d => .c (.ref d)

section
variable {H : Type} {enc : TypeId × Value → H} {P : Program} {w : World} {sp : Nat → Bool} {held : Bool}

theorem arg_struct {E : Env} {g : TypeId → DTy → Bool} {fs : List Field} {t : DTy} {x : t.den} {cs : Array Value} (hf : fieldsFit P g fs t 0 = true) (hr : RelFs E (toF t x) cs.toList) : RelV E (argV t x) (.agg cs) := by
  cases t with
  | int k => cases fs <;> simp [fieldsFit] at hf
  | bool => cases fs <;> simp [fieldsFit] at hf
  | str => cases fs <;> simp [fieldsFit] at hf
  | ws k n => cases fs <;> simp [fieldsFit] at hf
  | sl t => cases fs <;> simp [fieldsFit] at hf
  | ref => cases fs <;> simp [fieldsFit] at hf
  | unit => exact ⟨cs, rfl, hr⟩
  | pair a b => exact ⟨cs, rfl, hr⟩
theorem arg_of (bk : Bulk H) {n : Nat} {T : TypeId} {t : DTy} (hf : fits P n T t = true) {r : Reach} {b0 : Nat} {v : Value} {d : DataW H} {ps : List MemPlace}
    (hv : Value.okWide P w r b0 T v) (hd : DataW.Trod enc P w 0 sp held T v d ps) : ∃ x : t.den, RelV (envOf w) (argV t x) v ∧ t.exact x ∧ t.wt x ≤ bk.B d := by
  obtain ⟨fuel, hx⟩ := hd
  obtain ⟨x, h1, h2, h3⟩ := rot_of (E := envOf w) rfl (fun k hk => hk) bk n T t hf fuel _ _ hx
  refine ⟨x, ?_, h2, h3⟩
  cases n with
  | zero => simp [fits] at hf
  | succ n =>
    unfold fits at hf
    split at hf
    · rename_i k k' ht
      obtain rfl : k = k' := by simpa using hf
      obtain ⟨z, rfl⟩ := okWide_int ht hv
      obtain ⟨e1, e2⟩ := h1
      have e1 : [Value.int k z] = [Value.int k x] := e1
      exact ⟨(List.cons.inj e1).1, e2⟩
    · rename_i ht
      obtain ⟨z, rfl⟩ := okWide_bool ht hv
      have e1 : [Value.bool z] = [Value.bool x] := h1
      exact (List.cons.inj e1).1
    · rename_i ht
      obtain ⟨z, rfl⟩ := okWide_string ht hv
      have e1 : [Value.string z] = [Value.string x] := h1
      exact (List.cons.inj e1).1
    · rename_i m e k m' ht
      simp only [Value.okWide, ht] at hv
      obtain ⟨cs, rfl, _⟩ := hv
      exact ⟨cs, rfl, toF_rel _ _ _ h1⟩
    · rename_i e t ht
      obtain ⟨a, l, c, rfl⟩ := okWide_slice ht hv
      obtain ⟨v', e1, e2⟩ := h1
      have e1 : [Value.slice a l c] = [v'] := e1
      rw [← (List.cons.inj e1).1] at e2
      exact e2
    · rename_i _ _ fs ht
      obtain ⟨cs, rfl, _⟩ := okWide_struct ht hv
      simp only [Bool.and_eq_true, beq_iff_eq] at hf
      have hr := toF_rel _ _ _ h1
      exact arg_struct hf.1 hr
    · cases hf

theorem trodAll_stays (hl : laidOutB P = true) {W W' : World} {sp' : Nat → Bool} (hsame : Below W.heap.size W W') : ∀ {ts : List TypeId} {vs : List Value} {ds : List (DataW H)} {ps : List MemPlace},
    (∀ t ∈ ts, P.readableRec t = true ∧ t < P.types.size) → DataW.TrodAll enc P W 0 (fun _ => true) true ts vs ds ps → (∀ p ∈ ps, p.block < W.heap.size) → (∀ p ∈ ps, sp' p.block = true) → DataW.TrodAll enc P W' 0 sp' true ts vs ds ps
  | [], vs, ds, ps, _, h, _, _ => by
    obtain ⟨rfl, rfl, rfl⟩ := trodAll_nil h
    rfl
  | t :: ts, vs, ds, ps, ht, h, hlt, hsp => by
    obtain ⟨v, vs', d, ds', p, q, rfl, rfl, rfl, h1, h2⟩ := trodAll_cons h
    obtain ⟨hr, hrow⟩ := ht t List.mem_cons_self
    refine ⟨p, q, WideElems.Trod_stays hl hr hrow h1 (fun x hx => hsame.same (hlt x (List.mem_append_left _ hx))) (fun x hx => hsp x (List.mem_append_left _ hx)), ?_, rfl⟩
    exact trodAll_stays hl hsame (fun u hu => ht u (List.mem_cons_of_mem _ hu)) h2 (fun x hx => hlt x (List.mem_append_right _ hx)) (fun x hx => hsp x (List.mem_append_right _ hx))

theorem post_true {f : Func} {s : ChangeSpec} {W W' : World} {args : Array Value} {ds : List (DataW H)} {before : List MemPlace} {tb : TypeId}
    (hW : DataW.Whole enc P f.params.toList s.vars false W args.toList ds [] before) (hvars : s.vars = []) (hs : s.fn H (ds ++ []) = { results := [.lit (.bool true)], args := ds })
    (hrt : f.resultTypes = #[tb]) (htb : P.underlying tb = some .bool) (hl : laidOutB P = true) (hrr : ∀ t ∈ f.params.toList, P.readableRec t = true ∧ t < P.types.size) (hb : Below W.heap.size W W') :
    s.post enc P f false true false false W args (.bool true) W' := by
  have hlt := hW.lt
  have hW' := hW
  obtain ⟨p, q, hA, hV, rfl, _, _⟩ := hW
  rw [hvars] at hV
  obtain ⟨_, rfl⟩ := trodVars_none hV
  rw [List.append_nil] at hW' hlt
  refine ⟨ds, [], p, [], p, [], hW', ?_, ?_, ?_, ?_, fun h => by cases h⟩
  · rw [hs, hrt]
    exact trodAll_mk1 (shut_bool htb true)
  · rw [hs]
    exact trodAll_stays hl hb hrr hA hlt (fun x hx => by simpa using hlt x hx)
  · rw [hs, hvars]
    rfl
  · exact World.keptBut_mono (fun x hx => ⟨hx, Or.inr (Or.inl hx)⟩) (hb.frame (· ∈ p))
end

section
variable {P : Program} {S : Tab}
/-- a body's answer: the function returns it -/
theorem Runs.calls {f : FuncId} {fn : Func} {c : Code} {vs : List V1} {hl hl' : Heap} {v : SV} (hf : P.funcs[f]? = some fn) (hb : fn.body = some c) (hn : (fn.name == "runtime.NumGoroutine") = false)
    (h : Runs P S fn hl.length [.code c] ⟨enterT fn vs, hl⟩ v hl') (E : Env) (us : Array Value) (hE : E.H = hl) (hr : RepH S.gl E) (hv : RelVs E vs us.toList) :
    Calls P f us E.w fun e w' => ∃ u, e = .returned u ∧ ∃ β' R', RepH S.gl ⟨β', hl', w', R'⟩ ∧ Ext E ⟨β', hl', w', R'⟩ ∧ RelS ⟨β', hl', w', R'⟩ v u := by
  rcases Runs.spec hf hb hn h E us hE hr hv with q | ⟨v, w', q, _⟩
  · exact q.2.calls
  · exfalso
    have hn' : ¬ fn.name = "runtime.NumGoroutine" := by simpa using hn
    simp [callFunc, hf, hn', hb] at q

/-- a law's function returns true, and what was there stays -/
theorem Runs.yes {f : FuncId} {fn : Func} {c : Code} {vs : List V1} {l : Bool} {hl' : Heap} (hf : P.funcs[f]? = some fn) (hb : fn.body = some c) (hn : (fn.name == "runtime.NumGoroutine") = false) (hG : ∀ g, S.gl g = none)
    (h : Runs P S fn 0 [.code c] ⟨enterT fn vs, []⟩ (.one (.c (.bool l true))) hl') (W : World) (us : Array Value) (hv : RelVs (envOf W) vs us.toList) :
    Calls P f us W fun e w' => e = .returned (.bool true) ∧ Below W.heap.size W w' := by
  refine (Runs.calls (hl := []) hf hb hn h (envOf W) us rfl (rep_envOf hG W) hv).mono fun e w' he => ?_
  obtain ⟨u, rfl, β', R', _, x, hu⟩ := he
  obtain rfl : u = .bool true := hu
  exact ⟨rfl, below_of_ext x⟩
end
end Go.SX
