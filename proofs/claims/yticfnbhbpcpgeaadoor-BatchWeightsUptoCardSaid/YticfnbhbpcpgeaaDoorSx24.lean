/-
  SX, part 24: whole bodies.
-/
import Derived.Test.YticfnbhbpcpgeaaDoorSx23
import Derived.Laws.Sem
namespace Go.SX
open Go
variable {P : Program} {G : GlobT} {E : Env} {S : Tab} {F : Act → World → Prop}

/-- the machine goes on with what there is to do, and comes to an end in F -/
def ItemsWp (P : Program) (F : Act → World → Prop) (is : List Item) (a : Act) (w : World) : Prop :=
  ∀ (b : Frame) (k : List Item) (cs : List Frame), ∃ e a' w', (e = .normal ∨ e = .ret) ∧ F a' w' ∧ Arrives P (lone (b.at a (is ++ k)) cs w) b k cs e a' w'

theorem ItemsWp.mono {F' : Act → World → Prop} {is : List Item} {a : Act} {w : World} (h : ItemsWp P F is a w) (hf : ∀ a w, F a w → F' a w) : ItemsWp P F' is a w :=
  fun b k cs => let ⟨e, a', w', h1, h2, h3⟩ := h b k cs; ⟨e, a', w', h1, hf _ _ h2, h3⟩

theorem ItemsWp.step {is js : List Item} {a a' : Act} {w w' : World} (hs : ∀ (b : Frame) (k : List Item) (cs : List Frame), Steps P (lone (b.at a (is ++ k)) cs w) (lone (b.at a' (js ++ k)) cs w')) (h : ItemsWp P F js a' w') : ItemsWp P F is a w :=
  fun b k cs => let ⟨e, a', w', h1, h2, h3⟩ := h b k cs; ⟨e, a', w', h1, h2, .of_steps (hs b k cs) h3⟩

theorem ItemsWp.nil {a : Act} {w : World} (h : F a w) : ItemsWp P F [] a w :=
  fun b k cs => ⟨.normal, a, w, .inl rfl, h, Steps.refl _ _⟩

theorem ItemsWp.ret {is : List Item} {a : Act} {w : World} (h : F a w) : ItemsWp P F (.code .ret :: is) a w :=
  fun b k cs => ⟨.ret, a, w, .inr rfl, h, _, .one step_ret⟩

theorem exitTo_append {id : Nat} : ∀ {is js k : List Item}, exitTo id is = some js → exitTo id (is ++ k) = some (js ++ k)
  | [], _, _, h => by cases h
  | x :: is, js, k, h => by
    cases x <;> simp only [exitTo, List.cons_append] at h ⊢ <;> try (exact exitTo_append h)
    split at h
    · rename_i hid; rw [if_pos hid]; rw [Option.some.inj h]
    · rename_i hid; rw [if_neg hid]; exact exitTo_append h

theorem evalO_rel {s : St} {a : Act} (hs : Rp G E s a) (x : Operand) : RelS E (evalO G s.t x) (a.eval x) := by
  have := evalK_rel (ks := []) (G := G) hs.h (a := a) (t := s.t) (fun p hp => by cases hp) x (fun u _ => relTs_get hs.t)
  cases x <;> exact this

theorem runK_sound (hsp : SpecOk P S) (hm : P.follows .mixedOrders = true) {un : Code → Bool} : ∀ (n : Nat) {is : List Item} {s : St} {out : Out} {E : Env} {a : Act}, (runK S P un n is s).val = some out → Rp S.gl E s a →
    (∀ E' a', Ext E E' → (match out with | .fin s' => Rp S.gl E' s' a' → F a' E'.w | .stop todo s' => Rp S.gl E' s' a' → ItemsWp P F todo a' E'.w)) → ItemsWp P F is a E.w
  | 0, is, s, out, E, a, h, hs, hout => by
    obtain rfl := val_ret h
    exact hout E a (Ext.refl E) hs
  | n + 1, [], s, out, E, a, h, hs, hout => by
    obtain rfl := val_ret h
    exact .nil (hout E a (Ext.refl E) hs)
  | n + 1, .inBlock id :: k, s, out, E, a, h, hs, hout => .step (fun _ _ _ => .one step_inBlock) (runK_sound hsp hm n h hs hout)
  | n + 1, .inLoop c :: k, s, out, E, a, h, hs, hout => by
    simp only [runK] at h
    split at h
    · exact .step (fun _ _ _ => .one step_inLoop) (runK_sound hsp hm n h hs hout)
    · obtain rfl := val_ret h
      exact .step (fun _ _ _ => .one step_inLoop) (hout E a (Ext.refl E) hs)
  | n + 1, .code c :: k, s, out, E, a, h, hs, hout => by
    cases c with
    | skip => exact .step (fun _ _ _ => .one step_skip) (runK_sound hsp hm n h hs hout)
    | label l => exact .step (fun _ _ _ => .one step_label) (runK_sound hsp hm n h hs hout)
    | seq x y => exact .step (fun _ _ _ => .one step_seq) (runK_sound hsp hm n h hs hout)
    | block id c => exact .step (fun _ _ _ => .one step_block) (runK_sound hsp hm n h hs hout)
    | loop c =>
      simp only [runK] at h
      split at h
      · exact .step (fun _ _ _ => .one step_loop) (runK_sound hsp hm n h hs hout)
      · obtain rfl := val_ret h
        exact .step (fun _ _ _ => .one step_loop) (hout E a (Ext.refl E) hs)
    | exit id =>
      simp only [runK] at h
      split at h
      · rename_i k' hk
        exact .step (fun b q cs => .one (step_exit (exitTo_append hk))) (runK_sound hsp hm n h hs hout)
      · cases h
    | cond c x y =>
      simp only [runK] at h
      have he := evalO_rel hs c
      split at h
      · rename_i b hc
        rw [hc] at he
        have he : a.eval c = .bool b := he
        split at h
        · exact .step (fun _ _ _ => .one (step_cond he)) (runK_sound hsp hm n h hs hout)
        · exact .step (fun _ _ _ => .one (step_cond he)) (runK_sound hsp hm n h hs hout)
      · rename_i b hc
        rw [hc] at he
        have he : a.eval c = .bool b := he
        cases b with
        | true => exact .step (fun _ _ _ => .one (step_cond he)) (runK_sound hsp hm n (by simpa [Tree.val] using h) hs hout)
        | false => exact .step (fun _ _ _ => .one (step_cond he)) (runK_sound hsp hm n (by simpa [Tree.val] using h) hs hout)
      · cases h
    | region id ops draw =>
      simp only [runK] at h
      obtain ⟨s1, h1, h2⟩ := val_bind h
      intro b k' cs
      have := runRegion_sound (Q := fun e a' w' => e = .normal ∧ ItemsWp P F k a' w') (id := id) hsp hm hs h1 (fun E' a' x hs' => ⟨rfl, runK_sound hsp hm n h2 hs' (fun E'' a'' x' => hout E'' a'' (x.trans x'))⟩)
      obtain ⟨e, a', w', ⟨rfl, hq⟩, harr⟩ := this b (k ++ k') cs
      obtain ⟨e', a'', w'', g1, g2, g3⟩ := hq b k' cs
      exact ⟨e', a'', w'', g1, g2, .of_steps harr g3⟩
    | ret =>
      obtain rfl := val_ret h
      exact .ret (hout E a (Ext.refl E) hs)
    | _ => cases h
  | n + 1, .inRegion .. :: k, s, out, E, a, h, hs, hout => by cases h
  | n + 1, .inScope .. :: k, s, out, E, a, h, hs, hout => by cases h
end Go.SX
