/-
  SX, part 24: whole bodies.
-/
import Derived.Test.YticfnbhbpcpgeaaDoorSx23
import Derived.Laws.Sem
namespace Go.SX
open Go
variable {P : Program} {G : GlobT} {E : Env} {S : Tab} {F : Act → World → Prop}

/-- what there is to do is done, and left in F -/
inductive Left (b : Frame) (k : List Item) (cs : List Frame) (a : Act) : Goroutine → Prop
  | on : Left b k cs a (Conc.G (b.at a k) cs)
  | ret (todo : List Item) : Left b k cs a (Conc.G { b.at a todo with mode := .returning } cs)
/-- the machine goes on with what there is to do, and comes to an end in F -/
def ItemsWp (P : Program) (F : Act → World → Prop) (is : List Item) (a : Act) (w : World) : Prop :=
  ∀ (main : Bool) (Stop : Goroutine → World → Prop) (b : Frame) (k : List Item) (cs : List Frame), b.kind = .normal → (∀ g a' w', Left b k cs a' g → F a' w' → Way P main Stop g w') → Way P main Stop (Conc.G (b.at a (is ++ k)) cs) w

theorem ItemsWp.mono {F' : Act → World → Prop} {is : List Item} {a : Act} {w : World} (h : ItemsWp P F is a w) (hf : ∀ a w, F a w → F' a w) : ItemsWp P F' is a w :=
  fun main Stop b k cs hb hk => h main Stop b k cs hb fun g a' w' hl q => hk g a' w' hl (hf _ _ q)

theorem ItemsWp.step {is js : List Item} {a : Act} {w : World} (hs : ∀ (main : Bool) (b : Frame) (k : List Item) (cs : List Frame) (w : World), stepG P main (Conc.G (b.at a (is ++ k)) cs) w = .go (Conc.G (b.at a (js ++ k)) cs) w) (h : ItemsWp P F js a w) : ItemsWp P F is a w :=
  fun main Stop b k cs hb hk => Way.ctl rfl (fun w => hs main b k cs w) (h main Stop b k cs hb hk)

theorem ItemsWp.nil {a : Act} {w : World} (h : F a w) : ItemsWp P F [] a w :=
  fun main Stop b k cs hb hk => hk _ a w .on h

theorem ItemsWp.ret {is : List Item} {a : Act} {w : World} (h : F a w) : ItemsWp P F (.code .ret :: is) a w :=
  fun main Stop b k cs hb hk => Way.ctl rfl (fun w => stepG_ret') (hk _ a w (.ret _) h)

theorem exitTo_append {id : Nat} : ∀ {is js k : List Item}, exitTo id is = some js → exitTo id (is ++ k) = some (js ++ k)
  | [], _, _, h => by cases h
  | x :: is, js, k, h => by
    cases x <;> simp only [exitTo, List.cons_append] at h ⊢ <;> try (exact exitTo_append h)
    split at h
    · rename_i hid; rw [if_pos hid]; rw [Option.some.inj h]
    · rename_i hid; rw [if_neg hid]; exact exitTo_append h

theorem evalO_rel {s : St} {a : Act} (hs : Rp G E s a) (x : Operand) : RelS E (evalO G s.t x) (a.eval x) := by
  have := evalK_rel (ks := []) (G := G) hs.h (a := a) (t := s.t) (fun p hp => by cases hp) x (fun u _ => relTs_get hs.t)
  cases x <;> exact this

theorem runK_sound (hsp : SpecOk P S) (hm : P.follows .mixedOrders = true) {un : Code → Bool} : ∀ (n : Nat) {is : List Item} {s : St} {out : Out} {E : Env} {a : Act}, (runK S P un n is s).val = some out → Rp S.gl E s a →
    (∀ E' a', Ext E E' → (match out with | .fin s' => Rp S.gl E' s' a' → F a' E'.w | .stop todo s' => Rp S.gl E' s' a' → ItemsWp P F todo a' E'.w)) → ItemsWp P F is a E.w
  | 0, is, s, out, E, a, h, hs, hout => by
    obtain rfl := val_ret h
    exact hout E a (Ext.refl E) hs
  | n + 1, [], s, out, E, a, h, hs, hout => by
    obtain rfl := val_ret h
    exact .nil (hout E a (Ext.refl E) hs)
  | n + 1, .inBlock id :: k, s, out, E, a, h, hs, hout => .step (fun _ _ _ _ _ => Conc.stepG_inBlock) (runK_sound hsp hm n h hs hout)
  | n + 1, .inLoop c :: k, s, out, E, a, h, hs, hout => by
    simp only [runK] at h
    split at h
    · exact .step (fun _ _ _ _ _ => Conc.stepG_inLoop) (runK_sound hsp hm n h hs hout)
    · obtain rfl := val_ret h
      exact .step (fun _ _ _ _ _ => Conc.stepG_inLoop) (hout E a (Ext.refl E) hs)
  | n + 1, .code c :: k, s, out, E, a, h, hs, hout => by
    cases c with
    | skip => exact .step (fun _ _ _ _ _ => Conc.stepG_skip) (runK_sound hsp hm n h hs hout)
    | label l => exact .step (fun _ _ _ _ _ => Conc.stepG_label) (runK_sound hsp hm n h hs hout)
    | seq x y => exact .step (fun _ _ _ _ _ => Conc.stepG_seq) (runK_sound hsp hm n h hs hout)
    | block id c => exact .step (fun _ _ _ _ _ => Conc.stepG_block) (runK_sound hsp hm n h hs hout)
    | loop c =>
      simp only [runK] at h
      split at h
      · exact .step (fun _ _ _ _ _ => Conc.stepG_loop) (runK_sound hsp hm n h hs hout)
      · obtain rfl := val_ret h
        exact .step (fun _ _ _ _ _ => Conc.stepG_loop) (hout E a (Ext.refl E) hs)
    | exit id =>
      simp only [runK] at h
      split at h
      · rename_i k' hk
        exact .step (fun _ _ _ _ _ => Conc.stepG_exit (exitTo_append hk)) (runK_sound hsp hm n h hs hout)
      · cases h
    | cond c x y =>
      simp only [runK] at h
      have he := evalO_rel hs c
      split at h
      · rename_i b hc
        rw [hc] at he
        have he : a.eval c = .bool b := he
        split at h
        · exact .step (fun _ _ _ _ _ => Conc.stepG_cond he) (runK_sound hsp hm n h hs hout)
        · exact .step (fun _ _ _ _ _ => Conc.stepG_cond he) (runK_sound hsp hm n h hs hout)
      · rename_i b hc
        rw [hc] at he
        have he : a.eval c = .bool b := he
        cases b with
        | true => exact .step (fun _ _ _ _ _ => Conc.stepG_cond he) (runK_sound hsp hm n (by simpa [Tree.val] using h) hs hout)
        | false => exact .step (fun _ _ _ _ _ => Conc.stepG_cond he) (runK_sound hsp hm n (by simpa [Tree.val] using h) hs hout)
      · cases h
    | region id ops draw =>
      simp only [runK] at h
      obtain ⟨s1, h1, h2⟩ := val_bind h
      intro main Stop b k' cs hb hk
      exact runRegion_sound (id := id) hsp hm hs h1 hb (fun E' a' x hs' => (runK_sound hsp hm n h2 hs' (fun E'' a'' x' => hout E'' a'' (x.trans x')) : ItemsWp P F k a' E'.w) main Stop b k' cs hb hk)
    | ret =>
      obtain rfl := val_ret h
      exact .ret (hout E a (Ext.refl E) hs)
    | _ => cases h
  | n + 1, .inRegion .. :: k, s, out, E, a, h, hs, hout => by cases h
  | n + 1, .inScope .. :: k, s, out, E, a, h, hs, hout => by cases h
end Go.SX
