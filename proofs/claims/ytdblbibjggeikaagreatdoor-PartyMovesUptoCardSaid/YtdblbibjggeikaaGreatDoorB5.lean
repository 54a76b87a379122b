/- SX, part 26: bodies in pieces; forms of arguments. -/
import Derived.Test.YtdblbibjggeikaaGreatDoorB4
import Derived.KernelRfl
import Derived.Carry
import Derived.OpenShut
import Derived.RowKit
import Derived.Laws.Externs
set_option linter.unusedSectionVars false
set_option linter.unusedVariables false
set_option linter.unusedSimpArgs false
namespace Go.SX
open Go
variable {P : Program} {G : GlobT} {E : Env} {S : Tab} [Level]
def Tree.path {α : Type} : Tree α -> List Bool -> Option (List Bool × α)
 | .ret a, [] => some ([], a)
 | .br b t e, c :: cs => match (match c with | true => path t cs | false => path e cs) with
  | some (bs, a) => some (b :: bs, a)
  | none => none
 | _, _ => none
theorem Tree.path_val {α : Type} : ∀ {t : Tree α} {cs : List Bool} {a : α}, t.path cs = some (cs, a) -> t.val = some a
 | .ret a, [], b, h => by simp [Tree.path] at h; rw [h]; rfl
 | .ret a, c :: cs, b, h => by simp [Tree.path] at h
 | .fail, cs, b, h => by cases cs <;> simp [Tree.path] at h
 | .br x t e, [], b, h => by simp [Tree.path] at h
 | .br x t e, c :: cs, b, h => by
  cases c with
  | true =>
   simp only [Tree.path] at h;split at h
   ·rename_i bs a hp;simp only [Option.some.injEq, Prod.mk.injEq, List.cons.injEq] at h;obtain ⟨⟨rfl, rfl⟩, rfl⟩ := h
    show t.val = _
    exact Tree.path_val hp
   ·cases h
  | false =>
   simp only [Tree.path] at h;split at h
   ·rename_i bs a hp;simp only [Option.some.injEq, Prod.mk.injEq, List.cons.injEq] at h;obtain ⟨⟨rfl, rfl⟩, rfl⟩ := h
    show e.val = _
    exact Tree.path_val hp
   ·cases h
def unlC : Cell -> Cell
 | .int _ k n => .int false k n
 | .bool _ b => .bool false b
 | x => x
def unlS : SV -> SV
 | .one (.c x) => .one (.c (unlC x))
 | x => x
def unlT (l : List Nat) : Nat -> List SV -> List SV
 | _, [] => []
 | i, v :: vs => (match seen i l with | true => unlS v | false => v) :: unlT l (i + 1) vs
def St.unlit (l : List Nat) (s : St) : St := { t := unlT l 0 s.t, h := s.h }
theorem unlC_rel {x : Cell} {v : Value} (h : RelC E x v) : RelC E (unlC x) v := by cases x <;> exact h
theorem unlS_rel {x : SV} {v : Value} (h : RelS E x v) : RelS E (unlS x) v := by
 unfold unlS;split
 ·exact unlC_rel h
 ·exact h
theorem unlT_rel {l : List Nat} : ∀ {i : Nat} {t : List SV} {us : List Value}, RelTs E t us -> RelTs E (unlT l i t) us
 | _, [], _, h => h
 | i, v :: vs, _, h => by
  obtain ⟨u, us, rfl, h1, h2⟩ := h;refine ⟨u, us, rfl, ?_, unlT_rel h2⟩
  split
  ·exact unlS_rel h1
  ·exact h1
theorem Runs.unlit {fn : Func} {m : Nat} {is : List Item} {s : St} {v : SV} {hl : Heap} (l : List Nat) (h : Runs P S fn m is (s.unlit l) v hl) : Runs P S fn m is s v hl :=
 fun E0 E a x hm hs => h E0 E a x hm ⟨hs.h, hs.eq, unlT_rel hs.t, hs.d⟩
def pieceT (keep unl ids : List Nat) (cs : List Bool) (t : Tree Out) : Option (List Bool × List Item × St) :=
 match t.path cs with
 | some (bs, .stop k s) => some (bs, k, (s.cut keep ids).unlit unl)
 | _ => none
def endT (P : Program) (fn : Func) (ids : List Nat) (cs : List Bool) (t : Tree Out) : Option (List Bool × SV × Heap) :=
 match t.path cs with
 | some (bs, .fin s) => match finR P fn ids s with
  | some (v, hl) => some (bs, v, hl)
  | none => none
 | _ => none
def leftT (cs : List Bool) (t : Tree Out) : List Item :=
 match t.path cs with
 | some (_, .stop k _) => k
 | _ => []
theorem Runs.piece (hsp : SpecOk P S) (hmx : P.follows .mixedOrders = true) {un : Code -> Bool} {n m : Nat} {fn : Func} {is k : List Item} {s s' : St} {v : SV} {hl : Heap} {cs bs : List Bool} {keep unl ids : List Nat}
  (h : pieceT keep unl ids cs (runK S P un n is s) = some (bs, k, s')) (hb : bs = cs) (hids : idsOk m ids = true) (hr : Runs P S fn m k s' v hl) : Runs P S fn m is s v hl := by
 unfold pieceT at h;split at h
 ·rename_i bs' k' s1 hp;simp only [Option.some.injEq, Prod.mk.injEq] at h;obtain ⟨rfl, rfl, rfl⟩ := h;subst hb;exact Runs.run hsp hmx (Tree.path_val hp) (Runs.cut keep ids hids (Runs.unlit unl hr))
 ·cases h
theorem Runs.last (hsp : SpecOk P S) (hmx : P.follows .mixedOrders = true) {un : Code -> Bool} {n m : Nat} {fn : Func} {is : List Item} {s : St} {v : SV} {hl : Heap} {cs bs : List Bool} {ids : List Nat}
  (h : endT P fn ids cs (runK S P un n is s) = some (bs, v, hl)) (hb : bs = cs) (hids : idsOk m ids = true) : Runs P S fn m is s v hl := by
 unfold endT at h;split at h
 ·rename_i bs' s1 hp;split at h
  ·rename_i v' hl' hf;simp only [Option.some.injEq, Prod.mk.injEq] at h;obtain ⟨rfl, rfl, rfl⟩ := h;subst hb;exact Runs.run hsp hmx (Tree.path_val hp) ⟨ids, hids, hf⟩
  ·cases h
 ·cases h
theorem EntryOk.of_runs {f : FuncId} {fn : Func} {c : Code} {T : List V1 → Heap → Tree (SV × Heap)} (hf : P.funcs[f]? = some fn) (hb : fn.body = some c) (hn : (fn.name == "runtime.NumGoroutine") = false)
  (h : ∀ vs hl r hl', (T vs hl).val = some (r, hl') -> Runs P S fn hl.length [.code c] ⟨enterT fn vs, hl⟩ r hl') : EntryOk P S.gl f T :=
 fun vs hl r hl' hr => Runs.spec hf hb hn (h vs hl r hl' hr)
theorem SpecOk.own {l : List Nat} (h : SpecOk P S) : SpecOk P (S.own l) := fun f vs hl r hl' hr E us => h f vs hl r hl' hr E us
def normV : Option DTy -> V1 -> V1
 | some t, .c .nils => .c (.ro t [] 0)
 | _, x => x
def sizesOk (ts : List (Option DTy)) : Bool := ts.all fun | some t => Nat.blt 0 t.size | none => true
theorem normV_rel {t : Option DTy} {v : V1} {u : Value} (ht : ∀ t', t = some t' -> 0 < t'.size) (h : RelV E v u) : RelV E (normV t v) u := by
 unfold normV;split
 ·rename_i t';obtain rfl : u = .slice none 0 0 := h;exact ⟨none, 0, rfl, Nat.le_refl _, Nat.le_refl _, by omega, ht _ rfl, fun h => (h rfl).elim⟩
 ·exact h
section
variable {main : Bool} {Stop : Goroutine -> World -> Prop} {b : Frame} {kk : List Item} {cs : List Frame}
theorem way_ctl {is js : List Item} {a : Act} {w : World} (h : ∀ (b : Frame) (w₁ : World), stepG P main (Conc.G (b.at a (is ++ kk)) cs) w₁ = .go (Conc.G (b.at a (js ++ kk)) cs) w₁) (hk : Way P main Stop (Conc.G (b.at a (js ++ kk)) cs) w) : Way P main Stop (Conc.G (b.at a (is ++ kk)) cs) w := Way.ctl rfl (h b) hk
theorem runK_way (hsp : SpecOk P S) (hm : P.follows .mixedOrders = true) (hb : b.kind ≠ .early) {un : Code -> Bool} {ds : List Deferred} : ∀ (n : Nat) {is : List Item} {s : St} {out : Out} {E : Env} {a : Act}, (runK S P un n is s).val = some out -> Rp S.gl E s a ds ->
  (∀ E' a', Ext E E' -> (match out with | .fin s' => Rp S.gl E' s' a' ds -> ∀ g, Left b kk cs a' g -> Way P main Stop g E'.w | .stop todo s' => Rp S.gl E' s' a' ds -> Way P main Stop (Conc.G (b.at a' (todo ++ kk)) cs) E'.w)) ->
  Way P main Stop (Conc.G (b.at a (is ++ kk)) cs) E.w := by
 intro n
 induction n with
 | zero =>
  intro is s out E a h hs hout;obtain rfl := val_ret h;exact hout E a (Ext.refl E) hs
 | succ n ih =>
  intro is s out E a h hs hout;cases is with
  | nil =>
   obtain rfl := val_ret h;exact hout E a (Ext.refl E) hs _ .on
  | cons i k =>
   cases i with
   | inBlock id => exact way_ctl (fun _ _ => Conc.stepG_inBlock) (ih h hs hout)
   | inLoop c =>
    simp only [runK] at h;split at h
    ·exact way_ctl (fun _ _ => Conc.stepG_inLoop) (ih h hs hout)
    ·obtain rfl := val_ret h;exact way_ctl (js := .code c :: .inLoop c :: k) (fun _ _ => Conc.stepG_inLoop) (hout E a (Ext.refl E) hs)
   | code c =>
    cases c with
    | skip => exact way_ctl (fun _ _ => Conc.stepG_skip) (ih h hs hout)
    | label l => exact way_ctl (fun _ _ => Conc.stepG_label) (ih h hs hout)
    | seq x y => exact way_ctl (js := .code x :: .code y :: k) (fun _ _ => Conc.stepG_seq) (ih h hs hout)
    | block id c => exact way_ctl (js := .code c :: .inBlock id :: k) (fun _ _ => Conc.stepG_block) (ih h hs hout)
    | loop c =>
     simp only [runK] at h;split at h
     ·exact way_ctl (js := .code c :: .inLoop c :: k) (fun _ _ => Conc.stepG_loop) (ih h hs hout)
     ·obtain rfl := val_ret h;exact way_ctl (js := .code c :: .inLoop c :: k) (fun _ _ => Conc.stepG_loop) (hout E a (Ext.refl E) hs)
    | exit id =>
     simp only [runK] at h;split at h
     ·rename_i k' hk;exact way_ctl (fun _ _ => Conc.stepG_exit (exitTo_append hk)) (ih h hs hout)
     ·cases h
    | cond c x y =>
     simp only [runK] at h;have he := evalO_rel hs c
     split at h
     ·rename_i b' hc;rw [hc] at he;have he : a.eval c = .bool b' := he
      split at h
      ·exact way_ctl (js := .code x :: k) (fun _ _ => Conc.stepG_cond he) (ih h hs hout)
      ·exact way_ctl (js := .code y :: k) (fun _ _ => Conc.stepG_cond he) (ih h hs hout)
     ·rename_i b' hc;rw [hc] at he;have he : a.eval c = .bool b' := he
      cases b' with
      | true => exact way_ctl (js := .code x :: k) (fun _ _ => Conc.stepG_cond he) (ih (by simpa [Tree.val] using h) hs hout)
      | false => exact way_ctl (js := .code y :: k) (fun _ _ => Conc.stepG_cond he) (ih (by simpa [Tree.val] using h) hs hout)
     ·cases h
    | region id ops draw =>
     simp only [runK] at h;obtain ⟨s1, h1, h2⟩ := val_bind h;exact runRegion_sound (id := id) hsp hm hs h1 hb (fun E' a' x hs' => ih h2 hs' (fun E'' a'' x' => hout E'' a'' (x.trans x')))
    | ret =>
     obtain rfl := val_ret h;exact Way.ctl rfl (fun _ => stepG_ret') (hout E a (Ext.refl E) hs _ (.ret _))
    | _ => cases h
   | _ => cases h
theorem way_piece (hsp : SpecOk P S) (hm : P.follows .mixedOrders = true) (hb : b.kind ≠ .early) {un : Code -> Bool} {ds : List Deferred} {n : Nat} {is k : List Item} {s s' : St} {a : Act} {cs0 bs : List Bool}
  (h : (runK S P un n is s).path cs0 = some (bs, .stop k s')) (he : bs = cs0) (hs : Rp S.gl E s a ds)
  (hk : ∀ E' a', Ext E E' -> Rp S.gl E' s' a' ds -> Way P main Stop (Conc.G (b.at a' (k ++ kk)) cs) E'.w) : Way P main Stop (Conc.G (b.at a (is ++ kk)) cs) E.w := by
 subst he;exact runK_way hsp hm hb n (Tree.path_val h) hs fun E' a' x hs' => hk E' a' x hs'
theorem way_hold (hsp : SpecOk P S) (hm : P.follows .mixedOrders = true) (hb : b.kind ≠ .early) {ops : Array Oper} {id : Nat} {draw : Bool} {ds : List Deferred} {s s' : St} {a : Act} {cs0 bs : List Bool} {k : List Item}
  (h : (runHold S P ops s).path cs0 = some (bs, s')) (he : bs = cs0) (hs : Rp S.gl E s a ds)
  (hk : ∀ E' a', Ext E E' -> Rp S.gl E' s' a' ds -> Way P main Stop (Conc.G (b.at a' (.inRegion ops [ops.size - 1] :: k)) cs) E'.w) : Way P main Stop (Conc.G (b.at a (.code (.region id ops draw) :: k)) cs) E.w := by
 subst he;exact runHold_sound hsp hm hs (Tree.path_val h) hb hk
end
end Go.SX
namespace Go.SX
open Go
def fieldsFit (P : Program) (g : TypeId -> DTy -> Bool) : List Field -> DTy -> Nat -> Bool
 | [], .unit, _ => true
 | f :: fs, .pair a b, o => f.offset == o && P.cellsOf f.type == a.size && g f.type a && fieldsFit P g fs b (o + a.size)
 | _, _, _ => false
def fits (P : Program) : Nat -> TypeId -> DTy -> Bool
 | 0, _, _ => false
 | n + 1, T, t => match P.underlying T, t with
  | some (.int k), .int k' => k == k'
  | some .bool, .bool => true
  | some .string, .str => true
  | some (.array m e), .ws k m' => (match P.underlying e with | some (.int k') => k == k' && m == m' && P.cellsOf e == 1 && P.cellsOf T == m | _ => false)
  | some (.slice e), .sl t => fits P n e t && t.size == P.cellsOf e && Nat.blt 0 t.size
  | some (.struct fs), t => fieldsFit P (fits P n) fs.toList t 0 && t.size == P.cellsOf T
  | _, _ => false
def DTy.exact : (t : DTy) -> t.den -> Prop
 | .sl t, d => d.2 = List.length d.1 /\ ∀ x ∈ d.1, t.exact x
 | .pair a b, d => a.exact d.1 /\ b.exact d.2
 | _, _ => True
def DTy.wt : (t : DTy) -> t.den -> Nat
 | .unit, _ => 0
 | .int _, _ => 1
 | .bool, _ => 1
 | .str, d => ByteArray.size d
 | .ws _ n, _ => n
 | .pair a b, d => a.wt d.1 + b.wt d.2
 | .sl t, d => (List.map t.wt d.1).sum + 1
 | .ref, _ => 1
 | .vp, _ => 1
structure Bulk (H : Type) where
 B : DataW H -> Nat
 A : List (DataW H) -> Nat
 lit : ∀ l, 1 <= B (.lit l)
 str : ∀ bs, B (.lit (.string bs)) = bs.length + 1
 nil : 1 <= B .nil
 slice : ∀ a b, B (.slice a b) = A a + A b + 1
 agg : ∀ a, B (.agg a) = A a + 1
 anil : A [] = 0
 acons : ∀ d r, A (d :: r) = B d + A r
theorem exists_list {α : Type} {Q : Nat -> α -> Prop} : ∀ n, (∀ i, i < n -> ∃ d, Q i d) -> ∃ l : List α, l.length = n /\ ∀ i (h : i < l.length), Q i l[i]
 | 0, _ => ⟨[], rfl, fun i h => absurd h (Nat.not_lt_zero i)⟩
 | n + 1, h => by
  obtain ⟨l, hl, hq⟩ := exists_list n (fun i hi => h i (by omega))
  obtain ⟨d, hd⟩ := h n (by omega)
  refine ⟨l ++ [d], by rw [List.length_append, hl]; rfl, fun i hi => ?_⟩
  rw [List.length_append, hl] at hi;by_cases e : i < n
  ·rw [List.getElem_append_left (by omega)]; exact hq i (by omega)
  ·obtain rfl : i = n := by simp at hi; omega
   rw [List.getElem_append_right (by omega)]
   simpa using hd
theorem sum_le {α : Type} {H : Type} (bk : Bulk H) {f : α -> Nat} : ∀ {xs : List α} {ys : List (DataW H × List MemPlace)}, xs.length = ys.length -> (∀ i (h : i < xs.length) (h' : i < ys.length), f xs[i] <= bk.B ys[i].1) -> (xs.map f).sum <= bk.A (ys.map (·.1))
 | [], [], _, _ => Nat.zero_le _
 | [], _ :: _, h, _ => by simp at h
 | _ :: _, [], h, _ => by simp at h
 | x :: xs, y :: ys, h, hf => by
  have h1 := hf 0 (by simp) (by simp)
  have h2 := sum_le bk (xs := xs) (ys := ys) (by simpa using h) (fun i hi hi' => by have := hf (i + 1) (by simp; omega) (by simp; omega); simpa using this)
  rw [List.map_cons, List.map_cons, List.sum_cons, bk.acons];simp only [List.getElem_cons_zero] at h1;omega
theorem sum_ones {α : Type} : ∀ l : List α, (l.map (fun _ => 1)).sum = l.length
 | [] => rfl
 | _ :: l => by rw [List.map_cons, List.sum_cons, sum_ones l, List.length_cons]; omega
theorem add_none (k off n : Nat) : (⟨k, off, none⟩ : Addr).add n = ⟨k, off + n, none⟩ := by unfold Addr.add; split <;> simp_all
theorem cell_some {w : World} {a : Addr} {v : Value} (h : w.cell? a = some v) : a.spot = none /\ ∃ c e fz, w.heap[a.block]? = some (.cells c e fz) /\ c[a.off]? = some v := by
 unfold World.cell? at h;split at h
 ·rename_i c e fz hc;split at h
  ·cases h
  ·rename_i hs;exact ⟨by simpa using hs, c, e, fz, hc, h⟩
 ·cases h
section
variable {H : Type} {enc : TypeId × Value -> H} {P : Program} {w : World} {sp : Nat -> Bool} {held : Bool} {E : Env}
theorem rot_fields (bk : Bulk H) {g : TypeId -> DTy -> Bool} {fuel : Nat} {cs : List Value}
  (hg : ∀ T t, g T t = true -> ∀ us x, DataW.trod enc P w 0 sp held fuel T us = some x -> ∃ d : t.den, RoT E t d us /\ t.exact d /\ t.wt d <= bk.B x.1) :
  ∀ (l : List Field) (t : DTy) (o : Nat) (ys : List (DataW H × List MemPlace)), fieldsFit P g l t o = true -> ys.length = l.length ->
   (∀ (i : Nat) (f : Field), l[i]? = some f -> DataW.trod enc P w 0 sp held fuel f.type ((cs.drop f.offset).take (P.cellsOf f.type)) = ys[i]?) -> o + t.size = cs.length ->
   ∃ d : t.den, RoT E t d (cs.drop o) /\ t.exact d /\ t.wt d <= bk.A (ys.map (·.1))
 | [], t, o, ys, hf, hy, hx, ho => by
  cases t <;> simp [fieldsFit] at hf
  refine ⟨(), ?_, trivial, Nat.zero_le _⟩
  show cs.drop o = []
  exact List.drop_eq_nil_of_le (by simp [DTy.size] at ho; omega)
 | f :: fs, t, o, ys, hf, hy, hx, ho => by
  cases t <;> simp only [fieldsFit, Bool.and_eq_true, beq_iff_eq] at hf <;> try exact absurd hf Bool.false_ne_true
  rename_i a b;obtain ⟨⟨⟨h1, h2⟩, h3⟩, h4⟩ := hf;cases ys with
  | nil => simp at hy
  | cons y ys =>
   have h0 := hx 0 f rfl
   rw [h1, h2] at h0;obtain ⟨d1, r1, e1, w1⟩ := hg _ _ h3 _ y h0;simp only [DTy.size] at ho;obtain ⟨d2, r2, e2, w2⟩ := rot_fields bk hg fs b (o + a.size) ys h4 (by simpa using hy) (fun i f' hi => by have := hx (i + 1) f' (by simpa using hi); simpa using this) (by omega)
   refine ⟨(d1, d2), ⟨_, _, ?_, r1, r2⟩, ⟨e1, e2⟩, ?_⟩
   ·rw [<- List.drop_drop, List.take_append_drop]
   ·show a.wt d1 + b.wt d2 <= _
    rw [List.map_cons, bk.acons]; omega
theorem rot_of (hE : E.w = w) (hR : ∀ k, k < w.heap.size -> E.R k) (bk : Bulk H) : ∀ (n : Nat) (T : TypeId) (t : DTy), fits P n T t = true -> ∀ (fuel : Nat) (cs : List Value) (x : DataW H × List MemPlace),
  DataW.trod enc P w 0 sp held fuel T cs = some x -> ∃ d : t.den, RoT E t d cs /\ t.exact d /\ t.wt d <= bk.B x.1
 | 0, T, t, h, _, _, _, _ => by simp [fits] at h
 | n + 1, T, t, h, fuel, cs, x, hx => by
  unfold fits at h;split at h
  ·rename_i k k' ht;obtain rfl : k = k' := by simpa using h
   obtain ⟨z, rfl, rfl, hw⟩ := DataW.trod_int ht hx;simp only [Lit.wf, Bool.and_eq_true, decide_eq_true_eq] at hw;exact ⟨z, ⟨rfl, hw⟩, trivial, bk.lit _⟩
  ·rename_i ht;obtain ⟨b, rfl, rfl⟩ := DataW.trod_bool ht hx;exact ⟨b, rfl, trivial, bk.lit _⟩
  ·rename_i ht;obtain ⟨s, rfl, rfl, _⟩ := DataW.trod_string ht hx;refine ⟨s, rfl, trivial, ?_⟩
   show ByteArray.size s <= bk.B (.lit (.string s.data.toList))
   rw [bk.str]
   show s.data.size <= _
   rw [Array.length_toList]; omega
  ·rename_i m e k m' ht;split at h
   ·rename_i k' he;simp only [Bool.and_eq_true, beq_iff_eq] at h;obtain ⟨⟨⟨rfl, rfl⟩, hc⟩, hct⟩ := h;obtain ⟨xs, q, _, rfl, hl, hxl, hel⟩ := DataW.trod_array ht hx;have hex : ∀ i, i < m -> ∃ z : Int, InK k z /\ cs[i]? = some (.int k z) /\ ∃ y, xs[i]? = some y /\ 1 <= bk.B y.1 := fun i hi => by
     have h1 := hel i hi
     rw [hc, Nat.mul_one] at h1;rw [List.getElem?_eq_getElem (by omega)] at h1
     obtain ⟨z, hz, hy, hw⟩ := DataW.trod_int he h1;simp only [Lit.wf, Bool.and_eq_true, decide_eq_true_eq] at hw;refine ⟨z, hw, ?_, xs[i], List.getElem?_eq_getElem (by omega), by rw [hy]; exact bk.lit _⟩
     have : ((cs.drop i).take 1)[0]? = some (.int k z) := by rw [hz]; rfl
     rw [List.getElem?_take] at this
     simpa using this
    obtain ⟨l, hl1, hl2⟩ := exists_list m hex;have hlen : cs.length <= m := by omega
    refine ⟨l, ⟨hl1, fun x hx => ?_, ?_⟩, trivial, ?_⟩
    ·obtain ⟨i, hi, rfl⟩ := List.getElem_of_mem hx;exact (hl2 i hi).1
    ·apply List.ext_getElem?
     intro i;by_cases hi : i < m
     ·rw [(hl2 i (by omega)).2.1, List.getElem?_map, List.getElem?_eq_getElem (by omega)]; rfl
     ·rw [List.getElem?_eq_none (by omega), List.getElem?_eq_none (by simp; omega)]
    ·show m <= bk.B (.agg (xs.map (·.1)))
     rw [bk.agg];have : (List.map (fun _ => 1) l).sum <= bk.A (xs.map (·.1)) := sum_le bk (f := fun _ : Int => 1) (by omega) (fun i hi hi' => by
      obtain ⟨_, _, y, hy, hb⟩ := hl2 i hi;rw [List.getElem?_eq_getElem hi'] at hy
      rw [smI hy]; exact hb)
     have e : (List.map (fun _ : Int => 1) l).sum = l.length := sum_ones l
     omega
   ·cases h
  ·rename_i e t ht;simp only [Bool.and_eq_true, beq_iff_eq] at h;obtain ⟨⟨h1, h2⟩, h3⟩ := h;have hpos : 0 < t.size := by simpa using h3
   rcases DataW.trod_slice ht hx with ⟨rfl, rfl⟩ | ⟨a, len, cap, elems, rest, m, rfl, rfl, rfl, hb, hl, hc, hlen, hel, hsp, hns⟩
   ·refine ⟨([], 0), ⟨_, rfl, none, 0, rfl, Nat.le_refl _, Nat.le_refl _, by omega, hpos, fun h => (h rfl).elim⟩, ⟨rfl, fun x hx => by simp at hx⟩, ?_⟩
    show 0 + 1 <= _
    exact bk.nil
   ·have hex : ∀ i, i < len -> ∃ d : t.den, (∃ us, RoT E t d us /\ w.cells? 0 (a.add (i * t.size)) t.size = some us) /\ t.exact d /\ ∀ y, elems[i]? = some y -> t.wt d <= bk.B y.1 := fun i hi => by
     have hh := hel i hi
     rw [<- h2, List.getElem?_eq_getElem (by omega), Option.bind_eq_some_iff] at hh
     obtain ⟨us, g1, g2⟩ := hh;obtain ⟨d, r1, r2, r3⟩ := rot_of hE hR bk n e t h1 m us _ g2;refine ⟨d, ⟨us, r1, g1⟩, r2, fun y hy => ?_⟩
     rw [List.getElem?_eq_getElem (by omega)] at hy
     obtain rfl := smI hy;exact r3
    obtain ⟨l, hl1, hl2⟩ := exists_list len hex;refine ⟨(l, len), ⟨_, rfl, some a, cap, rfl, by show len <= l.length; omega, by show l.length <= cap; omega, ?_, hpos, fun hne => ?_⟩, ⟨hl1.symm, fun x hx => ?_⟩, ?_⟩
    ·have : maxLen < 9223372036854775808 := by decide
     omega
    ·have h0 : 0 < l.length := List.length_pos_iff.mpr hne
     obtain ⟨⟨us, r1, r2⟩, _, _⟩ := hl2 0 h0;obtain ⟨_, c1, c2⟩ := World.cells?_some r2
     have c3 := c2 0 hpos
     have hu := RoT.len r1
     rw [List.getElem?_eq_getElem (by omega)] at c3
     obtain ⟨s1, c, ee, fz, s2, s3⟩ := cell_some c3;have e0 : (a.add (0 * t.size)).add 0 = a := by rw [Nat.zero_mul]; rfl
     rw [e0] at s1 s2 s3;obtain ⟨k, off, spot⟩ := a;obtain rfl : spot = none := s1;refine ⟨k, off, c, ee, fz, rfl, hR k ?_, by rw [hE]; exact s2, fun i hi => ?_⟩
     ·exact (Array.getElem?_eq_some_iff.1 s2).1
     ·obtain ⟨⟨us, r1, r2⟩, _, _⟩ := hl2 i hi;obtain ⟨_, c1, c2⟩ := World.cells?_some r2
      refine ⟨us, r1, c1, fun j hj => ?_⟩
      have c3 := c2 j hj
      rw [add_none, add_none] at c3;unfold World.cell? at c3;simp only [s2] at c3;simpa [Nat.add_assoc] using c3
    ·obtain ⟨i, hi, rfl⟩ := List.getElem_of_mem hx;exact (hl2 i hi).2.1
    ·show (List.map t.wt l).sum + 1 <= bk.B (.slice _ _)
     rw [bk.slice];have := sum_le bk (f := t.wt) (xs := l) (ys := elems) (by omega) (fun i hi hi' => (hl2 i hi).2.2 _ (List.getElem?_eq_getElem hi'))
     omega
  ·rename_i _ _ fs ht;simp only [Bool.and_eq_true, beq_iff_eq] at h;obtain ⟨xs, q, rfl, rfl, hl, hxl, hel⟩ := DataW.trod_struct ht hx;obtain ⟨d, r1, r2, r3⟩ := rot_fields (E := E) bk (g := fits P n) (fun T t hg us x hx => rot_of hE hR bk n T t hg q us x hx) fs.toList _ 0 xs h.1 (by simpa using hxl) (fun i f hf => hel i f (by simpa using hf)) (by omega)
   refine ⟨d, r1, r2, ?_⟩
   rw [bk.agg]; omega
  ·cases h
end
end Go.SX
namespace Go.SX
open Go Go.RowKit Go.ChangeShapes Go.WideShapes
def envOf (w : World) : Env := { β := fun _ => none, H := [], w := w, R := fun k => k < w.heap.size }
def argV : (t : DTy) -> t.den -> V1
 | .int k, d => .c (.int false k d)
 | .bool, d => .c (.bool false d)
 | .str, d => .c (.str d)
 | .sl t, d => .c (.ro t d.1 d.2)
 | .ws k n, d => .g [.ws k n d]
 | .unit, _ => .g []
 | .pair a b, d => .g (toF (.pair a b) d)
 | .ref, d => .c (.ref d)
 | .vp, d => .c (.vptr d)
section
variable {H : Type} {enc : TypeId × Value -> H} {P : Program} {w : World} {sp : Nat -> Bool} {held : Bool}
theorem arg_struct {E : Env} {g : TypeId -> DTy -> Bool} {fs : List Field} {t : DTy} {x : t.den} {cs : Array Value} (hf : fieldsFit P g fs t 0 = true) (hr : RelFs E (toF t x) cs.toList) : RelV E (argV t x) (.agg cs) := by
 cases t with
 | int k => cases fs <;> simp [fieldsFit] at hf
 | bool => cases fs <;> simp [fieldsFit] at hf
 | str => cases fs <;> simp [fieldsFit] at hf
 | ws k n => cases fs <;> simp [fieldsFit] at hf
 | sl t => cases fs <;> simp [fieldsFit] at hf
 | ref => cases fs <;> simp [fieldsFit] at hf
 | vp => cases fs <;> simp [fieldsFit] at hf
 | unit => exact ⟨cs, rfl, hr⟩
 | pair a b => exact ⟨cs, rfl, hr⟩
theorem arg_of (bk : Bulk H) {n : Nat} {T : TypeId} {t : DTy} (hf : fits P n T t = true) {r : Reach} {b0 : Nat} {v : Value} {d : DataW H} {ps : List MemPlace}
  (hv : Value.okWide P w r b0 T v) (hd : DataW.Trod enc P w 0 sp held T v d ps) : ∃ x : t.den, RelV (envOf w) (argV t x) v /\ t.exact x /\ t.wt x <= bk.B d := by
 obtain ⟨fuel, hx⟩ := hd;obtain ⟨x, h1, h2, h3⟩ := rot_of (E := envOf w) rfl (fun k hk => hk) bk n T t hf fuel _ _ hx
 refine ⟨x, ?_, h2, h3⟩
 cases n with
 | zero => simp [fits] at hf
 | succ n =>
  unfold fits at hf;split at hf
  ·rename_i k k' ht;obtain rfl : k = k' := by simpa using hf
   obtain ⟨z, rfl⟩ := okWide_int ht hv;obtain ⟨e1, e2⟩ := h1;have e1 : [Value.int k z] = [Value.int k x] := e1
   exact ⟨(List.cons.inj e1).1, e2⟩
  ·rename_i ht;obtain ⟨z, rfl⟩ := okWide_bool ht hv;have e1 : [Value.bool z] = [Value.bool x] := h1
   exact (List.cons.inj e1).1
  ·rename_i ht;obtain ⟨z, rfl⟩ := okWide_string ht hv;have e1 : [Value.string z] = [Value.string x] := h1
   exact (List.cons.inj e1).1
  ·rename_i m e k m' ht;simp only [Value.okWide, ht] at hv;obtain ⟨cs, rfl, _⟩ := hv;exact ⟨cs, rfl, toF_rel _ _ _ h1⟩
  ·rename_i e t ht;obtain ⟨a, l, c, rfl⟩ := okWide_slice ht hv;obtain ⟨v', e1, e2⟩ := h1;have e1 : [Value.slice a l c] = [v'] := e1
   rw [<- (List.cons.inj e1).1] at e2;exact e2
  ·rename_i _ _ fs ht;obtain ⟨cs, rfl, _⟩ := okWide_struct ht hv;simp only [Bool.and_eq_true, beq_iff_eq] at hf;have hr := toF_rel _ _ _ h1
   exact arg_struct hf.1 hr
  ·cases hf
theorem trodAll_stays (hl : laidOutB P = true) {W W' : World} {sp' : Nat -> Bool} (hsame : Below W.heap.size W W') : ∀ {ts : List TypeId} {vs : List Value} {ds : List (DataW H)} {ps : List MemPlace},
  (∀ t ∈ ts, P.readableRec t = true /\ t < P.types.size) -> DataW.TrodAll enc P W 0 (fun _ => true) true ts vs ds ps -> (∀ p ∈ ps, p.block < W.heap.size) -> (∀ p ∈ ps, sp' p.block = true) -> DataW.TrodAll enc P W' 0 sp' true ts vs ds ps
 | [], vs, ds, ps, _, h, _, _ => by
  obtain ⟨rfl, rfl, rfl⟩ := trodAll_nil h;rfl
 | t :: ts, vs, ds, ps, ht, h, hlt, hsp => by
  obtain ⟨v, vs', d, ds', p, q, rfl, rfl, rfl, h1, h2⟩ := trodAll_cons h;obtain ⟨hr, hrow⟩ := ht t List.mem_cons_self;refine ⟨p, q, WideElems.Trod_stays hl hr hrow h1 (fun x hx => hsame.same (hlt x (List.mem_append_left _ hx))) (fun x hx => hsp x (List.mem_append_left _ hx)), ?_, rfl⟩
  exact trodAll_stays hl hsame (fun u hu => ht u (List.mem_cons_of_mem _ hu)) h2 (fun x hx => hlt x (List.mem_append_right _ hx)) (fun x hx => hsp x (List.mem_append_right _ hx))
theorem post_true {f : Func} {s : ChangeSpec} {W W' : World} {args : Array Value} {ds : List (DataW H)} {before : List MemPlace} {tb : TypeId}
  (hW : DataW.Whole enc P f.params.toList s.vars false W args.toList ds [] before) (hvars : s.vars = []) (hs : s.fn H (ds ++ []) = { results := [.lit (.bool true)], args := ds })
  (hrt : f.resultTypes = #[tb]) (htb : P.underlying tb = some .bool) (hl : laidOutB P = true) (hrr : ∀ t ∈ f.params.toList, P.readableRec t = true /\ t < P.types.size) (hb : Below W.heap.size W W') :
  s.post enc P f false true false false W args (.bool true) W' := by
 have hlt := hW.lt
 have hW' := hW
 obtain ⟨p, q, hA, hV, rfl, _, _⟩ := hW;rw [hvars] at hV;obtain ⟨_, rfl⟩ := trodVars_none hV;rw [List.append_nil] at hW' hlt;refine ⟨ds, [], p, [], p, [], hW', ?_, ?_, ?_, ?_, fun h => by cases h⟩
 ·rw [hs, hrt];exact trodAll_mk1 (shut_bool htb true)
 ·rw [hs];exact trodAll_stays hl hb hrr hA hlt (fun x hx => by simpa using hlt x hx)
 ·rw [hs, hvars];rfl
 ·exact World.keptBut_mono (fun x hx => ⟨hx, Or.inr (Or.inl hx)⟩) (hb.frame (· ∈ p))
end
end Go.SX
namespace Go.SX
open Go
def okD : (t : DTy) -> t.den -> Prop
 | .int k, d => InK k d
 | .ws k n, d => List.length (α := Int) d = n /\ ∀ x ∈ (show List Int from d), InK k x
 | .pair a b, d => okD a d.1 /\ okD b d.2
 | .sl t, d => d.2 <= List.length d.1 /\ ∀ x ∈ d.1, okD t x
 | _, _ => True
def okC : Cell -> Prop
 | .int _ k n => InK k n
 | .ro t xs len => len <= xs.length /\ ∀ x ∈ xs, okD t x
 | _ => True
def okF : List FCell -> Prop
 | [] => True
 | .c x :: fs => okC x /\ okF fs
 | .ws k n xs :: fs => (xs.length = n /\ ∀ x ∈ xs, InK k x) /\ okF fs
def okV : V1 -> Prop
 | .c x => okC x
 | .g fs => okF fs
def okVs : List V1 -> Prop
 | [] => True
 | v :: vs => okV v /\ okVs vs
section
variable {E : Env}
theorem okD_sl {t : DTy} (ih : ∀ d us, RoT E t d us -> okD t d) {xs : List t.den} {len : Nat} {v : Value} (h : RoSl E t.size (RoT E t) xs len v) : len <= xs.length /\ ∀ x ∈ xs, okD t x := by
 obtain ⟨a, cap, _, h2, _, _, _, h6⟩ := h;refine ⟨h2, fun x hx => ?_⟩
 obtain ⟨k, off, c, e, fz, _, _, _, g4⟩ := h6 (List.ne_nil_of_mem hx);obtain ⟨i, hi, rfl⟩ := List.getElem_of_mem hx;obtain ⟨us, q1, _⟩ := g4 i hi;exact ih _ _ q1
theorem okD_of : ∀ (t : DTy) (d : t.den) (us : List Value), RoT E t d us -> okD t d
 | .unit, _, _, _ => trivial
 | .int _, _, _, h => h.2
 | .bool, _, _, _ => trivial
 | .str, _, _, _ => trivial
 | .ws _ _, _, _, h => ⟨h.1, h.2.1⟩
 | .pair a b, d, us, h => by
  obtain ⟨v1, v2, _, h2, h3⟩ := h;exact ⟨okD_of a _ _ h2, okD_of b _ _ h3⟩
 | .sl t, d, us, h => by
  obtain ⟨v, _, h2⟩ := h;exact okD_sl (okD_of t) h2
 | .ref, _, _, _ => trivial
 | .vp, _, _, _ => trivial
theorem okC_of {x : Cell} {v : Value} (h : RelC E x v) : okC x := by
 cases x <;> try exact trivial
 ·exact h.2
 ·exact okD_sl (okD_of _) h
theorem okF_of : ∀ {fs : List FCell} {us : List Value}, RelFs E fs us -> okF fs
 | [], _, _ => trivial
 | .c x :: fs, us, h => by
  obtain ⟨v1, v2, _, ⟨v, _, h1⟩, h2⟩ := h;exact ⟨okC_of h1, okF_of h2⟩
 | .ws k n xs :: fs, us, h => by
  obtain ⟨v1, v2, _, h1, h2⟩ := h;exact ⟨⟨h1.1, h1.2.1⟩, okF_of h2⟩
theorem okV_of {v : V1} {u : Value} (h : RelV E v u) : okV v := by
 cases v with
 | c x => exact okC_of h
 | g fs => obtain ⟨cs, _, h⟩ := h; exact okF_of h
theorem okVs_of : ∀ {vs : List V1} {us : List Value}, RelVs E vs us -> okVs vs
 | [], _, _ => trivial
 | v :: vs, us, h => by
  obtain ⟨u, us', _, h1, h2⟩ := h;exact ⟨okV_of h1, okVs_of h2⟩
end
section
variable {P : Program} {G : GlobT} {S : Tab} [Level]
theorem EntryOk.sub {f : FuncId} {T T' : List V1 -> Heap -> Tree (SV × Heap)} (h : EntryOk P G f T') (hs : ∀ vs hl r, okVs vs -> (T vs hl).val = some r -> (T' vs hl).val = some r) : EntryOk P G f T :=
 fun vs hl r hl' hr E us hE hrep hv => h vs hl r hl' (hs vs hl (r, hl') (okVs_of hv) hr) E us hE hrep hv
theorem EntryOk.runs {f : FuncId} {fn : Func} {c : Code} {T : List V1 → Heap → Tree (SV × Heap)} (hf : P.funcs[f]? = some fn) (hb : fn.body = some c) (hn : (fn.name == "runtime.NumGoroutine") = false)
  (h : ∀ vs hl r hl', okVs vs -> (T vs hl).val = some (r, hl') -> Runs P S fn hl.length [.code c] ⟨enterT fn vs, hl⟩ r hl') : EntryOk P S.gl f T :=
 fun vs hl r hl' hr E us hE hrep hv => Runs.spec hf hb hn (h vs hl r hl' (okVs_of hv) hr) E us hE hrep hv
def unlV : V1 -> V1
 | .c x => .c (unlC x)
 | x => x
theorem EntryOk.unlit {f : FuncId} {T : List V1 -> Heap -> Tree (SV × Heap)} (h : EntryOk P G f T) : EntryOk P G f (fun vs hl => T (vs.map unlV) hl) := by
 intro vs hl r hl' hr E us hE hrep hv;refine h _ hl r hl' hr E us hE hrep ?_
 clear hr;have : ∀ {vs : List V1} {us : List Value}, RelVs E vs us -> RelVs E (vs.map unlV) us := by
  intro vs
  induction vs with
  | nil => intro us h; exact h
  | cons v vs ih =>
   intro us h;obtain ⟨u, us', rfl, h1, h2⟩ := h;refine ⟨u, us', rfl, ?_, ih h2⟩
   cases v with
   | c x => exact unlC_rel h1
   | g fs => exact h1
 exact this hv
def unlR : SV -> SV
 | .one v => .one (unlV v)
 | .tup vs => .tup (vs.map unlV)
 | x => x
theorem unlV_rel {E : Env} {v : V1} {u : Value} (h : RelV E v u) : RelV E (unlV v) u := by
 cases v with
 | c x => exact unlC_rel h
 | g fs => exact h
theorem unlVs_rel {E : Env} : ∀ {vs : List V1} {us : List Value}, RelVs E vs us -> RelVs E (vs.map unlV) us
 | [], _, h => h
 | _ :: _, _, h => by
  obtain ⟨u, us', rfl, h1, h2⟩ := h;exact ⟨u, us', rfl, unlV_rel h1, unlVs_rel h2⟩
theorem unlR_rel {E : Env} {v : SV} {u : Value} (h : RelS E v u) : RelS E (unlR v) u := by
 cases v with
 | any => exact h
 | one v => exact unlV_rel h
 | tup vs =>
  obtain ⟨us, rfl, h⟩ := h;exact ⟨us, rfl, unlVs_rel h⟩
theorem CallP.mono' {f : FuncId} {us : Array Value} {w : World} {R R' : Value -> World -> Prop} (h : CallP P f us w R) (hr : ∀ v w', R v w' -> R' v w') : CallP P f us w R' := h.mono hr
theorem EntryOk.subU {f : FuncId} {T T' : List V1 -> Heap -> Tree (SV × Heap)} (h : EntryOk P G f T') (hs : ∀ vs hl r, okVs vs -> (T vs hl).val = some r -> ∃ r', (T' vs hl).val = some (r', r.2) /\ unlR r' = r.1) : EntryOk P G f T := by
 intro vs hl r hl' hr E us hE hrep hv;obtain ⟨r', h1, h2⟩ := hs vs hl (r, hl') (okVs_of hv) hr;refine (h vs hl r' hl' h1 E us hE hrep hv).mono' fun v w' ⟨β', R', q1, q2, q3⟩ => ⟨β', R', q1, q2, ?_⟩
 have h2 : unlR r' = r := h2
 rw [<- h2];exact unlR_rel q3
def unlF : List FCell -> List FCell
 | [] => []
 | .c x :: fs => .c (unlC x) :: unlF fs
 | f :: fs => f :: unlF fs
def unlG : V1 -> V1
 | .c x => .c (unlC x)
 | .g fs => .g (unlF fs)
theorem unlF_rel {E : Env} : ∀ {fs : List FCell} {vs : List Value}, RelFs E fs vs -> RelFs E (unlF fs) vs
 | [], _, h => h
 | .c x :: fs, _, h => by
  obtain ⟨v1, v2, rfl, ⟨v, rfl, h1⟩, h2⟩ := h;exact ⟨[v], v2, rfl, ⟨v, rfl, unlC_rel h1⟩, unlF_rel h2⟩
 | .ws k n xs :: fs, _, h => by
  obtain ⟨v1, v2, rfl, h1, h2⟩ := h;exact ⟨v1, v2, rfl, h1, unlF_rel h2⟩
theorem unlG_rel {E : Env} {v : V1} {u : Value} (h : RelV E v u) : RelV E (unlG v) u := by
 cases v with
 | c x => exact unlC_rel h
 | g fs =>
  obtain ⟨cs, rfl, h⟩ := h;exact ⟨cs, rfl, unlF_rel h⟩
theorem unlGs_rel {E : Env} : ∀ {vs : List V1} {us : List Value}, RelVs E vs us -> RelVs E (vs.map unlG) us
 | [], _, h => h
 | _ :: _, _, h => by
  obtain ⟨u, us', rfl, h1, h2⟩ := h;exact ⟨u, us', rfl, unlG_rel h1, unlGs_rel h2⟩
theorem EntryOk.unlitG {f : FuncId} {T : List V1 -> Heap -> Tree (SV × Heap)} (h : EntryOk P G f T) : EntryOk P G f (fun vs hl => T (vs.map unlG) hl) :=
 fun _ hl r hl' hr E us hE hrep hv => h _ hl r hl' hr E us hE hrep (unlGs_rel hv)
theorem EntryOk.unlitRuns {f : FuncId} {fn : Func} {c : Code} {T : List V1 → Heap → Tree (SV × Heap)} (hf : P.funcs[f]? = some fn) (hb : fn.body = some c) (hn : (fn.name == "runtime.NumGoroutine") = false)
  (h : ∀ vs hl r hl', okVs vs -> (T vs hl).val = some (r, hl') -> Runs P S fn hl.length [.code c] ⟨enterT fn (vs.map unlG), hl⟩ r hl') : EntryOk P S.gl f T :=
 fun vs hl r hl' hr E us hE hrep hv => Runs.spec hf hb hn (h vs hl r hl' (okVs_of hv) hr) E us hE hrep (unlGs_rel hv)
theorem EntryOk.extern {f : FuncId} {fn : Func} {e : Array Value → Sem Value} {T : List V1 → Heap → Tree (SV × Heap)} (hf : P.funcs[f]? = some fn) (hname : (fn.name == "runtime.NumGoroutine") = false)
  (hb : fn.body.isNone = true) (hn : Extern.findNext fn = none) (he : Extern.find fn = some e) (hbl : ∀ us, Blind P (e us)) (hh : ∀ vs hl r, (T vs hl).val = some r -> hl = [] /\ r.2 = [])
  (h : ∀ vs r, okVs vs -> (T vs []).val = some (r, []) -> ∀ (E : Env) (us : Array Value) (w : World), RelVs E vs us.toList -> ∃ v, (e us).run P w = .ok v w /\ ∀ E', RelS E' r v) : EntryOk P G f T := by
 intro vs hl r hl' hr E us hE hrep hv;obtain ⟨rfl, h2⟩ := hh _ _ _ hr;obtain rfl : hl' = [] := h2;refine ⟨o_callExtern hf hb hname hn he (hbl us), ?_⟩
 right;obtain ⟨v, h3, h4⟩ := h vs r (okVs_of hv) hr E us E.w hv;refine ⟨v, E.w, ?_, E.β, E.R, ?_, ?_, h4 _⟩
 ·rw [run_callFunc_extern hf hname hb hn he, h3]; rfl
 ·rw [<- hE]; exact hrep
 ·rw [<- hE]; exact Ext.refl E
end
theorem Runs.resU [Level] {P : Program} {S : Tab} {fn : Func} {m : Nat} {k : List Item} {s : St} {v : SV} {hl : Heap} (h : Runs P S fn m k s v hl) : Runs P S fn m k s (unlR v) hl :=
 fun E0 E a x hm hs => (h E0 E a x hm hs).mono fun _ _ ⟨q1, q⟩ => ⟨q1, fun w₁ g => let ⟨u, q2, β', R', q3, q4, q5⟩ := q w₁ g; ⟨u, q2, β', R', q3, q4, unlR_rel q5⟩⟩
theorem loopG [Level] {P : Program} {S : Tab} {fn : Func} {m : Nat} {K : List Item} {v : SV} {hl : Heap} {α : Type} {st : Nat -> α -> St} {I : Nat -> α -> Prop} {n : Nat}
  (step : ∀ k a, k < n -> I k a -> ∃ a', I (k + 1) a' /\ (Runs P S fn m K (st (k + 1) a') v hl -> Runs P S fn m K (st k a) v hl))
  (last : ∀ a, I n a -> Runs P S fn m K (st n a) v hl) : ∀ d k a, k + d = n -> I k a -> Runs P S fn m K (st k a) v hl
 | 0, k, a, h, hI => by
  obtain rfl : k = n := by omega
  exact last a hI
 | d + 1, k, a, h, hI => by
  obtain ⟨a', hI', hr⟩ := step k a (by omega) hI
  exact hr (loopG step last d (k + 1) a' (by omega) hI')
end Go.SX
