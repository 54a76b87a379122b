/- SX, part 41: where each of a crowd stands. -/
import Derived.Test.YtdblbibjggeikaaGreatDoorB8
set_option linter.unusedSectionVars false
set_option linter.unusedVariables false
set_option linter.unusedSimpArgs false
namespace Go.SX
open Go Go.Conc
open Go.ConcN (PermW RelBy ShN WgLive PayAt Has RW DWs AtR0 WSit CTag WD EvW OkW upd sumTo AsideCell)
open Go.ConcR (KK WgAt stA smA rd wr mk Bk DC0)
def putAt (w : World) (C o : Nat) : List Value -> World
 | [] => w
 | u :: us => putAt (w.setCell ⟨C, o, none⟩ u) C (o + 1) us
def putEs (C o : Nat) : Nat -> Array Event
 | 0 => #[]
 | n + 1 => #[⟨.cell ⟨C, o, none⟩, true, false⟩] ++ putEs C (o + 1) n
theorem putEs_mem {C : Nat} : ∀ {n o : Nat} {e : Event}, e ∈ putEs C o n -> ∃ k, k < n /\ e = ⟨.cell ⟨C, o + k, none⟩, true, false⟩
 | n + 1, o, e, h => by
  simp only [putEs, Array.mem_append, List.mem_toArray, List.mem_cons, List.not_mem_nil, or_false] at h;rcases h with rfl | h
  ·exact ⟨0, by omega, rfl⟩
  ·obtain ⟨k, hk, rfl⟩ := putEs_mem h;exact ⟨k + 1, by omega, by rw [show o + 1 + k = o + (k + 1) by omega]⟩
structure PutOk (w w' : World) (C o : Nat) (us : List Value) : Prop where
 os : w'.os = w.os
 tape : w'.tape = w.tape
 output : w'.output = w.output
 size : w'.heap.size = w.heap.size
 block : ∀ b, b ≠ C -> w'.heap[b]? = w.heap[b]?
 pay : ∀ [Go.ConcR.Payload] (n : Nat), PayAt C n w -> PayAt C n w'
 out : ∀ k, (k < o \/ o + us.length <= k) -> w'.cell? ⟨C, k, none⟩ = w.cell? ⟨C, k, none⟩
 cell : ∀ k, k < us.length -> (∃ x, w.cell? ⟨C, o + k, none⟩ = some x) -> w'.cell? ⟨C, o + k, none⟩ = us[k]?
theorem cell_set (w : World) (C o k : Nat) (u : Value) : (w.setCell ⟨C, o, none⟩ u).cell? ⟨C, k, none⟩ = if o = k then (w.cell? ⟨C, k, none⟩).map (fun _ => u) else w.cell? ⟨C, k, none⟩ := by
 unfold World.cell? World.setCell;simp only [Array.getElem?_modify, if_true]
 cases h : w.heap[C]? with
 | none => simp
 | some x =>
  cases x with
  | cells c e fz =>
   simp only [Option.map_some, Option.isSome_none, Bool.false_eq_true, if_false];rw [Array.getElem?_setIfInBounds]
   by_cases e1 : o = k
   ·subst e1;by_cases e2 : o < c.size
    ·simp [e2]
    ·simp [e2]
   ·simp [e1]
  | _ => simp
theorem putAt_ok : ∀ {us : List Value} {w : World} {C o : Nat}, PutOk w (putAt w C o us) C o us
 | [], w, C, o => ⟨rfl, rfl, rfl, rfl, fun _ _ => rfl, fun _ h => h, fun _ _ => rfl, fun k hk => by simp at hk⟩
 | u :: us, w, C, o => by
  have h := putAt_ok (us := us) (w := w.setCell ⟨C, o, none⟩ u) (C := C) (o := o + 1)
  rw [show putAt w C o (u :: us) = putAt (w.setCell ⟨C, o, none⟩ u) C (o + 1) us from rfl]
  refine ⟨h.os, h.tape, h.output, h.size.trans (by simp [World.setCell]), fun b hb => (h.block b hb).trans ?_, fun n hp => h.pay n ?_, fun k hk => ?_, fun k hk hx => ?_⟩
  ·simp [World.setCell, Array.getElem?_modify, Ne.symm hb]
  ·obtain ⟨cs, h1, h2⟩ := hp;refine ⟨cs.setIfInBounds o u, ?_, by simpa using h2⟩
   simp [World.setCell, Array.getElem?_modify, h1]
  ·rw [h.out k (by simp only [List.length_cons] at hk; omega), cell_set, if_neg (by simp only [List.length_cons] at hk; omega)]
  ·cases k with
   | zero =>
    obtain ⟨x, hx⟩ := hx;rw [h.out (o + 0) (by omega), cell_set, if_pos (by omega), hx]
    rfl
   | succ k =>
    have := h.cell k (by simpa using hk) (by
     obtain ⟨x, hx⟩ := hx;exact ⟨x, by rw [cell_set, if_neg (by omega), show o + 1 + k = o + (k + 1) by omega, hx]⟩)
    rw [show o + (k + 1) = o + 1 + k by omega, this]
    rfl
namespace Cw
variable [Go.ConcR.Payload] [Level] (c : Cw)
def no : Nat -> Loc -> Prop := fun _ _ => False
def N : Nat := c.sz
def AtPut (i : Nat) (g : Goroutine) (v : World) : Prop :=
 g.status = .running /\ ∃ (us : List Value) (x : Value), us.length = c.ez /\ us[0]? = some x /\ c.R i us v /\
  ∀ w, c.Live w -> c.Pay w -> ∃ g' m, stepG c.P false g w = .go g' (putAt w c.C (c.ez * i) us) (putEs c.C (c.ez * i) c.ez) /\
   Goes c.P false (RW c.L.tWg c.Wg c.C c.N 0 (c.ez * i)) (DWs c.Wg no no c.C c.N (c.ez * i + 1)) (AtR0 c.P c.L.tWg c.Wg c.C c.N 0 (c.ez * i + 1) x) m g' (putAt w c.C (c.ez * i) us)
def Res (i : Nat) (x : Value) (s : Nat) (w : World) (ob : Nat -> Ow) : Prop :=
 ∃ us v, us.length = c.ez /\ us[0]? = some x /\ c.R i us v /\ Grow v (view ob (c.l0 + i) w) /\ ∀ k, k < c.ez -> (0 < k \/ s <= 6) -> w.cell? ⟨c.C, c.ez * i + k, none⟩ = us[k]?
inductive WS (i : Nat) : Bool -> Tr -> Nat -> Nat -> Goroutine -> World -> (Nat -> Ow) -> Prop
 | run {t : Tr} {g : Goroutine} {v w : World} {ob : Nat -> Ow} : WayT c.P false (c.AtPut i) t g v -> Grow v (view ob (c.l0 + i) w) -> WS i true t 7 0 g w ob
 | kit {m s d : Nat} {x : Value} {g : Goroutine} {w : World} {ob : Nat -> Ow} : WSit c.P c.L.tWg c.Wg c.C c.N no no 0 (c.ez * i + 1) x s m d g w -> c.Res i x s w ob -> WS i false (Tr.ofNat m) s d g w ob
def AtGo (i : Nat) (g : Goroutine) (v : World) : Prop :=
 g.status = .running /\ ∃ g' child, (∀ w, stepG c.P true g w = .spawn g' child w #[]) /\ Way0 c.P false (c.AtPut i) child v /\ c.Hd (i + 1) g'
def AtAdd (i : Nat) (g : Goroutine) (v : World) : Prop :=
 g.status = .running /\ ∃ Fin : Goroutine -> Prop, (∀ w, c.Live w -> LibW c.P c.L.tWg c.Wg (SKd c.P c.L.tWg c.Wg Fin) g w) /\ ∀ g2, Fin g2 -> ∀ v', Grow v v' -> Way0 c.P true (c.AtGo i) g2 v'
def AnchOk (A : Goroutine -> World -> Prop) : Prop := ∀ g w, A g w -> c.Live w -> g.status = .running /\ LibW c.P c.L.tWg c.Wg (QW1 c.P c.L.tWg c.Wg c.Kg A) g w
def AtWait (g : Goroutine) (_ : World) : Prop :=
 g.status = .running /\ ∃ A : Goroutine -> World -> Prop, c.AnchOk A /\ ∀ w, c.Live w -> LibW c.P c.L.tWg c.Wg (QKd c.P c.L.tWg c.Wg A) g w
def GL (Stop : Goroutine -> World -> Prop) : Tr -> Goroutine -> World -> Prop := LibT c.P c.L.tWg c.Wg Stop
inductive MS : CTag -> Nat -> Tr -> Nat -> Goroutine -> World -> (Nat -> Ow) -> Prop
 | toAdd {j : Nat} {t : Tr} {g : Goroutine} {v w : World} {ob : Nat -> Ow} : j < c.n -> WayT c.P true (c.AtAdd j) t g v -> Grow v (view ob 0 w) -> MS (.sp (c.n - j) 6) j t 0 g w ob
 | kd {j : Nat} {t : Tr} {g : Goroutine} {v w : World} {ob : Nat -> Ow} (Fin : Goroutine -> Prop) : j < c.n -> c.GL (SKd c.P c.L.tWg c.Wg Fin) t g w -> (∀ g2, Fin g2 -> ∀ v', Grow v v' -> Way0 c.P true (c.AtGo j) g2 v') -> Grow v (view ob 0 w) -> MS (.sp (c.n - j) 5) j t 0 g w ob
 | a1 {j : Nat} {t : Tr} {g : Goroutine} {v w : World} {ob : Nat -> Ow} (Fin : Goroutine -> Prop) : j < c.n -> c.GL (SA1 c.P c.L.tWg c.Wg Fin) t g w -> (∀ g2, Fin g2 -> ∀ v', Grow v v' -> Way0 c.P true (c.AtGo j) g2 v') -> Grow v (view ob 0 w) -> MS (.sp (c.n - j) 4) j t 1 g w ob
 | ke {j : Nat} {t : Tr} {g : Goroutine} {v w : World} {ob : Nat -> Ow} (Fin : Goroutine -> Prop) : j < c.n -> c.GL (SKe c.P c.L.tWg c.Wg Fin) t g w -> (∀ g2, Fin g2 -> ∀ v', Grow v v' -> Way0 c.P true (c.AtGo j) g2 v') -> Grow v (view ob 0 w) -> MS (.sp (c.n - j) 3) j t 1 g w ob
 | back {j : Nat} {t : Tr} {g : Goroutine} {v w : World} {ob : Nat -> Ow} (Fin : Goroutine -> Prop) : j < c.n -> c.GL (Was Fin) t g w -> (∀ g2, Fin g2 -> ∀ v', Grow v v' -> Way0 c.P true (c.AtGo j) g2 v') -> Grow v (view ob 0 w) -> MS (.sp (c.n - j) 2) j t 0 g w ob
 | toGo {j : Nat} {t : Tr} {g : Goroutine} {v w : World} {ob : Nat -> Ow} : j < c.n -> WayT c.P true (c.AtGo j) t g v -> Grow v (view ob 0 w) -> MS (.sp (c.n - j) 1) j t 0 g w ob
 | toWait {t : Tr} {g : Goroutine} {v w : World} {ob : Nat -> Ow} : WayT c.P true c.AtWait t g v -> Grow v (view ob 0 w) -> MS (.sp 0 6) c.n t 0 g w ob
 | wkd {t : Tr} {g : Goroutine} {w : World} {ob : Nat -> Ow} (A : Goroutine -> World -> Prop) : c.AnchOk A -> c.GL (QKd c.P c.L.tWg c.Wg A) t g w -> MS .kd c.n t 0 g w ob
 | anch {t : Tr} {g : Goroutine} {w : World} {ob : Nat -> Ow} (A : Goroutine -> World -> Prop) : c.AnchOk A -> c.GL A t g w -> MS .anch c.n t 1 g w ob
 | w1 {t : Tr} {g : Goroutine} {w : World} {ob : Nat -> Ow} (A : Goroutine -> World -> Prop) : c.AnchOk A -> c.GL (QW1 c.P c.L.tWg c.Wg c.Kg A) t g w -> MS .w1 c.n t 1 g w ob
 | w2 {vs : Nat} {t : Tr} {g : Goroutine} {w : World} {ob : Nat -> Ow} (A : Goroutine -> World -> Prop) : c.AnchOk A -> c.GL (QW2 c.P c.L.tWg c.Wg c.Kg A vs) t g w -> MS (.w2 vs) c.n t 1 g w ob
 | w3 {t : Tr} {g : Goroutine} {w : World} {ob : Nat -> Ow} : c.GL (QW3 c.P c.L.tWg c.Wg c.Kg) t g w -> MS .w3 c.n t.ext 1 g w ob
 | blk {g : Goroutine} {w : World} {ob : Nat -> Ow} : (∀ w₁, RL c.L.tWg c.Wg w w₁ -> QW3 c.P c.L.tWg c.Wg c.Kg g w₁) -> MS .blk c.n .leaf 1 { g with status := .blocked } w ob
 | w4 {t : Tr} {g : Goroutine} {w : World} {ob : Nat -> Ow} : c.GL (QW4 c.P c.L.tWg c.Wg c.Kg) t g w -> MS .w4 c.n t 1 g w ob
 | wke {t : Tr} {g : Goroutine} {w : World} {ob : Nat -> Ow} : c.GL (QKe c.P c.L.tWg c.Wg c.Kg) t g w -> MS .ke c.n t 1 g w ob
 | acq {t : Tr} {g : Goroutine} {w : World} {ob : Nat -> Ow} : c.GL (QAcq c.P c.L.tWg c.Wg c.Kg) t g w -> MS .acq c.n t 0 g w ob
variable {c : Cw} {ob ob' : Nat -> Ow} {w w' : World} {i s d j k : Nat} {fl : Bool} {t : Tr} {g : Goroutine} {tag : CTag}
theorem Eff.rl (h : c.Eff k ob ob' w w') : RL c.L.tWg c.Wg w w' := h.live
theorem Eff.rw_ (h : c.Eff k ob ob' w w') (hO : c.Ok) (hne : k ≠ c.l0 + i) : RW c.L.tWg c.Wg c.C c.N 0 (c.ez * i + 1 - 1) w w' := by
 refine ⟨fun b hb => absurd hb (Nat.not_lt_zero _), h.live, h.pay, h.cell _ fun i' hi => ?_⟩
 rw [Nat.add_sub_cancel];have he := hO.ez
 have hii : i ≠ i' := fun e => hne (by rw [hi, e])
 rcases Nat.lt_or_gt_of_ne hii with hlt | hgt
 ·left; exact Nat.mul_lt_mul_of_pos_left hlt he
 ·right;have : c.ez * i' + c.ez = c.ez * (i' + 1) := by rw [Nat.mul_add, Nat.mul_one]
  rw [this];exact Nat.mul_le_mul_left _ hgt
theorem Res.eff {x : Value} (hO : c.Ok) (hB : c.Base ob w) (h : c.Res i x s w ob) (he : c.Eff k ob ob' w w') (hne : k ≠ c.l0 + i) : c.Res i x s w' ob' := by
 obtain ⟨us, v, h1, h2, h3, h4, h5⟩ := h;refine ⟨us, v, h1, h2, h3, h4.trans (he.grow hO hB (Ne.symm hne)), fun q hq hs => ?_⟩
 rw [<- h5 q hq hs];refine he.cell _ fun i' hi => ?_
 have hii : i ≠ i' := fun e => hne (by rw [hi, e])
 have key : ∀ a b, a < b -> c.ez * a + c.ez <= c.ez * b := fun a b hab => by
  have : c.ez * a + c.ez = c.ez * (a + 1) := by rw [Nat.mul_add, Nat.mul_one]
  rw [this]; exact Nat.mul_le_mul_left _ hab
 rcases Nat.lt_or_gt_of_ne hii with hlt | hgt
 ·left; have := key _ _ hlt; omega
 ·right; have := key _ _ hgt; omega
theorem WS.eff (hO : c.Ok) (hB : c.Base ob w) (h : c.WS i fl t s d g w ob) (he : c.Eff k ob ob' w w') (hne : k ≠ c.l0 + i) : c.WS i fl t s d g w' ob' := by
 cases h with
 | run h1 h2 => exact .run h1 (h2.trans (he.grow hO hB (Ne.symm hne)))
 | kit h1 h2 => exact .kit (h1.rely (he.rw_ hO hne)) (h2.eff hO hB he hne)
theorem WS.status (h : c.WS i fl t s d g w ob) : g.status = .running \/ g.status = .finished := by
 cases h with
 | run h1 _ => exact .inl (h1.running fun _ _ x => x.1)
 | kit h1 _ => exact h1.status
theorem WS.woken (h : c.WS i fl t s d g w ob) (a a' : Goroutine) (w' : World) : Go.Conc.woken c.P a a' w' g = g := by
 unfold Go.Conc.woken;split
 ·exact again_running _ h.status
 ·rfl
theorem MS.eff (hO : c.Ok) (hB : c.Base ob w) (h : c.MS tag j t d g w ob) (he : c.Eff k ob ob' w w') (hne : k ≠ 0) : c.MS tag j t d g w' ob' := by
 have hg := he.grow hO hB (Ne.symm hne)
 cases h with
 | toAdd hj h1 h2 => exact .toAdd hj h1 (h2.trans hg)
 | kd F hj h1 h2 h3 => exact .kd F hj (LibT.rely h1 he.rl) h2 (h3.trans hg)
 | a1 F hj h1 h2 h3 => exact .a1 F hj (LibT.rely h1 he.rl) h2 (h3.trans hg)
 | ke F hj h1 h2 h3 => exact .ke F hj (LibT.rely h1 he.rl) h2 (h3.trans hg)
 | back F hj h1 h2 h3 => exact .back F hj (LibT.rely h1 he.rl) h2 (h3.trans hg)
 | toGo hj h1 h2 => exact .toGo hj h1 (h2.trans hg)
 | toWait h1 h2 => exact .toWait h1 (h2.trans hg)
 | wkd A hA h1 => exact .wkd A hA (LibT.rely h1 he.rl)
 | anch A hA h1 => exact .anch A hA (LibT.rely h1 he.rl)
 | w1 A hA h1 => exact .w1 A hA (LibT.rely h1 he.rl)
 | w2 A hA h1 => exact .w2 A hA (LibT.rely h1 he.rl)
 | w3 h1 => exact .w3 (LibT.rely h1 he.rl)
 | blk h1 => exact .blk fun w₁ r => h1 w₁ (RL.tr _ _ _ he.rl r)
 | w4 h1 => exact .w4 (LibT.rely h1 he.rl)
 | wke h1 => exact .wke (LibT.rely h1 he.rl)
 | acq h1 => exact .acq (LibT.rely h1 he.rl)
end Cw
end Go.SX
namespace Go.SX
open Go Go.Conc
open Go.ConcN (PermW RelBy ShN WgLive PayAt Has RW DWs AtR0 WSit CTag WD EvW OkW upd upd_same upd_ne sumTo AsideCell get_map_set get_map_set_same Deaf_absent Deaf_still)
open Go.ConcR (KK WgAt stA smA rd wr mk Bk DC0)
open Go.Conc (NoRelease)
namespace Cw
variable [Go.ConcR.Payload] [Level] (c : Cw)
def Sh : Loc -> Prop := fun l => ∃ a, l = .cell a /\ (a.block = c.Wg \/ a.block = c.mt)
def Rd : Loc -> Prop := fun l => ∃ a, l = .cell a /\ a.block < c.s0 /\ c.ob0 a.block = .sh
def ow (ob : Nat -> Ow) (j : Nat) (a : Addr) : Ow := if a.block = c.C then .of (if a.off / c.ez < j then c.l0 + a.off / c.ez else 0) else ob a.block
def Own (ob : Nat -> Ow) (j B k : Nat) : Loc -> Prop := fun l => ∃ a, l = .cell a /\ a.block < B /\ c.ow ob j a = .of k
structure Cm (ob : Nat -> Ow) (j : Nat) (gs : Array Goroutine) (w : World) (t : Trace) (D : Nat -> WD) (ts : List Tr) (fl : Nat -> Bool) (q : Nat -> Nat) (d0 : Nat) : Prop where
 size : gs.size = c.l0 + j
 len : ts.length = j
 old : ∀ i g, 0 < i -> i < c.l0 -> gs[i]? = some g -> QuitsD c.P (q i) (Deaf t i) g
 wk : ∀ i, i < j -> ∃ g tr, gs[c.l0 + i]? = some g /\ ts[i]? = some tr /\ c.WS i (fl i) tr (D i).stage (D i).deaf g w ob
 ct : CrT c.Shun c.Sh (c.Own ob j w.heap.size) c.Rd c.l0 j w.heap.size t
 tl : c.T0 <= t.size
 norel : ∀ i, c.T0 <= i -> t.act? i ≠ some (.mark (.release (stA c.Wg)))
 deaf0 : Deaf t 0 = d0
 deafW : ∀ i, i < j -> Deaf t (c.l0 + i) = (D i).deaf
 rel : ∀ i, i < j -> (D i).stage <= 6 -> ∃ r, c.T0 <= r /\ Rel2 c.Wg t (c.l0 + i) r
 pay : c.Pay w
 vol : c.VolOk w
 base : c.Base ob w
 who : ∀ b, b < w.heap.size -> ∀ k, ob b = .of k -> AtWork c.l0 j k
variable {c : Cw} {ob ob' : Nat -> Ow} {w w' : World} {i d d0 j k : Nat} {gs : Array Goroutine} {t : Trace} {D : Nat -> WD} {ts : List Tr} {fl : Nat -> Bool} {q : Nat -> Nat}
theorem asunder (hO : c.Ok) (hB : c.Base ob w) (B : Nat) : Asunder c.Sh (c.Own ob j B) c.Rd := by
 have low : ∀ (a : Addr) (k : Nat), a.block < c.s0 -> c.ow ob j a = .of k -> a.block = c.C := fun a k hb h => by
  unfold ow at h;split at h
  ·assumption
  ·rw [hB.ob0 _ hb] at h; exact absurd h (hO.ob _ _)
 refine ⟨fun k k' l ⟨a, h1, _, h2⟩ ⟨a', h1', _, h2'⟩ => ?_, fun k l ⟨a, h1, _, h2⟩ ⟨a', h1', h3, h4⟩ => ?_, fun k l ⟨a, h1, _, h2⟩ ⟨a', h1', h3⟩ => ?_, fun l ⟨a, h1, h2, h3⟩ ⟨a', h1', h4⟩ => ?_⟩
 ·subst h1;cases h1'
  rw [h2] at h2';exact Ow.of.inj h2'
 ·subst h1;cases h1'
  have := low a k h3 h2
  rw [this, hO.obc] at h4;cases h4
 ·subst h1;cases h1'
  rcases h3 with h3 | h3
  ·have := low a k (by rw [h3]; exact hO.wg) h2
   exact hO.cw (this.symm.trans h3)
  ·have := low a k (by rw [h3]; exact hO.mt) h2
   exact hO.mc (h3.symm.trans this)
 ·subst h1;cases h1'
  rcases h4 with h4 | h4
  ·rw [h4, hO.obw] at h3; cases h3
  ·rw [h4, hO.obm] at h3; cases h3
theorem AtWork.mono {l0 j k : Nat} (h : AtWork l0 j k) : AtWork l0 (j + 1) k := h.imp id fun h => ⟨h.1, by omega⟩
theorem Eff.who (he : c.Eff k ob ob' w w') (hk : AtWork c.l0 j k) (h : ∀ b, b < w.heap.size -> ∀ k, ob b = .of k -> AtWork c.l0 j k) : ∀ b, b < w'.heap.size -> ∀ k, ob' b = .of k -> AtWork c.l0 j k := fun b hb k' hk' => by
 rcases Nat.lt_or_ge b w.heap.size with hlt | hge
 ·exact h b hlt k' ((he.ob b hlt) ▸ hk')
 ·rw [he.obn b hge hb] at hk';cases hk'
  exact hk
theorem Cm.ct_step (hO : c.Ok) (h : c.Cm ob j gs w t D ts fl q d0) (he : c.Eff k ob ob' w w') (hk : AtWork c.l0 j k) {fn : FuncId} {pos : String} {es : Array Event}
  (hf : ∀ e ∈ es, ∀ x, (MemAct.ofEvent e).touch? = some x -> Fine c.Sh (c.Own ob' j w'.heap.size) c.Rd k x) (hl : ∀ e ∈ es, ∀ x, (MemAct.ofEvent e).touch? = some x -> x.loc.low w'.heap.size) :
  CrT c.Shun c.Sh (c.Own ob' j w'.heap.size) c.Rd c.l0 j w'.heap.size (t ++ MemOp.ofEvents k fn pos es) := by
 have h1 : CrT c.Shun c.Sh (c.Own ob' j w'.heap.size) c.Rd c.l0 j w.heap.size t := h.ct.give fun k' hk' l ⟨a, ha, hb, hw⟩ => by
  rcases Nat.lt_or_ge a.block w.heap.size with hlt | hge
  ·refine .inl ⟨a, ha, hlt, ?_⟩
   unfold ow at hw ⊢;rw [he.ob _ hlt] at hw;exact hw
  ·exact .inr ⟨a, ha, hge⟩
 refine h1.app (asunder hO (h.base.eff hO he) _) he.size hk (fun op hop => ofEvents_g op hop) (fun op hop x hx => ?_) (fun op hop => ?_)
 ·obtain ⟨e, hm, rfl⟩ := Go.Conc.mem_ofEvents hop;exact hf e hm x hx
 ·obtain ⟨e, hm, rfl⟩ := Go.Conc.mem_ofEvents hop;exact fun x hx => hl e hm x hx
theorem norel_app {u : Trace} (h : ∀ i, c.T0 <= i -> t.act? i ≠ some (.mark (.release (stA c.Wg)))) (hu : ∀ op ∈ u, op.act ≠ .mark (.release (stA c.Wg))) : ∀ i, c.T0 <= i -> (t ++ u).act? i ≠ some (.mark (.release (stA c.Wg))) := fun i hi e => by
 obtain ⟨op, ho, hoa⟩ := Option.map_eq_some_iff.1 e;rcases getElem?_append_cases ho with ⟨_, ho'⟩ | ⟨_, hou⟩
 ·exact h i hi (by rw [act?_of ho', hoa])
 ·exact hu op hou hoa
theorem norel_step (h : ∀ i, c.T0 <= i -> t.act? i ≠ some (.mark (.release (stA c.Wg)))) {fn : FuncId} {pos : String} {es : Array Event} (hnr : ∀ e ∈ es, e.loc ≠ .mark (.release (stA c.Wg))) : ∀ i, c.T0 <= i -> (t ++ MemOp.ofEvents k fn pos es).act? i ≠ some (.mark (.release (stA c.Wg))) := norel_app h (Go.ConcN.norel_of hnr)
theorem Cm.stepK (hO : c.Ok) (h : c.Cm ob j gs w t D ts fl q d0) (hi : i < j) {g g' : Goroutine} {fn : FuncId} {pos : String} {es : Array Event} {fl' : Bool} {t' : Tr} {s' d' : Nat}
  (he : c.Eff (c.l0 + i) ob ob' w w') (hs' : c.WS i fl' t' s' d' g' w' ob')
  (hf : ∀ e ∈ es, ∀ x, (MemAct.ofEvent e).touch? = some x -> Fine c.Sh (c.Own ob' j w'.heap.size) c.Rd (c.l0 + i) x) (hl : ∀ e ∈ es, ∀ x, (MemAct.ofEvent e).touch? = some x -> x.loc.low w'.heap.size)
  (hnr : ∀ e ∈ es, e.loc ≠ .mark (.release (stA c.Wg))) (hd : deafBehind (D i).deaf es = d') (hrel : s' <= 6 -> ∃ r, c.T0 <= r /\ Rel2 c.Wg (t ++ MemOp.ofEvents (c.l0 + i) fn pos es) (c.l0 + i) r) :
  c.Cm ob' j ((gs.map (woken c.P g g' w')).setIfInBounds (c.l0 + i) g') w' (t ++ MemOp.ofEvents (c.l0 + i) fn pos es) (upd D i ⟨s', 0, d'⟩) (ts.set i t') (upd fl i fl') q d0 := by
 have hl0 := hO.l0
 refine ⟨by simp [h.size], by simp [h.len], fun i' x hp hlt hx => ?_, fun i' hi' => ?_, h.ct_step hO he (.inr ⟨by omega, by omega⟩) hf hl, by have := h.tl; simp; omega, norel_step h.norel hnr, ?_, fun i' hi' => ?_, fun i' hi' hst => ?_, he.pay h.pay, he.vol h.vol, h.base.eff hO he, he.who (.inr ⟨by omega, by omega⟩) h.who⟩
 ·rw [get_map_set _ _ _ _ (by omega)] at hx
  obtain ⟨y, hy, rfl⟩ := Option.map_eq_some_iff.1 hx;have hq := h.old i' y hp hlt hy
  rw [woken_quitsD hq, Deaf_other t (g' := c.l0 + i) (by omega) _ ofEvents_g]
  exact hq
 ·by_cases e : i' = i
  ·subst e;exact ⟨g', t', get_map_set_same _ _ _ (by rw [h.size]; omega), by simp [h.len, hi], by simp only [upd_same]; exact hs'⟩
  ·obtain ⟨x, tr, hx, ht, hsx⟩ := h.wk i' hi';refine ⟨x, tr, by rw [get_map_set _ _ _ _ (by omega), hx, Option.map_some, hsx.woken], by rw [List.getElem?_set_ne (by omega)]; exact ht, ?_⟩
   rw [upd_ne D _ e, upd_ne fl _ e];exact hsx.eff hO h.base he (by omega)
 ·rw [Deaf_other t (g' := c.l0 + i) (by omega) _ ofEvents_g, h.deaf0]
 ·by_cases e : i' = i
  ·subst e; rw [Deaf_own, h.deafW i' hi', upd_same]; exact hd
  ·rw [Deaf_other t (g' := c.l0 + i) (by omega) _ ofEvents_g, h.deafW i' hi', upd_ne D _ e]
 ·by_cases e : i' = i
  ·subst e; rw [upd_same] at hst; exact hrel hst
  ·rw [upd_ne D _ e] at hst;obtain ⟨r, hT, hr⟩ := h.rel i' hi' hst;exact ⟨r, hT, hr.appNot fun op hop => by rw [ofEvents_g op hop]; omega⟩
theorem Cm.step0 (hO : c.Ok) (h : c.Cm ob j gs w t D ts fl q d0) {g g' : Goroutine} {fn : FuncId} {pos : String} {es : Array Event}
  (he : c.Eff 0 ob ob' w w')
  (hf : ∀ e ∈ es, ∀ x, (MemAct.ofEvent e).touch? = some x -> Fine c.Sh (c.Own ob' j w'.heap.size) c.Rd 0 x) (hl : ∀ e ∈ es, ∀ x, (MemAct.ofEvent e).touch? = some x -> x.loc.low w'.heap.size)
  (hnr : ∀ e ∈ es, e.loc ≠ .mark (.release (stA c.Wg))) :
  c.Cm ob' j ((gs.map (woken c.P g g' w')).setIfInBounds 0 g') w' (t ++ MemOp.ofEvents 0 fn pos es) D ts fl q (deafBehind d0 es) := by
 have hl0 := hO.l0
 refine ⟨by simp [h.size], h.len, fun i' x hp hlt hx => ?_, fun i' hi' => ?_, h.ct_step hO he (.inl rfl) hf hl, by have := h.tl; simp; omega, norel_step h.norel hnr, by rw [Deaf_own, h.deaf0], fun i' hi' => ?_, fun i' hi' hst => ?_, he.pay h.pay, he.vol h.vol, h.base.eff hO he, he.who (.inl rfl) h.who⟩
 ·rw [get_map_set _ _ _ _ (by omega)] at hx
  obtain ⟨y, hy, rfl⟩ := Option.map_eq_some_iff.1 hx;have hq := h.old i' y hp hlt hy
  rw [woken_quitsD hq, Deaf_other t (g' := 0) (by omega) _ ofEvents_g]
  exact hq
 ·obtain ⟨x, tr, hx, ht, hsx⟩ := h.wk i' hi';exact ⟨x, tr, by rw [get_map_set _ _ _ _ (by omega), hx, Option.map_some, hsx.woken], ht, hsx.eff hO h.base he (by omega)⟩
 ·rw [Deaf_other t (g' := 0) (by omega) _ ofEvents_g, h.deafW i' hi']
 ·obtain ⟨r, hT, hr⟩ := h.rel i' hi' hst;exact ⟨r, hT, hr.appNot fun op hop => by rw [ofEvents_g op hop]; omega⟩
theorem Cm.at (hO : c.Ok) (h : c.Cm ob j gs w t D ts fl q d0) (d : Nat) : c.Cm ob j gs (w.at d) t D ts fl q d0 :=
 { h with wk := fun i hi => let ⟨g, tr, h1, h2, h3⟩ := h.wk i hi; ⟨g, tr, h1, h2, h3.eff hO h.base (Eff.at ob 0 w d) (by have := hO.l0; omega)⟩, base := ⟨h.base.s0, h.base.os, h.base.tape, h.base.output, h.base.ob0, h.base.new, h.base.base⟩ }
theorem Cm.stepOld (hO : c.Ok) (h : c.Cm ob j gs w t D ts fl q d0) {m r : Nat} (hm : 0 < m) (hlt : m < c.l0) {g g' : Goroutine} {fn : FuncId} {pos : String} {es : Array Event}
  (hes : ∀ e ∈ es, Event.mute e = true) (hq' : QuitsD c.P r (deafBehind (Deaf t m) es) g') :
  c.Cm ob j ((gs.map (woken c.P g g' w)).setIfInBounds m g') w (t ++ MemOp.ofEvents m fn pos es) D ts fl (upd q m r) d0 := by
 refine ⟨by simp [h.size], h.len, fun i' x hp hlt' hx => ?_, fun i' hi' => ?_, ?_, by have := h.tl; simp; omega, norel_step h.norel fun e he => ?_, ?_, fun i' hi' => ?_, fun i' hi' hst => ?_, h.pay, h.vol, h.base, h.who⟩
 ·by_cases e : i' = m
  ·subst e;rw [get_map_set_same _ _ _ (by rw [h.size]; omega)] at hx
   cases hx
   rw [Deaf_own, upd_same];exact hq'
  ·rw [get_map_set _ _ _ _ (Ne.symm e)] at hx;obtain ⟨y, hy, rfl⟩ := Option.map_eq_some_iff.1 hx;have hq := h.old i' y hp hlt' hy
   rw [woken_quitsD hq, Deaf_other t (g' := m) (Ne.symm e) _ ofEvents_g, upd_ne q _ e];exact hq
 ·obtain ⟨x, tr, hx, ht, hsx⟩ := h.wk i' hi';exact ⟨x, tr, by rw [get_map_set _ _ _ _ (by omega), hx, Option.map_some, hsx.woken], ht, hsx⟩
 ·refine h.ct.still ofEvents_g (by omega) (fun op hop => ?_)
  obtain ⟨e, he, rfl⟩ := Go.Conc.mem_ofEvents hop;exact touch_mute (hes e he)
 ·intro hl;have := hes e he
  obtain ⟨loc, wr, sy⟩ := e;simp only at hl
  subst hl;simp [Event.mute] at this
 ·rw [Deaf_other t (g' := m) (by omega) _ ofEvents_g, h.deaf0]
 ·rw [Deaf_other t (g' := m) (by omega) _ ofEvents_g, h.deafW i' hi']
 ·obtain ⟨r, hT, hr⟩ := h.rel i' hi' hst;exact ⟨r, hT, hr.appNot fun op hop => by rw [ofEvents_g op hop]; omega⟩
def handed (ob : Nat -> Ow) (k : Nat) : Nat -> Ow := fun b => match ob b with
 | .of 0 => .of k
 | x => x
theorem handed_of {b k' : Nat} (h : handed ob k b = .of k') : (ob b = .of k' /\ k' ≠ 0) \/ (ob b = .of 0 /\ k' = k) := by
 unfold handed at h;split at h
 ·rename_i e;cases h
  exact .inr ⟨e, rfl⟩
 ·rename_i hn;refine .inl ⟨h, fun e => hn (by rw [h, e])⟩
theorem gk_handed {s k' : Nat} (hk : k' ≠ 0) (hk' : k' ≠ k) : gk (handed ob k) s k' = gk ob s k' := by
 funext b
 unfold gk handed;split
 ·rfl
 ·cases e : ob b with
  | of m =>
   by_cases e0 : m = 0
   ·subst e0; simp [Ne.symm hk, Ne.symm hk']
   ·rcases m with _ | m
    ·exact absurd rfl e0
    ·rfl
  | _ => rfl
theorem view_child (hk : k ≠ 0) (hn : ∀ b, b < w.heap.size -> ob b ≠ .of k) : view (handed ob k) k w = view ob 0 w := by
 have : gk (handed ob k) w.heap.size k = gk ob w.heap.size 0 := by
  funext b
  unfold gk handed;split
  ·rfl
  ·rename_i hb;have := hn b (by omega)
   cases e : ob b with
   | of m =>
    rcases m with _ | m
    ·simp
    ·have : m + 1 ≠ k := fun e' => this (by rw [e, e'])
     simp [this]
   | _ => rfl
 unfold view;rw [this]
def u0 (c : Cw) : World := view c.ob0 0 c.w0
theorem Base.grow (hO : c.Ok) (h : c.Base ob w) (k : Nat) : Grow (view c.ob0 k c.w0) (view ob k w) := by
 refine view_grow h.s0 h.os h.tape h.output fun b hb => ⟨?_, fun hk => ?_⟩
 ·unfold gk;have h3 : c.w0.heap.size <= w.heap.size := h.s0
  have h1 : ¬ w.heap.size <= b := by omega
  have h2 : ¬ c.w0.heap.size <= b := by omega
  simp only [h1, h2, if_false, h.ob0 b hb]
 ·have h2 : ¬ c.w0.heap.size <= b := by omega
  unfold gk at hk;simp only [h2, if_false] at hk;refine h.base b hb (fun e => ?_) (fun e => ?_) (fun e => ?_)
  ·rw [e, hO.obw] at hk; exact hk rfl
  ·rw [e, hO.obc] at hk; exact hk rfl
  ·rw [e, hO.obm] at hk; exact hk rfl
theorem WS.seen {fl : Bool} {tr : Tr} {s d : Nat} {g : Goroutine} (h : c.WS i fl tr s d g w ob) (hv : view ob' (c.l0 + i) w = view ob (c.l0 + i) w) : c.WS i fl tr s d g w ob' := by
 cases h with
 | run z1 z2 => exact .run z1 (by rw [hv]; exact z2)
 | kit z1 z2 =>
  obtain ⟨us, v, y1, y2, y3, y4, y5⟩ := z2;exact .kit z1 ⟨us, v, y1, y2, y3, by rw [hv]; exact y4, y5⟩
theorem Cm.spawn (hO : c.Ok) (h : c.Cm ob j gs w t D ts fl q 0) {a' child : Goroutine} {x y : MemOp} {tr : Tr} (hx : x.g = 0 /\ x.act = .go (c.l0 + j)) (hy : y.g = c.l0 + j /\ y.act = .start)
  (hc : c.WS j true tr 7 0 child w (handed ob (c.l0 + j))) :
  c.Cm (handed ob (c.l0 + j)) (j + 1) ((gs.setIfInBounds 0 a').push child) w (t ++ #[x, y]) (upd D j ⟨7, 0, 0⟩) (ts ++ [tr]) (upd fl j true) q 0 := by
 have hl0 := hO.l0
 have hm : ∀ op ∈ #[x, y], op = x \/ op = y := by intro op hop; simpa using hop
 have hst : ∀ op ∈ #[x, y], op.act ≠ .mark .disable /\ op.act ≠ .mark .enable := by
  intro op hop;rcases hm op hop with rfl | rfl
  ·rw [hx.2]; exact ⟨by simp, by simp⟩
  ·rw [hy.2]; exact ⟨by simp, by simp⟩
 have low : ∀ b, b < c.s0 -> handed ob (c.l0 + j) b = ob b := fun b hb => by
  unfold handed;split
  ·rename_i e;rw [h.base.ob0 b hb] at e;exact absurd e (hO.ob _ _)
  ·rfl
 have push : ∀ k, k < gs.size -> ((gs.setIfInBounds 0 a').push child)[k]? = (gs.setIfInBounds 0 a')[k]? := fun k hk => by
  rw [Array.getElem?_push_lt (by simpa using hk), <- Array.getElem?_eq_getElem]
 refine ⟨by simp [h.size]; omega, by simp [h.len], fun i' g hp hlt hg => ?_, fun i' hi' => ?_, ?_, by have := h.tl; simp; omega, norel_app h.norel fun op hop => ?_, by rw [Deaf_still t 0 _ hst, h.deaf0], fun i' hi' => ?_, fun i' hi' hs => ?_, h.pay, h.vol, ?_, fun b hb k hk => ?_⟩
 ·rw [push _ (by rw [h.size]; omega), Array.getElem?_setIfInBounds_ne (by omega)] at hg
  rw [Deaf_still t _ _ hst];exact h.old i' g hp hlt hg
 ·rcases Nat.lt_or_ge i' j with hlt | hge
  ·obtain ⟨g, tr', h1, h2, h3⟩ := h.wk i' hlt;refine ⟨g, tr', by rw [push _ (by rw [h.size]; omega), Array.getElem?_setIfInBounds_ne (by omega)]; exact h1, by rw [List.getElem?_append_left (by rw [h.len]; exact hlt)]; exact h2, ?_⟩
   rw [upd_ne D _ (by omega), upd_ne fl _ (by omega)]
   have hv : view (handed ob (c.l0 + j)) (c.l0 + i') w = view ob (c.l0 + i') w := by
    unfold view;rw [gk_handed (by omega) (by omega)]
   exact h3.seen hv
  ·obtain rfl : i' = j := by omega
   refine ⟨child, tr, ?_, by rw [List.getElem?_append_right (by rw [h.len]; exact Nat.le_refl _), h.len]; simp, by simp only [upd_same]; exact hc⟩
   rw [<- h.size];have : gs.size = (gs.setIfInBounds 0 a').size := by simp
   rw [this, Array.getElem?_push_size]
 ·refine h.ct.fork hx hy h.deaf0 (fun k hk l ⟨a, ha, hb, hw⟩ => ⟨a, ha, hb, ?_⟩) (fun l ⟨a, ha, hb, hw⟩ => ⟨a, ha, hb, ?_⟩)
  ·unfold ow at hw ⊢;split at hw
   ·rename_i hC;rw [if_pos hC];simp only [Ow.of.injEq] at hw ⊢;by_cases e1 : a.off / c.ez < j
    ·rw [if_pos e1];rw [if_pos (by omega)] at hw
     exact hw
    ·rw [if_neg e1];by_cases e2 : a.off / c.ez < j + 1
     ·rw [if_pos e2] at hw;rcases hk with rfl | ⟨_, hk⟩
      ·omega
      ·omega
     ·rw [if_neg e2] at hw;exact hw
   ·rename_i hC;rw [if_neg hC];rcases handed_of hw with ⟨z, _⟩ | ⟨_, rfl⟩
    ·exact z
    ·rcases hk with hk | ⟨_, hk⟩ <;> omega
  ·unfold ow at hw ⊢;split at hw
   ·rename_i hC;rw [if_pos hC];simp only [Ow.of.injEq] at hw ⊢;by_cases e1 : a.off / c.ez < j + 1
    ·rw [if_pos e1] at hw;rw [if_neg (by omega)]
    ·rw [if_neg e1] at hw;omega
   ·rename_i hC;rw [if_neg hC];rcases handed_of hw with ⟨z, _⟩ | ⟨z, _⟩
    ·have := h.who _ hb _ z
     rcases this with hk | ⟨_, hk⟩ <;> omega
    ·exact z
 ·rcases hm op hop with rfl | rfl
  ·rw [hx.2]; simp
  ·rw [hy.2]; simp
 ·rw [Deaf_still t _ _ hst];rcases Nat.lt_or_ge i' j with hlt | hge
  ·rw [h.deafW i' hlt, upd_ne D _ (by omega)]
  ·obtain rfl : i' = j := by omega
   rw [upd_same];exact Deaf_absent fun a op ha e => by have := h.ct.gs op (Array.mem_of_getElem? ha); omega
 ·rcases Nat.lt_or_ge i' j with hlt | hge
  ·rw [upd_ne D _ (by omega)] at hs
   obtain ⟨r, hT, hr⟩ := h.rel i' hlt hs;refine ⟨r, hT, hr.appNot fun op hop => ?_⟩
   rcases hm op hop with rfl | rfl
   ·rw [hx.1]; omega
   ·rw [hy.1]; omega
  ·obtain rfl : i' = j := by omega
   rw [upd_same] at hs;simp at hs
 ·exact ⟨h.base.s0, h.base.os, h.base.tape, h.base.output, fun b hb => (low b hb).trans (h.base.ob0 b hb), fun b hb hb' => by
   obtain ⟨k, hk⟩ := h.base.new b hb hb';unfold handed;rw [hk];rcases k with _ | k
   ·exact ⟨_, rfl⟩
   ·exact ⟨_, rfl⟩, h.base.base⟩
 ·rcases handed_of hk with ⟨z, _⟩ | ⟨_, rfl⟩
  ·exact AtWork.mono (h.who b hb k z)
  ·exact .inr ⟨by omega, by omega⟩
end Cw
end Go.SX
namespace Go.SX
open Go Go.Conc
open Go.ConcN (PermW RelBy ShN WgLive PayAt Has RW DWs AtR0 WSit CTag WD EvW OkW upd upd_same upd_ne sumTo AsideCell get_map_set get_map_set_same Deaf_absent Deaf_still)
open Go.ConcR (KK WgAt stA smA rd wr mk Bk DC0)
open Go.Conc (NoRelease)
theorem wrap_i64 (n : Int) : IntKind.i64.min <= IntKind.i64.wrap n /\ IntKind.i64.wrap n <= IntKind.i64.max := by
 have h : IntKind.i64.min = -9223372036854775808 /\ IntKind.i64.max = 9223372036854775807 := by decide
 rw [h.1, h.2, IntKind.wrap_i64];omega
namespace Cw
variable [Go.ConcR.Payload] [Level] {c : Cw}
structure Says (c : Cw) (ob : Nat -> Ow) (j B k : Nat) (es : Array Event) : Prop where
 fine : ∀ e ∈ es, ∀ x, (MemAct.ofEvent e).touch? = some x -> Fine c.Sh (c.Own ob j B) c.Rd k x
 low : ∀ e ∈ es, ∀ x, (MemAct.ofEvent e).touch? = some x -> x.loc.low B
 norel : ∀ e ∈ es, e.loc ≠ .mark (.release (stA c.Wg))
structure Quite (es : Array Event) : Prop where
 dis : ∀ e ∈ es, e.loc ≠ .mark .disable /\ e.loc ≠ .mark .enable
variable {ob ob' : Nat -> Ow} {w w' : World} {j k : Nat} {M : Nat -> Kd} {main : Bool} {Stop : Goroutine -> World -> Prop} {g : Goroutine}
theorem Base.gk_off (hO : c.Ok) (h : c.Base ob w) (k : Nat) : gk ob w.heap.size k c.Wg = .off /\ gk ob w.heap.size k c.C = .off /\ gk ob w.heap.size k c.mt = .off := by
 have h1 := h.s0
 have hw := hO.wg
 have hc := hO.cc
 have hm := hO.mt
 unfold gk;rw [if_neg (by omega), if_neg (by omega), if_neg (by omega), h.ob0 _ hw, h.ob0 _ hc, h.ob0 _ hm, hO.obw, hO.obc, hO.obm]
 exact ⟨rfl, rfl, rfl⟩
theorem cell_block {w w₁ : World} {b : Nat} (e : w₁.heap[b]? = w.heap[b]?) (o : Nat) : w₁.cell? ⟨b, o, none⟩ = w.cell? ⟨b, o, none⟩ := by simp [World.cell?, e]
theorem Eff.of_stood (hO : c.Ok) (hB : c.Base ob w) (h : Stood (gk ob w.heap.size k) w w') : c.Eff k ob (owned ob k w.heap.size w'.heap.size) w w' /\ w'.heap[c.Wg]? = w.heap[c.Wg]? := by
 obtain ⟨g1, g2, g3⟩ := hB.gk_off hO k;have s0 := hB.s0
 have e1 := h.off c.Wg (Nat.lt_of_lt_of_le hO.wg s0) (by rw [g1]; decide)
 have e2 := h.off c.C (Nat.lt_of_lt_of_le hO.cc s0) (by rw [g2]; decide)
 have e3 := h.off c.mt (Nat.lt_of_lt_of_le hO.mt s0) (by rw [g3]; decide)
 refine ⟨⟨h.size, h.os, h.tape, h.output, fun b hb _ _ _ hk => h.off b hb fun hg => ?_, fun ⟨st, sm, hl⟩ => ⟨st, sm, hl.of_block e1⟩, fun ⟨cs, q1, q2⟩ => ⟨cs, e2.trans q1, q2⟩, fun o _ => cell_block e2 o, fun ⟨cs, q1, q2⟩ => ⟨cs, e3.trans q1, q2⟩, fun b hb => ?_, fun b hb hb' => ?_⟩, e1⟩
 ·unfold gk at hg;rw [if_neg (by omega)] at hg
  cases e : ob b with
  | of m =>
   rw [e] at hg hk;by_cases hm : m = k
   ·exact hk (by rw [hm])
   ·simp [hm] at hg
  | sh => rw [e] at hg; cases hg
  | vol => rw [e] at hg; cases hg
  | off => rw [e] at hg; cases hg
 ·unfold owned; rw [if_neg (by omega)]
 ·unfold owned; rw [if_pos ⟨hb, hb'⟩]
theorem Says.of_evOk (hO : c.Ok) (hB : c.Base ob w) (hs : w.heap.size <= w'.heap.size) {es : Array Event} (h : ∀ e ∈ es, EvOk (gk ob w.heap.size k) w' e) : c.Says (owned ob k w.heap.size w'.heap.size) j w'.heap.size k es /\ Quite es := by
 obtain ⟨_, g2, _⟩ := hB.gk_off hO k;have s0 := hB.s0
 refine ⟨⟨fun e he x hx => ?_, fun e he x hx => ?_, fun e he => ?_⟩, ⟨fun e he => ?_⟩⟩
 ·rcases h e he with ⟨a, h1, h2, h3, h4⟩ | h1 | ⟨f, h1⟩
  ·obtain ⟨q1, q2, _⟩ := touch_ofEvent hx (fun b => by rw [h1]; simp)
   rw [h1] at q1;have hC : a.block ≠ c.C := fun e => h3 (by rw [e]; exact g2)
   rcases Nat.lt_or_ge a.block w.heap.size with hlt | hge
   ·unfold gk at h3 h4;rw [if_neg (by omega)] at h3 h4
    cases eo : ob a.block with
    | of m =>
     rw [eo] at h3;by_cases hm : m = k
     ·refine .inr (.inl ⟨a, q1, h2, ?_⟩)
      unfold ow owned;rw [if_neg hC, if_neg (by omega), eo, hm]
     ·simp [hm] at h3
    | sh =>
     rw [eo] at h4;have hb0 : a.block < c.s0 := by
      rcases Nat.lt_or_ge a.block c.s0 with z | z
      ·exact z
      ·obtain ⟨k', hk'⟩ := hB.new _ z hlt;rw [hk'] at eo; cases eo
     refine .inr (.inr ⟨⟨a, q1, hb0, by rw [<- hB.ob0 _ hb0]; exact eo⟩, ?_⟩)
     rw [q2];cases hw : e.write with
     | false => rfl
     | true => exact absurd (h4 hw) (by simp)
    | vol => rw [eo] at h3; exact absurd rfl h3
    | off => rw [eo] at h3; exact absurd rfl h3
   ·refine .inr (.inl ⟨a, q1, h2, ?_⟩)
    unfold ow owned;rw [if_neg hC, if_pos ⟨hge, h2⟩]
  ·obtain ⟨loc, wr, sy⟩ := e;simp only at h1
   subst h1;simp [MemAct.ofEvent, MemAct.touch?] at hx
  ·obtain ⟨loc, wr, sy⟩ := e;simp only at h1
   subst h1;simp [MemAct.ofEvent, MemAct.touch?] at hx
 ·exact touch_low (evL_of (Shun := fun _ => False) (h e he) (fun _ q => q.elim)).2.2.2 hx
 ·rcases h e he with ⟨a, h1, _⟩ | h1 | ⟨f, h1⟩ <;> rw [h1] <;> simp
 ·rcases h e he with ⟨a, h1, _⟩ | h1 | ⟨f, h1⟩ <;> rw [h1] <;> simp
theorem Eff.of_vol (hO : c.Ok) (hB : c.Base ob w) {a : Addr} (ha : Level.vol a) {n : Int} (hn : IntKind.i64.min <= n /\ n <= IntKind.i64.max) : c.Eff k ob ob w (w.setCell a (.int .i64 n)) /\ (w.setCell a (.int .i64 n)).heap[c.Wg]? = w.heap[c.Wg]? := by
 obtain ⟨h1, h2, h3⟩ := (hO.vol a).1 ha;have blk : ∀ b, b ≠ c.mt -> (w.setCell a (.int .i64 n)).heap[b]? = w.heap[b]? := fun b hb => by
  unfold World.setCell;simp only [Array.getElem?_modify]
  rw [if_neg (by rw [h1]; exact Ne.symm hb)]
 have e1 := blk c.Wg (Ne.symm hO.mw)
 have e2 := blk c.C (Ne.symm hO.mc)
 have hsz : (w.setCell a (.int .i64 n)).heap.size = w.heap.size := by simp [World.setCell]
 refine ⟨⟨Nat.le_of_eq hsz.symm, rfl, rfl, rfl, fun b _ _ _ hm _ => blk b hm, fun ⟨st, sm, hl⟩ => ⟨st, sm, hl.of_block e1⟩, fun ⟨cs, q1, q2⟩ => ⟨cs, e2.trans q1, q2⟩, fun o _ => cell_block e2 o, fun ⟨cs, q1, q2, q3⟩ => ?_, fun _ _ => rfl, fun b h1 h2 => by rw [hsz] at h2; omega⟩, e1⟩
 refine ⟨cs.setIfInBounds a.off (.int .i64 n), ?_, by simpa using q2, fun o ho => ?_⟩
 ·unfold World.setCell;simp only [Array.getElem?_modify, h1, if_true, q1, Option.map_some, h2]
  simp
 ·rw [Array.getElem?_setIfInBounds]
  by_cases e : a.off = o
  ·rw [if_pos e, if_pos (by rw [q2]; exact h3)]
   exact ⟨n, hn, rfl⟩
  ·rw [if_neg e];exact q3 o ho
theorem VolOk.at (hO : c.Ok) (h : c.VolOk w) {a : Addr} (ha : Level.vol a) : ∃ n : Int, w.cell? a = some (.int .i64 n) /\ w.frozen? a = false := by
 obtain ⟨h1, h2, h3⟩ := (hO.vol a).1 ha;obtain ⟨cs, q1, q2, q3⟩ := h;obtain ⟨n, _, hn⟩ := q3 a.off h3;refine ⟨n, ?_, ?_⟩
 ·unfold World.cell?;rw [h1, q1];simp [h2, hn]
 ·unfold World.frozen?;rw [h1, q1];simp
theorem way_step (hO : c.Ok) (hB : c.Base ob w) (hV : c.VolOk w) {f : Int -> World -> Tr} {v : World} (h : WayT c.P main Stop (.node f) g v) (hg : Grow v (view ob k w)) (j : Nat) :
  ∃ g' w' es t' ob', stepG c.P main g w = .go g' w' es /\ Tr.Sub t' (.node f) /\ WayT c.P main Stop t' g' (view ob' k w') /\ c.Eff k ob ob' w w' /\ c.Says ob' j w'.heap.size k es /\ Quite es /\ w'.heap[c.Wg]? = w.heap[c.Wg]? := by
 obtain ⟨hr, ⟨g', v', es, hl, hs, hk⟩ | ⟨a, δ, g', ha, hs, hk⟩⟩ := h
 ·obtain ⟨w', q1, q2, q3, q4⟩ := hl _ hg (gk ob w.heap.size k) w rfl (gk_fit ob k w) _ _ _ (hs _ hg);obtain ⟨e1, e2⟩ := Eff.of_stood hO hB q3;obtain ⟨s1, s2⟩ := Says.of_evOk (j := j) hO hB q3.size q4;refine ⟨_, w', _, f 0 (view ob k w), _, q1, .mk f 0 _, ?_, e1, s1, s2, e2⟩
  rw [<- view_self q3.size, q2];exact hk _ hg
 ·obtain ⟨n, hc, hf⟩ := hV.at hO ha;have hn := wrap_i64 (n + δ)
  obtain ⟨e1, e2⟩ := Eff.of_vol (k := k) hO hB ha hn;have hst := hs w n hc hf
  obtain ⟨h1, _, _⟩ := (hO.vol a).1 ha;have hsz : (w.setCell a (.int .i64 (IntKind.i64.wrap (n + δ)))).heap.size = w.heap.size := by simp [World.setCell]
  refine ⟨_, _, _, f (IntKind.i64.wrap (n + δ)) (view ob k (w.setCell a (.int .i64 (IntKind.i64.wrap (n + δ))))), ob, hst, .mk f _ _, hk _ hn _ ?_, e1, ⟨fun e he x hx => ?_, fun e he x hx => ?_, fun e he => ?_⟩, ⟨fun e he => ?_⟩, e2⟩
  ·refine hg.trans ?_
   refine view_grow (Nat.le_of_eq hsz.symm) rfl rfl rfl fun b hb => ⟨by rw [hsz], fun hk' => ?_⟩
   unfold World.setCell;simp only [Array.getElem?_modify]
   rw [if_neg (fun e => hk' (by rw [<- e, h1]; exact (hB.gk_off hO k).2.2))]
  ·simp only [List.mem_toArray, List.mem_cons, List.not_mem_nil, or_false] at he;rcases he with rfl | rfl
   ·simp only [MemAct.ofEvent, MemAct.touch?, Option.some.injEq] at hx;subst hx;exact .inl ⟨⟨a, rfl, .inr h1⟩, by simp, by simp⟩
   ·simp only [MemAct.ofEvent, MemAct.touch?, Option.some.injEq] at hx;subst hx;exact .inl ⟨⟨a, rfl, .inr h1⟩, by simp, by simp⟩
  ·have hb : a.block < (w.setCell a (.int .i64 (IntKind.i64.wrap (n + δ)))).heap.size := by rw [hsz, h1]; exact Nat.lt_of_lt_of_le hO.mt hB.s0
   simp only [List.mem_toArray, List.mem_cons, List.not_mem_nil, or_false] at he;rcases he with rfl | rfl <;> (simp only [MemAct.ofEvent, MemAct.touch?, Option.some.injEq] at hx; subst hx; exact hb)
  ·simp only [List.mem_toArray, List.mem_cons, List.not_mem_nil, or_false] at he;rcases he with rfl | rfl <;> simp
  ·simp only [List.mem_toArray, List.mem_cons, List.not_mem_nil, or_false] at he;rcases he with rfl | rfl <;> simp
end Cw
end Go.SX
