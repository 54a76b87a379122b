/- SX, part 22: regions, in every order that the language allows. -/
import Derived.Test.YtdblbibjggeikaaGreatDoorB2
set_option linter.unusedSectionVars false
set_option linter.unusedVariables false
set_option linter.unusedSimpArgs false
namespace Go.SX
open Go
variable {P : Program} {G : GlobT} {E : Env} {ops : Array Oper} {Q : Act -> World -> Prop} [Level]
theorem relTs_len : ∀ {t : List SV} {l : List Value}, RelTs E t l -> l.length = t.length
 | [], l, h => by have h : l = [] := h; subst h; rfl
 | v :: t, l, h => by obtain ⟨u, us, rfl, _, h2⟩ := h; simp [relTs_len h2]
theorem relTs_get : ∀ {t : List SV} {l : List Value} {u : Nat}, RelTs E t l -> RelS E (getT t u) (l.getD u undef)
 | [], l, u, h => by simp only [getT]; trivial
 | v :: t, l, u, h => by
  obtain ⟨x, us, rfl, h1, h2⟩ := h;cases u with
  | zero => exact h1
  | succ u => simpa [getT] using relTs_get (u := u) h2
theorem relTs_set : ∀ {t : List SV} {l : List Value} {d : Nat} {v : SV} {x : Value}, RelTs E t l -> RelS E v x -> RelTs E (setT t d v) (l.set d x)
 | [], l, d, v, x, h, _ => by have h : l = [] := h; subst h; rfl
 | y :: t, l, d, v, x, h, hv => by
  obtain ⟨u, us, rfl, h1, h2⟩ := h;cases d with
  | zero => exact ⟨x, us, rfl, hv, h2⟩
  | succ d => exact ⟨u, us.set d x, rfl, h1, relTs_set h2 hv⟩
theorem getT_setT_ne : ∀ {t : List SV} {d u : Nat} {v : SV}, u ≠ d -> getT (setT t d v) u = getT t u
 | [], _, _, _, _ => rfl
 | x :: t, 0, 0, _, h => (h rfl).elim
 | x :: t, 0, u + 1, _, _ => rfl
 | x :: t, d + 1, 0, _, _ => rfl
 | x :: t, d + 1, u + 1, v, h => by simp only [setT, getT]; exact getT_setT_ne (fun e => h (congrArg _ e))
theorem setT_comm : ∀ {t : List SV} {d e : Nat} {v u : SV}, d ≠ e -> setT (setT t d v) e u = setT (setT t e u) d v
 | [], _, _, _, _, _ => rfl
 | x :: t, 0, 0, _, _, h => (h rfl).elim
 | x :: t, 0, e + 1, _, _, _ => rfl
 | x :: t, d + 1, 0, _, _, _ => rfl
 | x :: t, d + 1, e + 1, v, u, h => by simp only [setT]; rw [setT_comm (fun q => h (congrArg _ q))]
theorem setB_comm : ∀ {H : Heap} {d e : Nat} {v u : Blk}, d ≠ e -> setB (setB H d v) e u = setB (setB H e u) d v
 | [], _, _, _, _, _ => rfl
 | x :: t, 0, 0, _, _, h => (h rfl).elim
 | x :: t, 0, e + 1, _, _, _ => rfl
 | x :: t, d + 1, 0, _, _, _ => rfl
 | x :: t, d + 1, e + 1, v, u, h => by simp only [setB]; rw [setB_comm (fun q => h (congrArg _ q))]
theorem setBs_setB : ∀ {ws : List (Nat × Blk)} {H : Heap} {b : Nat} {k : Blk}, (∀ p ∈ ws, p.1 ≠ b) -> setBs (setB H b k) ws = setB (setBs H ws) b k
 | [], _, _, _, _ => rfl
 | (c, kc) :: ws, H, b, k, h => by
  simp only [setBs];rw [setB_comm (fun e => h (c, kc) List.mem_cons_self e.symm), setBs_setB (fun p hp => h p (List.mem_cons_of_mem _ hp))]
theorem setBs_comm : ∀ {ws vs : List (Nat × Blk)} {H : Heap}, (∀ p ∈ ws, ∀ q ∈ vs, q.1 ≠ p.1) -> setBs (setBs H ws) vs = setBs (setBs H vs) ws
 | [], _, _, _ => rfl
 | (b, k) :: ws, vs, H, h => by
  simp only [setBs];rw [setBs_comm (fun p hp => h p (List.mem_cons_of_mem _ hp)), setBs_setB (fun q hq => h (b, k) List.mem_cons_self q hq)]
def Rec.en (r : Rec) (look : Look) (s : St) : Prop :=
 (∀ p ∈ r.uses, getT s.t p.1 = p.2) /\ (∀ b ∈ r.rds, getB s.h b = look b) /\ ∀ m, m < r.n -> getB s.h (r.nid + m) = .dead /\ r.nid + m < s.h.length
theorem apply_t (r : Rec) (s : St) : (r.apply s).t = match r.dst with | some d => setT s.t d r.v | none => s.t := by
 unfold Rec.apply St.put; cases r.dst <;> rfl
theorem apply_h (r : Rec) (s : St) : (r.apply s).h = setBs s.h r.wr := by
 unfold Rec.apply St.put; cases r.dst <;> rfl
structure Apart (x y : Rec) : Prop where
 d1 : ∀ d, x.dst = some d -> (∀ p ∈ y.uses, p.1 ≠ d) /\ y.dst ≠ some d
 d2 : ∀ d, y.dst = some d -> ∀ p ∈ x.uses, p.1 ≠ d
 w1 : ∀ p ∈ x.wr, p.1 ∉ y.rds /\ ∀ q ∈ y.wr, q.1 ≠ p.1
 w2 : ∀ p ∈ y.wr, p.1 ∉ x.rds
 s1 : ∀ p ∈ x.wr, ∀ m, m < y.n -> p.1 ≠ y.nid + m
 s2 : ∀ p ∈ y.wr, ∀ m, m < x.n -> p.1 ≠ x.nid + m
theorem offSlots_spec {wr : List (Nat × Blk)} {nid n : Nat} (h : offSlots wr nid n = true) : ∀ p ∈ wr, ∀ m, m < n -> p.1 ≠ nid + m := by
 intro p hp m hm;have := List.all_eq_true.1 h p hp
 rw [Bool.or_eq_true] at this;rcases this with h1 | h1
 ·have h1 : p.1 < nid := by simpa using h1
  omega
 ·have h1 := Nat.le_of_ble_eq_true h1
  omega
theorem not_seen {b : Nat} {l : List Nat} (h : (!seen b l) = true) : b ∉ l := fun hm => by
 rw [seen_iff.2 hm] at h; cases h
theorem Rec.apart_spec {x y : Rec} (h : x.apart y = true) : Apart x y := by
 simp only [Rec.apart, Bool.and_eq_true] at h;obtain ⟨⟨⟨⟨⟨h1, h2⟩, h3⟩, h4⟩, h5⟩, h6⟩ := h;refine ⟨fun d hd => ?_, fun d hd => ?_, fun p hp => ?_, fun p hp => ?_, offSlots_spec h5, offSlots_spec h6⟩
 ·simp only [hd, Bool.and_eq_true, List.all_eq_true, bne_iff_ne] at h1; exact h1
 ·simp only [hd, List.all_eq_true, bne_iff_ne] at h2; exact h2
 ·have := List.all_eq_true.1 h3 p hp
  simp only [Bool.and_eq_true, List.all_eq_true, bne_iff_ne] at this;exact ⟨not_seen this.1, this.2⟩
 ·exact not_seen (List.all_eq_true.1 h4 p hp)
theorem Apart.swap {x y : Rec} {lx ly : Look} {s : St} (h : Apart x y) (hx : x.en lx s) (hy : y.en ly (x.apply s)) : y.en ly s /\ x.en lx (y.apply s) /\ x.apply (y.apply s) = y.apply (x.apply s) := by
 obtain ⟨x1, x2, x3⟩ := hx;obtain ⟨y1, y2, y3⟩ := hy;rw [apply_t] at y1;rw [apply_h] at y2 y3;refine ⟨⟨fun p hp => ?_, fun b hb => ?_, fun m hm => ?_⟩, ⟨fun p hp => ?_, fun b hb => ?_, fun m hm => ?_⟩, ?_⟩
 ·have := y1 p hp
  cases hd : x.dst with
  | none => rw [hd] at this; exact this
  | some d =>
   rw [hd] at this;rw [<- this];exact (getT_setT_ne ((h.d1 d hd).1 p hp)).symm
 ·rw [<- y2 b hb, getB_setBs_not _ _ _ (fun p hp e => (h.w1 p hp).1 (e ▸ hb))]
 ·have := y3 m hm
  rw [getB_setBs_not _ _ _ (fun p hp => h.s1 p hp m hm), length_setBs] at this
  exact this
 ·rw [apply_t];cases hd : y.dst with
  | none => exact x1 p hp
  | some d => exact (getT_setT_ne (h.d2 d hd p hp)).trans (x1 p hp)
 ·rw [apply_h, getB_setBs_not _ _ _ (fun p hp e => h.w2 p hp (e ▸ hb))]; exact x2 b hb
 ·rw [apply_h, getB_setBs_not _ _ _ (fun p hp => h.s2 p hp m hm), length_setBs]; exact x3 m hm
 ·have e1 : (x.apply (y.apply s)).t = (y.apply (x.apply s)).t := by
   simp only [apply_t];cases hd : x.dst with
   | none => rfl
   | some d =>
    cases he : y.dst with
    | none => rfl
    | some e =>
     have hne : d ≠ e := fun q => (h.d1 d hd).2 (by rw [he, q])
     exact setT_comm (fun q => hne q.symm)
  have e2 : (x.apply (y.apply s)).h = (y.apply (x.apply s)).h := by
   simp only [apply_h];exact (setBs_comm fun p hp q hq => (h.w1 p hp).2 q hq).symm
  revert e1 e2
  generalize x.apply (y.apply s) = a
  generalize y.apply (x.apply s) = b
  intro e1 e2;cases a; cases b; cases e1; cases e2; rfl
structure NRec where
 i : Nat
 r : Rec
 look : Look
def Chain : St -> List NRec -> St -> Prop
 | s, [], f => s = f
 | s, x :: xs, f => x.r.en x.look s /\ Chain (x.r.apply s) xs f
theorem Chain.first : ∀ {pre : List NRec} {x : NRec} {post : List NRec} {s f : St}, Chain s (pre ++ x :: post) f -> (∀ q ∈ pre, Apart q.r x.r) -> x.r.en x.look s /\ Chain (x.r.apply s) (pre ++ post) f
 | [], _, _, _, _, h, _ => h
 | q :: pre, x, post, s, f, h, ha => by
  obtain ⟨h1, h2⟩ := h;obtain ⟨h3, h4⟩ := Chain.first h2 (fun p hp => ha p (List.mem_cons_of_mem _ hp))
  obtain ⟨g1, g2, g3⟩ := (ha q List.mem_cons_self).swap h1 h3;refine ⟨g1, g2, ?_⟩
  rw [g3];exact h4
def opX (P : Program) (ops : Array Oper) (i : Nat) (K : Act -> World -> Prop) (a : Act) (w : World) : Prop :=
 ∀ (main : Bool) (Stop : Goroutine -> World -> Prop) (b : Frame) (rest : List Nat) (k : List Item) (cs : List Frame), b.kind ≠ .early ->
  (∀ a' w', K a' w' -> Way P main Stop (Conc.G (b.at a' (.inRegion ops rest :: k)) cs) w') -> Way P main Stop (Conc.G (b.at a (.inRegion ops (i :: rest) :: k)) cs) w
def opsX (P : Program) (ops : Array Oper) (Q : Act -> World -> Prop) : List Nat -> Act -> World -> Prop
 | [], a, w => Q a w
 | i :: is, a, w => opX P ops i (opsX P ops Q is) a w
theorem opX_mono {i : Nat} {a : Act} {w : World} {K K' : Act -> World -> Prop} (h : ∀ a w, K a w -> K' a w) (hh : opX P ops i K a w) : opX P ops i K' a w :=
 fun main Stop b rest k cs hb hk => hh main Stop b rest k cs hb fun a' w' q => hk a' w' (h a' w' q)
def anyX (P : Program) (md : Region.Mode) (ops : Array Oper) (Q : Act -> World -> Prop) : Nat -> Array Bool -> Act -> World -> Prop
 | 0, listed, a, w => Region.ready md ops listed = [] /\ Q a w
 | fuel + 1, listed, a, w => (Region.ready md ops listed = [] -> Q a w) /\ ∀ i ∈ Region.ready md ops listed, opX P ops i (anyX P md ops Q fuel (listed.setIfInBounds i true)) a w
theorem anyX_sound {md : Region.Mode} : ∀ (fuel t : Nat) (listed : Array Bool) (a : Act) (w : World), anyX P md ops Q fuel listed a w -> opsX P ops Q (Region.linearise.go md ops fuel t listed []) a w := by
 intro fuel
 induction fuel with
 | zero => intro t listed a w h; simpa [Region.linearise.go, opsX] using h.2
 | succ fuel ih =>
  intro t listed a w h;obtain ⟨h0, h1⟩ := h;simp only [Region.linearise.go]
  change opsX P ops Q (match (Region.ready md ops listed)[t % (Region.ready md ops listed).length]? with
   | some i => Region.linearise.go md ops fuel (t / (Region.ready md ops listed).length) (listed.setIfInBounds i true) [i]
   | none => [].reverse) a w
  cases hi : (Region.ready md ops listed)[t % (Region.ready md ops listed).length]? with
  | none =>
   have hnil : Region.ready md ops listed = [] := by
    cases hr : Region.ready md ops listed with
    | nil => rfl
    | cons x xs =>
     rw [hr] at hi;have hlt : t % (x :: xs).length < (x :: xs).length := Nat.mod_lt _ (by simp)
     rw [List.getElem?_eq_getElem hlt] at hi
     cases hi
   exact h0 hnil
  | some i =>
   simp only [];rw [linearise_go_acc, List.reverse_singleton, List.singleton_append];exact opX_mono (fun a w => ih _ _ a w) (h1 i (List.mem_of_getElem? hi))
def RecOk (P : Program) (G : GlobT) (ops : Array Oper) (o : Oper) (r : Rec) (look : Look) : Prop :=
 r.dst = o.dst /\ ∃ vb : Bool, ∀ (E : Env) (a : Act), RepH G E -> (∀ p ∈ r.uses, RelS E p.2 (a.tmps.toList.getD p.1 undef)) -> (∀ b ∈ r.rds, getB E.H b = look b) ->
  (∀ m, m < r.n -> fresh1 E (r.nid + m)) ->
  (if Region.wanted o (yielded ops a.tmps) then StepB vb P G E (execOp a.eval o) (r.v, r.wr) else ResR G E (r.v, r.wr) undef E.w)
structure Rp (G : GlobT) (E : Env) (s : St) (a : Act) (ds : List Deferred := []) : Prop where
 h : RepH G E
 eq : E.H = s.h
 t : RelTs E s.t a.tmps.toList
 d : a.defers = ds
theorem Rp.next {s : St} {a : Act} {ds : List Deferred} {r : Rec} {v : Value} {w' : World} (h : Rp G E s a ds) (hr : ResR G E (r.v, r.wr) v w') : ∃ E', E'.w = w' /\ Ext E E' /\ Rp G E' (r.apply s) (a.put r.dst v) ds := by
 obtain ⟨β', R', h1, h2, h3⟩ := hr;refine ⟨_, rfl, h2, h1, by rw [apply_h, <- h.eq], ?_, ?_⟩
 ·have ht := RelTs.ext h.h h2 _ _ h.t
  rw [apply_t];cases hd : r.dst with
  | none => exact ht
  | some d =>
   have := relTs_set (d := d) ht h3
   simpa [Act.put] using this
 ·cases hd : r.dst <;> exact h.d
theorem env_grow (hE : RepH G E) {w₁ : World} (g : Grow E.w w₁) : RepH G ⟨E.β, E.H, w₁, E.R⟩ /\ Ext E ⟨E.β, E.H, w₁, E.R⟩ := by
 have hk : ∀ (k : Nat) (o : Obj), E.w.heap[k]? = some o -> w₁.heap[k]? = some o := fun k o h => by
  have hlt : k < E.w.heap.size := by
   rcases Nat.lt_or_ge k E.w.heap.size with h' | h'
   ·exact h'
   ·rw [Array.getElem?_eq_none h'] at h; cases h
  rw [g.heap k hlt]; exact h
 have x : Ext E ⟨E.β, E.H, w₁, E.R⟩ := {
  os := g.os, tape := g.tape, output := g.output, size := g.size, ro := fun _ h => h, rnew := fun _ h => .inl h, keep := fun k h _ => g.heap k h
  cells := fun k c e fz h => ⟨c, fz, hk k _ h, rfl⟩
  blk := fun b => by cases getB E.H b <;> simp [BExt]
  fresh := fun b k h1 h2 => .inl ⟨b, h1, h2⟩ }
 refine ⟨⟨fun k h => ⟨Nat.lt_of_lt_of_le (hE.ro k h).1 g.size, (hE.ro k h).2⟩, hE.inj, fun b => ?_, hE.globExt x⟩, x⟩
 exact (hE.blk b).ext hE x rfl (fun k o _ ho => hk k o ho) (fun t xs k hf hk b' hl hb' => hE.shares hf hk hl hb')
theorem Rp.grow {s : St} {a : Act} {ds : List Deferred} (h : Rp G E s a ds) {w₁ : World} (g : Grow E.w w₁) : Ext E ⟨E.β, E.H, w₁, E.R⟩ /\ Rp G ⟨E.β, E.H, w₁, E.R⟩ s a ds := by
 obtain ⟨h1, h2⟩ := env_grow h.h g;exact ⟨h2, h1, h.eq, RelTs.ext h.h h2 _ _ h.t, h.d⟩
theorem lock_oper {main : Bool} {b : Frame} {a : Act} {k : List Item} {cs : List Frame} {ops : Array Oper} {i : Nat} {rest : List Nat} {o : Oper} {v : World} (ho : ops[i]? = some o) (hw : Region.wanted o (yielded ops a.tmps) = true) (hb : b.kind ≠ .early) (hobl : Obl P v (execOp a.eval o))
  (hr : (∃ u v', (execOp a.eval o).run P v = .ok (.value u) v') \/ (∃ v', (execOp a.eval o).run P v = .ok .skip v') \/ ∃ f us v', (execOp a.eval o).run P v = .ok (.enter f us) v') : Lock P main (Conc.G (b.at a (.inRegion ops (i :: rest) :: k)) cs) v := by
 intro M w hv hfit g' v' es he;have key : ∀ (n : Next) (v1 : World), (execOp a.eval o).run P v = .ok n v1 -> ∃ w', (execOp a.eval o).run P w = .ok n w' /\ ghost M w' = v1 /\ Stood M w w' /\ Conc.listed P b.fn a o w = Conc.listed P b.fn a o v /\ ∀ e ∈ Conc.listed P b.fn a o v, EvOk M w' e := fun n v1 hr => by
  obtain ⟨w', new, q1, q2, q3, q4, q5⟩ := hobl M w hv hfit #[] ((execOp a.eval o).events P v #[]) n v1 (by rw [Sem.runT_eq, hr])
  obtain ⟨r1, r2⟩ := run_of_runT q1;refine ⟨w', r1, q2, q3, by unfold Conc.listed; rw [r2], fun e hm => q5 e ?_⟩
  have := seen_sub hm
  rw [q4] at this;simpa using this
 rcases hr with ⟨u, v1, hr⟩ | ⟨v1, hr⟩ | ⟨f, us, v1, hr⟩
 ·rw [Conc.stepG_value ho hw hb hr] at he;cases he
  obtain ⟨w', r1, r2, r3, r4, r5⟩ := key _ _ hr;exact ⟨w', by rw [Conc.stepG_value ho hw hb r1, r4], r2, r3, r5⟩
 ·rw [Conc.stepG_none ho hw hb hr] at he;cases he
  obtain ⟨w', r1, r2, r3, r4, r5⟩ := key _ _ hr;exact ⟨w', by rw [Conc.stepG_none ho hw hb r1, r4], r2, r3, r5⟩
 ·rw [Conc.stepG_enter ho hw hb hr] at he;cases he
  obtain ⟨w', r1, r2, r3, r4, r5⟩ := key _ _ hr;exact ⟨w', by rw [Conc.stepG_enter ho hw hb r1, r4], r2, r3, r5⟩
theorem RecOk.first {o : Oper} {x : NRec} {s : St} {a : Act} {ds : List Deferred} {K : Act -> World -> Prop} (hx : RecOk P G ops o x.r x.look) (ho : ops[x.i]? = some o) (hen : x.r.en x.look s) (hs : Rp G E s a ds)
  (hK : ∀ E' a', Ext E E' -> Rp G E' (x.r.apply s) a' ds -> K a' E'.w) : opX P ops x.i K a E.w := by
 intro main Stop b rest k cs hb hk;have hbe : b.kind ≠ .early := hb
 obtain ⟨hdst, vb, hx⟩ := hx;have hst : ∀ w₁, Grow E.w w₁ -> (if Region.wanted o (yielded ops a.tmps) then StepB vb P G ⟨E.β, E.H, w₁, E.R⟩ (execOp a.eval o) (x.r.v, x.r.wr) else ResR G ⟨E.β, E.H, w₁, E.R⟩ (x.r.v, x.r.wr) undef w₁) := fun w₁ g => by
  obtain ⟨x1, hs1⟩ := hs.grow g;obtain ⟨h1, h2, h3⟩ := hen;exact hx ⟨E.β, E.H, w₁, E.R⟩ a hs1.h (fun p hp => by rw [<- h1 p hp]; exact relTs_get hs1.t) (fun q hq => by rw [hs1.eq]; exact h2 q hq) (fun m hm => by unfold fresh1; rw [hs1.eq]; exact ⟨(h3 m hm).2, (h3 m hm).1⟩)
 have fin : ∀ w₁, Grow E.w w₁ -> ∀ v w', ResR G ⟨E.β, E.H, w₁, E.R⟩ (x.r.v, x.r.wr) v w' -> Way P main Stop (Conc.G (b.at (a.put o.dst v) (.inRegion ops rest :: k)) cs) w' := fun w₁ g v w' hr => by
  obtain ⟨x1, hs1⟩ := hs.grow g;obtain ⟨E', rfl, g1, g2⟩ := hs1.next hr;rw [<- hdst];exact hk _ _ (hK E' _ (x1.trans g1) g2)
 by_cases hw : Region.wanted o (yielded ops a.tmps) = true
 ·simp only [hw, if_true] at hst;cases vb with
  | false =>
   refine Way.go rfl (fun w₁ g => ?_) (fun w₁ g => ?_)
   ·exact lock_oper ho hw hbe (hst w₁ g).1 (by
     rcases (hst w₁ g).2 with ⟨v, w', q1, _⟩ | ⟨w', q1, _⟩ | ⟨f, us, q1, _⟩
     ·exact .inl ⟨_, _, q1⟩
     ·exact .inr (.inl ⟨_, q1⟩)
     ·exact .inr (.inr ⟨_, _, _, q1⟩))
   ·rcases (hst w₁ g).2 with ⟨v, w', q1, q2⟩ | ⟨w', q1, q2⟩ | ⟨f, us, q1, q2⟩
    ·exact ⟨_, _, _, Conc.stepG_value ho hw hbe q1, fin w₁ g v w' q2⟩
    ·exact ⟨_, _, _, Conc.stepG_none ho hw hbe q1, fin w₁ g undef w' q2⟩
    ·refine ⟨_, _, _, Conc.stepG_enter ho hw hbe q1, q2.call (fun u w' hu => ?_)⟩
     rw [Frame.finish_at, ho];exact fin w₁ g u w' hu
  | true =>
   obtain ⟨ad, δ, h1, h2, _⟩ := hst E.w (Grow.refl _);refine Way.vol ad δ (fun n => Conc.G (b.at (a.put o.dst (.int .i64 n)) (.inRegion ops rest :: k)) cs) rfl h1 (fun w n hc hz => ?_) (fun n hn w₁ g => ?_)
   ·obtain ⟨f, e⟩ := h2 w n hc hz;obtain ⟨r1, r2⟩ := run_of_runT e;rw [Conc.stepG_value ho hw hbe r1];unfold Conc.listed;rw [r2, Conc.seen_def];simp [Conc.seenStep]
   ·obtain ⟨_, _, _, _, h3⟩ := hst w₁ g;exact fin w₁ g _ _ (h3 n hn)
 ·have hw' : Region.wanted o (yielded ops a.tmps) = false := by simpa using hw
  refine Way.ctl rfl (fun _ => Conc.stepG_unwanted ho hw') ?_
  have := hst E.w (Grow.refl _)
  rw [if_neg hw] at this;exact fin E.w (Grow.refl _) _ _ this
theorem chain_text {ds : List Deferred} : ∀ {l : List NRec} {s f : St} {E : Env} {a : Act}, (∀ x ∈ l, ∃ o, ops[x.i]? = some o /\ RecOk P G ops o x.r x.look) -> Chain s l f -> Rp G E s a ds ->
  (∀ E' a', Ext E E' -> Rp G E' f a' ds -> Q a' E'.w) -> opsX P ops Q (l.map (·.i)) a E.w
 | [], s, f, E, a, _, hc, hs, hQ => by
  have hc : s = f := hc
  subst hc;exact hQ E a (Ext.refl E) hs
 | x :: l, s, f, E, a, hl, hc, hs, hQ => by
  obtain ⟨o, ho, hx⟩ := hl x List.mem_cons_self;refine hx.first ho hc.1 hs (fun E' a' g1 g2 => ?_)
  exact chain_text (fun y hy => hl y (List.mem_cons_of_mem _ hy)) hc.2 g2 (fun E'' a'' g3 g4 => hQ E'' a'' (g1.trans g3) g4)
def Closed (ops : Array Oper) (listed : Array Bool) : Prop :=
 ∀ i o, ops[i]? = some o -> listed.getD i false = true -> ∀ e ∈ o.after.toList, Region.binds .any e = true -> listed.getD e.on false = true
theorem ready_spec {listed : Array Bool} {i : Nat} (h : i ∈ Region.ready .any ops listed) : i < ops.size /\ listed.getD i true = false /\ ∃ o, ops[i]? = some o /\ ∀ e ∈ o.after.toList, Region.binds .any e = true -> listed.getD e.on false = true := by
 unfold Region.ready at h;rw [List.mem_filter, List.mem_range, Bool.and_eq_true] at h;obtain ⟨h1, h2, h3⟩ := h;refine ⟨h1, by simpa using h2, ops[i], Array.getElem?_eq_getElem h1, fun e he hb => ?_⟩
 rw [Array.getElem?_eq_getElem h1] at h3
 simp only [Option.map_some, Option.getD_some] at h3;have := Array.all_eq_true_iff_forall_mem.1 h3 e (by simpa using he)
 rw [hb] at this;simpa using this
theorem ready_of {listed : Array Bool} {i : Nat} {o : Oper} (h1 : ops[i]? = some o) (h2 : listed.getD i true = false) (h3 : ∀ e ∈ o.after.toList, Region.binds .any e = true -> listed.getD e.on false = true) : i ∈ Region.ready .any ops listed := by
 unfold Region.ready;rw [List.mem_filter, List.mem_range, Bool.and_eq_true];refine ⟨(Array.getElem?_eq_some_iff.1 h1).1, by rw [h2]; rfl, ?_⟩
 rw [h1];simp only [Option.map_some, Option.getD_some];refine Array.all_eq_true_iff_forall_mem.2 fun e he => ?_
 cases hb : Region.binds .any e with
 | false => rfl
 | true => rw [h3 e (by simpa using he) hb]; rfl
def MaskOk (listed : Nat -> Bool) (acc : List Nat) (ops : List Oper) : Prop :=
 ∀ (i : Nat) (o : Oper) (m : Nat), ops[i]? = some o -> acc[i]? = some m -> (∀ e ∈ o.after.toList, Region.binds .any e = true -> listed e.on = true) -> ∀ j, m.testBit j = true -> listed j = true
theorem mask_spec {listed : Nat -> Bool} {acc : List Nat} {all : List Oper} (hcl : ∀ i o, all[i]? = some o -> listed i = true -> ∀ e ∈ o.after.toList, Region.binds .any e = true -> listed e.on = true)
  (hlen : acc.length <= all.length) (h : MaskOk listed acc all) : ∀ (es : List Edge), (∀ e ∈ es, Region.binds .any e = true -> listed e.on = true) -> ∀ j, (mask acc es).testBit j = true -> listed j = true
 | [], _, j, hj => by simp [mask] at hj
 | e :: es, hes, j, hj => by
  simp only [mask] at hj;split at hj
  ·rename_i hb;rw [Nat.testBit_or, Nat.testBit_or, Bool.or_eq_true, Bool.or_eq_true] at hj;have hl := hes e List.mem_cons_self hb
   rcases hj with hj | hj | hj
   ·have : j = e.on := by
     rw [Nat.shiftLeft_eq, Nat.one_mul, Nat.testBit_two_pow] at hj;have hj : e.on = j := by simpa using hj
     exact hj.symm
    rw [this]; exact hl
   ·rw [List.getD_eq_getElem?_getD] at hj
    cases ha : acc[e.on]? with
    | none => rw [ha] at hj; simp at hj
    | some m =>
     rw [ha] at hj;have hlt : e.on < acc.length := (List.getElem?_eq_some_iff.1 ha).1
     obtain ⟨o, ho⟩ : ∃ o, all[e.on]? = some o := ⟨all[e.on], List.getElem?_eq_getElem (by omega)⟩
     exact h e.on o m ho ha (hcl e.on o ho hl) j (by simpa using hj)
   ·exact mask_spec hcl hlen h es (fun e he => hes e (List.mem_cons_of_mem _ he)) j hj
  ·exact mask_spec hcl hlen h es (fun e he => hes e (List.mem_cons_of_mem _ he)) j hj
theorem masks_spec {listed : Nat -> Bool} {all : List Oper} (hcl : ∀ i o, all[i]? = some o -> listed i = true -> ∀ e ∈ o.after.toList, Region.binds .any e = true -> listed e.on = true) :
  ∀ {os : List Oper} {acc : List Nat} {pre : List Oper}, all = pre ++ os -> acc.length = pre.length -> MaskOk listed acc all -> MaskOk listed (masks os acc) all /\ (masks os acc).length = all.length
 | [], acc, pre, he, hl, h => by subst he; exact ⟨h, by simp [masks, hl]⟩
 | o :: os, acc, pre, he, hl, h => by
  simp only [masks];refine masks_spec hcl (pre := pre ++ [o]) (by simp [he]) (by simp [hl]) ?_
  intro i o' m ho hm hes j hj;rcases Nat.lt_or_ge i acc.length with hi | hi
  ·rw [List.getElem?_append_left hi] at hm
   exact h i o' m ho hm hes j hj
  ·rw [List.getElem?_append_right hi] at hm
   have : i - acc.length = 0 := by
    have := (List.getElem?_eq_some_iff.1 hm).1
    simp at this; omega
   rw [this] at hm;simp at hm
   subst hm;have hie : i = pre.length := by omega
   subst hie;rw [he, List.getElem?_append_right (Nat.le_refl _)] at ho
   simp at ho
   subst ho;exact mask_spec hcl (by rw [he, List.length_append]; omega) h _ hes j hj
theorem anyX_chain {ds : List Deferred} {bit : Nat -> Nat -> Prop} (hbit : ∀ (listed : Array Bool), Closed ops listed -> ∀ i o, ops[i]? = some o -> (∀ e ∈ o.after.toList, Region.binds .any e = true -> listed.getD e.on false = true) -> ∀ j, bit i j -> listed.getD j false = true)
  (htext : ∀ i o, ops[i]? = some o -> ∀ e ∈ o.after.toList, Region.binds .any e = true -> e.on < i) {f : St} :
  ∀ (fuel : Nat) {listed : Array Bool} {l : List NRec} {s : St} {E : Env} {a : Act}, l.length = fuel -> listed.size = ops.size ->
   (∀ i, i < ops.size -> (listed.getD i false = false ↔ ∃ x ∈ l, x.i = i)) -> Closed ops listed -> l.Pairwise (fun x y => x.i < y.i /\ (bit y.i x.i \/ Apart x.r y.r)) ->
   (∀ x ∈ l, ∃ o, ops[x.i]? = some o /\ RecOk P G ops o x.r x.look) -> Chain s l f -> Rp G E s a ds -> (∀ E' a', Ext E E' -> Rp G E' f a' ds -> Q a' E'.w) ->
   anyX P .any ops Q fuel listed a E.w
 | 0, listed, l, s, E, a, hl, hsz, hmem, hcl, hpw, hok, hc, hs, hQ => by
  have hl : l = [] := List.eq_nil_of_length_eq_zero hl
  subst hl;refine ⟨List.eq_nil_iff_forall_not_mem.2 fun i hi => ?_, ?_⟩
  ·obtain ⟨h1, h2, _⟩ := ready_spec hi;have : listed.getD i false = false := by
    simp [Array.getD, hsz, h1] at h2 ⊢; exact h2
   obtain ⟨x, hx, _⟩ := (hmem i h1).1 this;cases hx
  ·have hc : s = f := hc
   subst hc;exact hQ E a (Ext.refl E) hs
 | fuel + 1, listed, l, s, E, a, hl, hsz, hmem, hcl, hpw, hok, hc, hs, hQ => by
  constructor
  ·intro hr;exfalso;cases l with
   | nil => cases hl
   | cons x l =>
    obtain ⟨o, ho, _⟩ := hok x List.mem_cons_self;have hi : x.i < ops.size := (Array.getElem?_eq_some_iff.1 ho).1
    have hx : listed.getD x.i false = false := (hmem x.i hi).2 ⟨x, List.mem_cons_self, rfl⟩
    have : x.i ∈ Region.ready .any ops listed := by
     refine ready_of ho ?_ (fun e he hb => ?_)
     ·simp [Array.getD, hsz, hi] at hx ⊢; exact hx
     ·have hlt := htext x.i o ho e he hb
      cases hle : listed.getD e.on false with
      | true => rfl
      | false =>
       obtain ⟨y, hy, hyi⟩ := (hmem e.on (by omega)).1 hle
       rcases List.mem_cons.1 hy with rfl | hy
       ·omega
       ·have := (List.rel_of_pairwise_cons hpw hy).1
        omega
    rw [hr] at this; cases this
  ·intro i hi;obtain ⟨h1, h2, o, ho, hes⟩ := ready_spec hi;have hun : listed.getD i false = false := by
    simp [Array.getD, hsz, h1] at h2 ⊢; exact h2
   obtain ⟨x, hx, rfl⟩ := (hmem i h1).1 hun;obtain ⟨pre, post, rfl⟩ := List.append_of_mem hx;obtain ⟨o', ho', hok'⟩ := hok x hx;rw [ho] at ho'; obtain rfl := smI ho';have hap : ∀ q ∈ pre, Apart q.r x.r := fun q hq => by
    have := (List.pairwise_append.1 hpw).2.2 q hq x List.mem_cons_self
    refine this.2.resolve_left fun hb => ?_
    have hlq := hbit listed hcl x.i o ho hes q.i hb
    obtain ⟨oq, hoq, _⟩ := hok q (List.mem_append_left _ hq);have := (hmem q.i (Array.getElem?_eq_some_iff.1 hoq).1).2 ⟨q, List.mem_append_left _ hq, rfl⟩
    rw [this] at hlq; cases hlq
   obtain ⟨g1, g2⟩ := Chain.first hc hap;refine hok'.first ho g1 hs (fun E' a' q1 q2 => ?_)
   have hset : ∀ j, (listed.setIfInBounds x.i true).getD j false = if j = x.i then true else listed.getD j false := fun j => by
    simp only [Array.getD_eq_getD_getElem?, Array.getElem?_setIfInBounds]
    split
    ·rename_i e; subst e; rw [hsz, if_pos h1, if_pos rfl]; rfl
    ·rename_i e; rw [if_neg (fun q => e q.symm)]
   have hpw' : (pre ++ post).Pairwise (fun x y => x.i < y.i /\ (bit y.i x.i \/ Apart x.r y.r)) := hpw.sublist (List.append_sublist_append_left _ |>.2 (List.sublist_cons_self _ _))
   refine anyX_chain hbit htext fuel (by simp at hl ⊢; omega) (by simp [hsz]) (fun j hj => ?_) ?_ hpw' (fun y hy => hok y ?_) g2 q2 (fun E'' a'' r1 r2 => hQ E'' a'' (q1.trans r1) r2)
   ·rw [hset];by_cases hjx : j = x.i
    ·subst hjx;rw [if_pos rfl];constructor
     ·intro h; cases h
     ·rintro ⟨y, hy, hyi⟩
      exfalso;rcases List.mem_append.1 hy with hy | hy
      ·have := ((List.pairwise_append.1 hpw).2.2 y hy x List.mem_cons_self).1; omega
      ·have := (List.rel_of_pairwise_cons (List.pairwise_append.1 hpw).2.1 hy).1; omega
    ·rw [if_neg hjx, hmem j hj];constructor
     ·rintro ⟨y, hy, rfl⟩
      refine ⟨y, ?_, rfl⟩
      rcases List.mem_append.1 hy with hy | hy
      ·exact List.mem_append_left _ hy
      ·rcases List.mem_cons.1 hy with rfl | hy
       ·exact (hjx rfl).elim
       ·exact List.mem_append_right _ hy
     ·rintro ⟨y, hy, rfl⟩
      refine ⟨y, ?_, rfl⟩
      rcases List.mem_append.1 hy with hy | hy
      ·exact List.mem_append_left _ hy
      ·exact List.mem_append_right _ (List.mem_cons_of_mem _ hy)
   ·intro j oj hoj hlj e he hb;rw [hset] at hlj ⊢;split
    ·rfl
    ·split at hlj
     ·rename_i hjx; subst hjx;rw [ho] at hoj; obtain rfl := smI hoj;exact hes e he hb
     ·exact hcl j oj hoj hlj e he hb
   ·rcases List.mem_append.1 hy with hy | hy
    ·exact List.mem_append_left _ hy
    ·exact List.mem_append_right _ (List.mem_cons_of_mem _ hy)
end Go.SX
namespace Go.SX
open Go
variable {P : Program} {G : GlobT} {E : Env} {ops : Array Oper} {Q : Act -> World -> Prop} {S : Tab} [Level]
def KOk (ks : Known) (t : List SV) : Prop := ∀ p ∈ ks, ∃ l, getT t p.1 = one (.bool l p.2)
theorem knownOf_mem {u : Nat} {b : Bool} : ∀ {ks : Known}, knownOf u ks = some b -> (u, b) ∈ ks
 | [], h => by cases h
 | (x, c) :: ks, h => by
  simp only [knownOf] at h;split at h
  ·rename_i hx;have hx : x = u := by simpa using hx
   obtain rfl := smI h;subst hx;exact List.mem_cons_self
  ·exact List.mem_cons_of_mem _ (knownOf_mem h)
theorem litize_rel {ks : Known} {t : List SV} {u : Nat} {x : Value} (hK : KOk ks t) (h : RelS E (getT t u) x) : RelS E (litize ks u (getT t u)) x := by
 unfold litize;cases hk : knownOf u ks with
 | none => exact h
 | some b =>
  obtain ⟨l, hl⟩ := hK _ (knownOf_mem hk);simp only at hl
  rw [hl] at h;exact h
theorem litize_bool {ks : Known} {t : List SV} {u : Nat} {l b : Bool} (hK : KOk ks t) (h : litize ks u (getT t u) = one (.bool l b)) : ∃ l', getT t u = one (.bool l' b) := by
 unfold litize at h;cases hk : knownOf u ks with
 | none => rw [hk] at h; exact ⟨l, h⟩
 | some c =>
  rw [hk] at h;obtain ⟨l', hl⟩ := hK _ (knownOf_mem hk);simp only at hl h
  cases h
  exact ⟨l', hl⟩
theorem KOk.kill {ks : Known} {r : Rec} {s : St} (h : KOk ks s.t) : KOk (killK r.dst ks) (r.apply s).t := by
 intro p hp;rw [apply_t];cases hd : r.dst with
 | none => rw [hd] at hp; exact h p hp
 | some d =>
  rw [hd] at hp;obtain ⟨h1, h2⟩ := List.mem_filter.1 hp;have h2 : p.1 ≠ d := by simpa using h2
  obtain ⟨l, hl⟩ := h p h1;exact ⟨l, (getT_setT_ne h2).trans hl⟩
theorem evalK_rel (hE : RepH G E) {ks : Known} {t : List SV} {a : Act} (hK : KOk ks t) (x : Operand) (hu : ∀ u, x = .tmp u -> RelS E (getT t u) (a.tmps.toList.getD u undef)) : RelS E (evalK G ks t x) (a.eval x) := by
 cases x with
 | tmp u =>
  have := litize_rel hK (hu u rfl)
  have he : a.eval (.tmp u) = a.tmps.toList.getD u undef := by
   simp [Act.eval, Array.getD_eq_getD_getElem?, List.getD_eq_getElem?_getD]
  rw [he]; exact this
 | const v =>
  show RelS E (absV v) v
  unfold absV;split
  ·trivial
  ·trivial
  ·rename_i h1 h2;refine absC_rel ?_
   cases v <;> first | trivial | exact h1 _ rfl | exact h2 _ rfl
 | global g =>
  show RelS E (match G g with | some ⟨t, d⟩ => .one (.c (.rptr t d 0 0)) | none => .any) _
  cases hg : G g with
  | none => trivial
  | some p => obtain ⟨t, d⟩ := p; exact (hE.glob g t d hg).1
 | func f => exact ⟨#[], rfl, rfl⟩
theorem usesOf_get {s : St} {o : Oper} {a : Act} {r : Rec} (hr : r.uses = usesOf ops s.t o) (hu : ∀ p ∈ r.uses, RelS E p.2 (a.tmps.toList.getD p.1 undef)) {u : Nat} (h : u ∈ o.looksAt ops) : RelS E (getT s.t u) (a.tmps.toList.getD u undef) :=
 hu (u, getT s.t u) (by rw [hr]; exact List.mem_map.2 ⟨u, h, rfl⟩)
theorem exec1_sound (hsp : SpecOk P S) {o : Oper} {nid : Nat} {ks : Known} {s : St} {r : Rec} (hK : KOk ks s.t) (h : (exec1 S P ops o nid ks s).val = some r) :
  r.dst = o.dst /\ r.uses = usesOf ops s.t o /\ r.nid = nid /\ r.n = slots S o /\ wrOk (nid + slots S o) r.wr = true /\
  ∀ (E : Env) (a : Act), RepH S.gl E -> (∀ p ∈ r.uses, RelS E p.2 (a.tmps.toList.getD p.1 undef)) -> (∀ b ∈ r.rds, getB E.H b = lookOf s.h r.rds b) ->
   (∀ m, m < r.n -> fresh1 E (r.nid + m)) -> StepB (volOp S o) P S.gl E (execOp a.eval o) (r.v, r.wr) := by
 unfold exec1 at h;obtain ⟨p, h1, h2⟩ := val_bind h;split at h2
 ·rename_i hw;obtain rfl := val_ret h2;refine ⟨rfl, rfl, rfl, rfl, hw, fun E a hE hu hr hn => ?_⟩
  have hlook : LookOk E (lookOf s.h (looks (getB s.h) (evalK S.gl ks s.t) o)) := fun b => by
   by_cases hb : b ∈ looks (getB s.h) (evalK S.gl ks s.t) o
   ·exact .inr (hr b hb).symm
   ·left;unfold lookOf;rw [if_neg (fun hs => hb (seen_iff.1 hs))]
  have hev : ∀ x ∈ o.op.operands, RelS E (evalK S.gl ks s.t x) (a.eval x) := fun x hx => evalK_rel hE hK x fun u hxu => by
   subst hxu;refine usesOf_get (ops := ops) (o := o) rfl hu ?_
   exact List.mem_append_left _ (List.mem_filterMap.2 ⟨.tmp u, by simpa using hx, rfl⟩)
  cases hv : volOp S o with
  | true => exact stepV_sound hsp hE hlook (o := o) hn (ev := evalK S.gl ks s.t) (ρ := a.eval) (fun f => rfl) hev h1 hv
  | false => exact ⟨obl_sound hsp hE hlook (o := o) hn (ev := evalK S.gl ks s.t) (ρ := a.eval) (fun f => rfl) hev h1 hv, step_sound hsp hE hlook (o := o) hn (ev := evalK S.gl ks s.t) (ρ := a.eval) (fun f => rfl) hev h1 hv⟩
 ·cases h2
theorem yielded_of {j u : Nat} {b : Bool} {tmps : Array Value} (hj : (ops[j]?).bind (·.dst) = some u) (hv : tmps.toList.getD u undef = .bool b) : yielded ops tmps j = some b := by
 unfold yielded;rw [hj];simp only [Option.bind_some];rw [List.getD_eq_getElem?_getD, Array.getElem?_toList] at hv
 cases h : tmps[u]? with
 | none => rw [h] at hv; cases hv
 | some x => rw [h] at hv; simp at hv; rw [hv]
theorem skip_ok {o : Oper} {nid : Nat} {s : St} {j u : Nat} {want b l : Bool} (hg : o.guard = some (j, want)) (hj : (ops[j]?).bind (·.dst) = some u) (hb : getT s.t u = one (.bool l b)) (hne : (b == want) = false) :
  RecOk P S.gl ops o (skipRec S ops o nid s) (fun _ => .dead) := by
 refine ⟨rfl, false, fun E a hE hu _ _ => ?_⟩
 have hmem : u ∈ o.looksAt ops := by unfold Oper.looksAt; rw [hg]; simp [hj]
 have hv := usesOf_get (E := E) (a := a) (r := skipRec S ops o nid s) rfl hu hmem
 rw [hb] at hv;have hy := yielded_of hj hv
 have hw : Region.wanted o (yielded ops a.tmps) = false := by
  unfold Region.wanted;rw [hg];simp only [hy];simpa using hne
 rw [hw, if_neg (by simp)]
 exact ⟨E.β, E.R, hE, Ext.refl E, trivial⟩
theorem runOne_sound (hsp : SpecOk P S) {o : Oper} {nid : Nat} {ks ks' : Known} {s : St} {r : Rec} (hK : KOk ks s.t) (h : (runOne S P ops o nid ks s).val = some (r, ks')) :
  ∃ look, RecOk P S.gl ops o r look /\ r.en look { s with h := s.h } = ((∀ m, m < r.n -> getB s.h (r.nid + m) = .dead /\ r.nid + m < s.h.length)) /\ r.nid = nid /\ r.n = slots S o /\ wrOk (nid + slots S o) r.wr = true /\ KOk ks' (r.apply s).t := by
 have hen : ∀ {r : Rec} {look : Look}, r.uses = usesOf ops s.t o -> (∀ b ∈ r.rds, getB s.h b = look b) -> r.en look { s with h := s.h } = ((∀ m, m < r.n -> getB s.h (r.nid + m) = .dead /\ r.nid + m < s.h.length)) := fun {r look} h1 h2 => by
  refine propext ⟨fun h => h.2.2, fun h => ⟨fun p hp => ?_, h2, h⟩⟩
  rw [h1] at hp;obtain ⟨u, _, rfl⟩ := List.mem_map.1 hp;rfl
 have hlk : ∀ {rds : List Nat}, ∀ b ∈ rds, getB s.h b = lookOf s.h rds b := fun {rds} b hb => by unfold lookOf; rw [if_pos (seen_iff.2 hb)]
 unfold runOne at h;split at h
 ·rename_i hg;obtain ⟨r', h1, h2⟩ := val_bind h;have := val_ret h2
  simp only [Prod.mk.injEq] at this;obtain ⟨rfl, rfl⟩ := this;obtain ⟨q1, q2, q3, q4, q5, q6⟩ := exec1_sound hsp hK h1;refine ⟨_, ⟨q1, volOp S o, fun E a hE hu hr hn => ?_⟩, hen q2 hlk, q3, q4, q5, by rw [<- q1]; exact hK.kill⟩
  have : Region.wanted o (yielded ops a.tmps) = true := by unfold Region.wanted; rw [hg]
  rw [this, if_pos rfl];exact q6 E a hE hu hr hn
 ·rename_i j want hg;split at h
  ·cases h
  ·rename_i u hj;have run : ∀ {ks0 : Known} {l b : Bool}, KOk ks0 s.t -> getT s.t u = one (.bool l b) -> (b == want) = true -> ((exec1 S P ops o nid ks0 s).bind fun r => .ret (r, killK o.dst ks0)).val = some (r, ks') ->
     ∃ look, RecOk P S.gl ops o r look /\ r.en look { s with h := s.h } = ((∀ m, m < r.n -> getB s.h (r.nid + m) = .dead /\ r.nid + m < s.h.length)) /\ r.nid = nid /\ r.n = slots S o /\ wrOk (nid + slots S o) r.wr = true /\ KOk ks' (r.apply s).t := by
    intro ks0 l b hK0 hb hw h;obtain ⟨r', h1, h2⟩ := val_bind h;have := val_ret h2
    simp only [Prod.mk.injEq] at this;obtain ⟨rfl, rfl⟩ := this;obtain ⟨q1, q2, q3, q4, q5, q6⟩ := exec1_sound hsp hK0 h1;refine ⟨_, ⟨q1, volOp S o, fun E a hE hu hr hn => ?_⟩, hen q2 hlk, q3, q4, q5, by rw [<- q1]; exact hK0.kill⟩
    have hmem : u ∈ o.looksAt ops := by unfold Oper.looksAt; rw [hg]; simp [hj]
    have hv := usesOf_get (E := E) (a := a) q2 hu hmem
    rw [hb] at hv;have hy := yielded_of hj hv
    have : Region.wanted o (yielded ops a.tmps) = true := by
     unfold Region.wanted; rw [hg]; simp only [hy]; simpa using hw
    rw [this, if_pos rfl];exact q6 E a hE hu hr hn
   have skip : ∀ {ks0 : Known} {l b : Bool}, KOk ks0 s.t -> getT s.t u = one (.bool l b) -> (b == want) = false -> (skipRec S ops o nid s, killK o.dst ks0) = (r, ks') ->
     ∃ look, RecOk P S.gl ops o r look /\ r.en look { s with h := s.h } = ((∀ m, m < r.n -> getB s.h (r.nid + m) = .dead /\ r.nid + m < s.h.length)) /\ r.nid = nid /\ r.n = slots S o /\ wrOk (nid + slots S o) r.wr = true /\ KOk ks' (r.apply s).t := by
    intro ks0 l b hK0 hb hw h;simp only [Prod.mk.injEq] at h;obtain ⟨rfl, rfl⟩ := h;exact ⟨_, skip_ok hg hj hb hw, hen rfl (fun b hb => by cases hb), rfl, rfl, rfl, KOk.kill (r := skipRec S ops o nid s) hK0⟩
   split at h
   ·rename_i b hb;obtain ⟨l', hl⟩ := litize_bool hK hb;split at h
    ·rename_i hw; exact run hK hl hw h
    ·rename_i hw; exact skip hK hl hw (val_ret h)
   ·rename_i b hb;obtain ⟨l', hl⟩ := litize_bool hK hb;simp only [Tree.val] at h;split at h
    ·rename_i hw;refine run (fun p hp => ?_) hl hw h
     rcases List.mem_cons.1 hp with rfl | hp
     ·have : b = want := by simpa using hw
      subst this;exact ⟨l', hl⟩
     ·exact hK p hp
    ·rename_i hw;have hw : (b == want) = false := by simpa using hw
     refine skip (fun p hp => ?_) hl hw (smI h)
     rcases List.mem_cons.1 hp with rfl | hp
     ·have : b = !want := by cases b <;> cases want <;> simp_all
      subst this;exact ⟨l', hl⟩
     ·exact hK p hp
   ·cases h
theorem wrOk_spec {n : Nat} {wr : List (Nat × Blk)} (h : wrOk n wr = true) : ∀ p ∈ wr, p.1 < n := fun p hp => by
 have := List.all_eq_true.1 h p hp
 simpa using this
theorem runOps_sound (hsp : SpecOk P S) : ∀ {os : List Oper} {k nid : Nat} {ks : Known} {s s' : St} {acc recs : List Rec}, (runOps S P ops os nid ks s acc).val = some (s', recs) -> (∀ i o, os[i]? = some o -> ops[k + i]? = some o) -> KOk ks s.t ->
  (∀ m, m < sumSlots S os -> getB s.h (nid + m) = .dead /\ nid + m < s.h.length) ->
  ∃ l : List NRec, recs = (l.map (·.r)).reverse ++ acc /\ Chain s l s' /\ l.map (·.i) = List.range' k os.length /\ ∀ x ∈ l, ∃ o, ops[x.i]? = some o /\ RecOk P S.gl ops o x.r x.look
 | [], k, nid, ks, s, s', acc, recs, h, ho, hK, hn => by
  have := val_ret h
  simp only [Prod.mk.injEq] at this;obtain ⟨rfl, rfl⟩ := this;exact ⟨[], rfl, rfl, rfl, fun x hx => by cases hx⟩
 | o :: os, k, nid, ks, s, s', acc, recs, h, ho, hK, hn => by
  simp only [runOps] at h;obtain ⟨⟨r, ks'⟩, h1, h2⟩ := val_bind h;obtain ⟨look, q1, q2, q3, q4, q5, q6⟩ := runOne_sound hsp hK h1;have hw := wrOk_spec q5
  simp only [sumSlots] at hn;obtain ⟨l, g1, g2, g3, g4⟩ := runOps_sound hsp (k := k + 1) h2 (fun i o' hi => by rw [show k + 1 + i = k + (i + 1) from by omega]; exact ho (i + 1) o' (by simpa using hi)) q6 (fun m hm => by
   obtain ⟨z1, z2⟩ := hn (slots S o + m) (by omega)
   rw [apply_h, length_setBs, getB_setBs_not _ _ _ (fun p hp e => by have := hw p hp; omega), Nat.add_assoc]
   exact ⟨z1, z2⟩)
  refine ⟨⟨k, r, look⟩ :: l, by rw [g1]; simp, ⟨?_, g2⟩, ?_, fun x hx => ?_⟩
  ·have : r.en look s := by
    have : r.en look { s with h := s.h } := by
     rw [q2]; intro m hm; rw [q3]; exact hn m (by rw [q4] at hm; omega)
    exact this
   exact this
  ·rw [List.map_cons, g3]; rfl
  ·rcases List.mem_cons.1 hx with rfl | hx
   ·exact ⟨o, by have := ho 0 o rfl; simpa using this, q1⟩
   ·exact g4 x hx
theorem apartGo_spec {m : Nat} {r : Rec} : ∀ {qs : List Rec} {i : Nat}, apartGo m r i qs = true -> ∀ k q, qs[k]? = some q -> m.testBit (i + k) = true \/ Apart q r
 | [], _, _, k, q, hq => by simp at hq
 | x :: qs, i, h, k, q, hq => by
  simp only [apartGo, Bool.and_eq_true, Bool.or_eq_true] at h;cases k with
  | zero =>
   simp at hq; subst hq
   exact h.1.imp id Rec.apart_spec
  | succ k =>
   have := apartGo_spec h.2 k q (by simpa using hq)
   rwa [show i + 1 + k = i + (k + 1) from by omega] at this
theorem apartAll_spec : ∀ {rs : List Rec} {ms : List Nat} {j : Nat} {done : List Rec}, apartAll ms j done rs = true -> ∀ k r, rs[k]? = some r -> ∃ m, ms[k]? = some m /\ ∀ i q, (done ++ rs.take k)[i]? = some q -> m.testBit i = true \/ Apart q r
 | [], _, _, _, _, k, r, hr => by simp at hr
 | x :: rs, [], j, done, h, k, r, hr => by cases h
 | x :: rs, m :: ms, j, done, h, k, r, hr => by
  simp only [apartAll, Bool.and_eq_true] at h;cases k with
  | zero =>
   simp at hr; subst hr
   refine ⟨m, rfl, fun i q hq => ?_⟩
   have := apartGo_spec h.1 i q (by simpa using hq)
   rwa [Nat.zero_add] at this
  | succ k =>
   obtain ⟨m', g1, g2⟩ := apartAll_spec h.2 k r (by simpa using hr)
   refine ⟨m', by simpa using g1, fun i q hq => g2 i q ?_⟩
   simpa using hq
theorem textOk_spec : ∀ {os : List Oper} {n : Nat}, textOk os n = true -> ∀ i o, os[i]? = some o -> ∀ e ∈ o.after.toList, Region.binds .any e = true -> e.on < n + i
 | [], _, _, i, o, ho, _, _, _ => by simp at ho
 | x :: os, n, h, i, o, ho, e, he, hb => by
  simp only [textOk, Bool.and_eq_true] at h;cases i with
  | zero =>
   simp at ho; subst ho
   have := List.all_eq_true.1 h.1 e he
   rw [hb] at this;simpa using this
  | succ i =>
   have := textOk_spec h.2 i o (by simpa using ho) e he hb
   omega
theorem getB_pad (H : Heap) (n b : Nat) : getB (H ++ List.replicate n .dead) b = getB H b := by
 rw [getB_eq, getB_eq];rcases Nat.lt_or_ge b H.length with h | h
 ·rw [List.getElem?_append_left h]
 ·rw [List.getElem?_append_right h, List.getElem?_eq_none h, List.getElem?_replicate]
  split <;> rfl
theorem env_pad (hE : RepH G E) (n : Nat) : RepH G ⟨E.β, E.H ++ List.replicate n .dead, E.w, E.R⟩ /\ Ext E ⟨E.β, E.H ++ List.replicate n .dead, E.w, E.R⟩ := by
 have x : Ext E ⟨E.β, E.H ++ List.replicate n .dead, E.w, E.R⟩ := {
  os := rfl, tape := rfl, output := rfl, size := Nat.le_refl _, ro := fun _ h => h, rnew := fun _ h => .inl h, keep := fun _ _ _ => rfl
  cells := fun k c e fz h => ⟨c, fz, h, rfl⟩
  blk := fun b => by rw [getB_pad]; cases getB E.H b <;> simp [BExt]
  fresh := fun b k h1 h2 => .inl ⟨b, by rw [getB_pad] at h1; exact h1, h2⟩ }
 refine ⟨⟨fun k hk => ⟨(hE.ro k hk).1, fun b hb => ?_⟩, fun b b' k h1 h2 => ?_, fun b => ?_, hE.globExt x⟩, x⟩
 ·rw [getB_pad] at hb; exact (hE.ro k hk).2 b hb
 ·rw [getB_pad] at h1 h2; exact hE.inj b b' k h1 h2
 ·rw [getB_pad];refine (hE.blk b).ext hE x rfl (fun _ _ _ h => h) (fun t xs k hf hk b' hl hb' => ?_)
  rw [getB_pad] at hl ⊢;exact hE.shares hf hk hl hb'
theorem opsX_way {main : Bool} {Stop : Goroutine -> World -> Prop} {b : Frame} {k : List Item} {cs : List Frame} (hb : b.kind ≠ .early) : ∀ {is : List Nat} {a : Act} {w : World}, opsX P ops Q is a w ->
  (∀ a' w', Q a' w' -> Way P main Stop (Conc.G (b.at a' (.inRegion ops [] :: k)) cs) w') -> Way P main Stop (Conc.G (b.at a (.inRegion ops is :: k)) cs) w
 | [], a, w, h, hk => hk a w h
 | i :: is, a, w, h, hk => h main Stop b is k cs hb fun a' w' q => opsX_way hb q hk
theorem runRegion_sound (hsp : SpecOk P S) (hm : P.follows .mixedOrders = true) {draw : Bool} {s s' : St} {a : Act} {ds : List Deferred} {id : Nat} (hs : Rp S.gl E s a ds) (h : (runRegion S P ops draw s).val = some s')
  {main : Bool} {Stop : Goroutine -> World -> Prop} {b : Frame} {k : List Item} {cs : List Frame} (hb : b.kind ≠ .early)
  (hQ : ∀ E' a', Ext E E' -> Rp S.gl E' s' a' ds -> Way P main Stop (Conc.G (b.at a' k) cs) E'.w) : Way P main Stop (Conc.G (b.at a (.code (.region id ops draw) :: k)) cs) E.w := by
 unfold runRegion at h;obtain ⟨⟨s1, recs⟩, h1, h2⟩ := val_bind h;obtain ⟨hp1, hp2⟩ := env_pad hs.h (sumSlots S ops.toList);obtain ⟨l, g1, g2, g3, g4⟩ := runOps_sound hsp (k := 0) h1 (fun i o hi => by simpa using hi) (fun p hp => by cases hp) (fun m hm => by
  refine ⟨?_, by simp; omega⟩
  show getB (s.h ++ _) _ = _
  rw [getB_pad, getB_eq, List.getElem?_eq_none (by omega)]; rfl)
 have hs0 : Rp S.gl ⟨E.β, E.H ++ List.replicate (sumSlots S ops.toList) .dead, E.w, E.R⟩ { s with h := s.h ++ List.replicate (sumSlots S ops.toList) .dead } a ds :=
  ⟨hp1, by show E.H ++ _ = s.h ++ _; rw [hs.eq], RelTs.ext hs.h hp2 _ _ hs.t, hs.d⟩
 rw [List.range'_eq_map_range] at g3;have hi : l.map (·.i) = List.range ops.size := by simpa using g3
 cases draw with
 | false =>
  obtain rfl := val_ret h2;refine Way.ctl rfl (fun _ => Conc.stepG_region) ?_
  have hc := chain_text (Q := fun a' w' => Way P main Stop (Conc.G (b.at a' k) cs) w') (E := ⟨E.β, E.H ++ List.replicate (sumSlots S ops.toList) .dead, E.w, E.R⟩) g4 g2 hs0 (fun E' a' q1 q2 => hQ E' a' (hp2.trans q1) q2)
  rw [hi] at hc;exact opsX_way hb hc (fun a' w' q => Way.ctl rfl (fun _ => Conc.stepG_region_end) q)
 | true =>
  simp only at h2
  split at h2
  ·rename_i hc;obtain rfl := val_ret h2;simp only [Bool.and_eq_true] at hc;obtain ⟨hc1, hc2⟩ := hc;have hlen : l.length = ops.size := by have := congrArg List.length hi; simpa using this
   have hidx : ∀ (i : Nat) (hi' : i < l.length), (l[i]).i = i := fun i hi' => by
    have : (l.map (·.i))[i]? = (List.range ops.size)[i]? := by rw [hi]
    rw [List.getElem?_map, List.getElem?_eq_getElem hi', List.getElem?_range (by omega)] at this
    simpa using this
   refine Way.go rfl (fun w₁ g => lock_draw w₁) (fun w₁ g => ⟨_, _, _, stepG_draw, ?_⟩)
   have g9 : Grow E.w { w₁ with drawn := w₁.drawn + 1 } := ⟨g.os, g.tape, g.output, g.size, g.heap⟩
   obtain ⟨e2, hs1⟩ := hs0.grow (w₁ := { w₁ with drawn := w₁.drawn + 1 }) g9
   simp only [Region.schedule, hm, Bool.true_or, if_true];refine opsX_way hb (anyX_sound (Q := fun a' w' => Way P main Stop (Conc.G (b.at a' k) cs) w') ops.size _ _ a { w₁ with drawn := w₁.drawn + 1 } ?_) (fun a' w' q => Way.ctl rfl (fun _ => Conc.stepG_region_end) q)
   refine anyX_chain (G := S.gl) (E := ⟨E.β, E.H ++ List.replicate (sumSlots S ops.toList) .dead, { w₁ with drawn := w₁.drawn + 1 }, E.R⟩) (bit := fun i j => ∃ m, (masks ops.toList [])[i]? = some m /\ m.testBit j = true) ?_ ?_ ops.size hlen (by simp) ?_ ?_ ?_ g4 g2 hs1
    (fun E' a' q1 q2 => hQ E' a' ((hp2.trans e2).trans q1) q2)
   ·rintro listed hcl i o ho hes j ⟨m, hm1, hm2⟩
    obtain ⟨z1, _⟩ := masks_spec (listed := fun i => listed.getD i false) (all := ops.toList) (fun i o ho hl => hcl i o (by simpa using ho) hl) (os := ops.toList) (acc := []) (pre := []) rfl rfl (fun i o m _ hm => by simp at hm)
    exact z1 i o m (by simpa using ho) hm1 hes j hm2
   ·intro i o ho e he hb;have := textOk_spec hc1 i o (by simpa using ho) e he hb
    omega
   ·intro i hi';constructor
    ·intro _;exact ⟨l[i]'(by omega), List.getElem_mem _, hidx i (by omega)⟩
    ·intro _;simp [Array.getD, hi']
   ·intro i o ho hl;exfalso;by_cases hi' : i < ops.size <;> simp [Array.getD, hi'] at hl
   ·rw [List.pairwise_iff_getElem];intro i j hi' hj hij;rw [hidx i hi', hidx j hj];refine ⟨hij, ?_⟩
    rw [g1] at hc2;simp only [List.append_nil, List.reverse_reverse] at hc2;obtain ⟨m, z1, z2⟩ := apartAll_spec hc2 j (l[j]).r (by rw [List.getElem?_map, List.getElem?_eq_getElem hj]; rfl)
    have := z2 i (l[i]).r (by
     rw [List.nil_append, List.getElem?_take, if_pos hij, List.getElem?_map, List.getElem?_eq_getElem hi']; rfl)
    exact this.imp (fun q => ⟨m, z1, q⟩) (fun q => q)
  ·cases h2
end Go.SX
