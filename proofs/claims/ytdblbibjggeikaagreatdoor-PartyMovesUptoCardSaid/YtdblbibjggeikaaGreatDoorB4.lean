/- SX, part 24: whole bodies. -/
import Derived.Test.YtdblbibjggeikaaGreatDoorB3
import Derived.Laws.Sem
set_option linter.unusedSectionVars false
set_option linter.unusedVariables false
set_option linter.unusedSimpArgs false
namespace Go.SX
open Go
variable {P : Program} {G : GlobT} {E : Env} {S : Tab} {F : Act -> World -> Prop} [Level]
inductive Left (b : Frame) (k : List Item) (cs : List Frame) (a : Act) : Goroutine -> Prop
 | on : Left b k cs a (Conc.G (b.at a k) cs)
 | ret (todo : List Item) : Left b k cs a (Conc.G { b.at a todo with mode := .returning } cs)
def ItemsWp (P : Program) (F : Act -> World -> Prop) (is : List Item) (a : Act) (w : World) : Prop :=
 ∀ (main : Bool) (Stop : Goroutine -> World -> Prop) (b : Frame) (k : List Item) (cs : List Frame), b.kind ≠ .early -> (∀ g a' w', Left b k cs a' g -> F a' w' -> Way P main Stop g w') -> Way P main Stop (Conc.G (b.at a (is ++ k)) cs) w
theorem ItemsWp.mono {F' : Act -> World -> Prop} {is : List Item} {a : Act} {w : World} (h : ItemsWp P F is a w) (hf : ∀ a w, F a w -> F' a w) : ItemsWp P F' is a w :=
 fun main Stop b k cs hb hk => h main Stop b k cs hb fun g a' w' hl q => hk g a' w' hl (hf _ _ q)
theorem ItemsWp.step {is js : List Item} {a : Act} {w : World} (hs : ∀ (main : Bool) (b : Frame) (k : List Item) (cs : List Frame) (w : World), stepG P main (Conc.G (b.at a (is ++ k)) cs) w = .go (Conc.G (b.at a (js ++ k)) cs) w) (h : ItemsWp P F js a w) : ItemsWp P F is a w :=
 fun main Stop b k cs hb hk => Way.ctl rfl (fun w => hs main b k cs w) (h main Stop b k cs hb hk)
theorem ItemsWp.nil {a : Act} {w : World} (h : F a w) : ItemsWp P F [] a w :=
 fun main Stop b k cs hb hk => hk _ a w .on h
theorem ItemsWp.ret {is : List Item} {a : Act} {w : World} (h : F a w) : ItemsWp P F (.code .ret :: is) a w :=
 fun main Stop b k cs hb hk => Way.ctl rfl (fun w => stepG_ret') (hk _ a w (.ret _) h)
theorem exitTo_append {id : Nat} : ∀ {is js k : List Item}, exitTo id is = some js -> exitTo id (is ++ k) = some (js ++ k)
 | [], _, _, h => by cases h
 | x :: is, js, k, h => by
  cases x <;> simp only [exitTo, List.cons_append] at h ⊢ <;> try (exact exitTo_append h)
  split at h
  ·rename_i hid; rw [if_pos hid]; rw [smI h]
  ·rename_i hid; rw [if_neg hid]; exact exitTo_append h
theorem evalO_rel {s : St} {a : Act} {ds : List Deferred} (hs : Rp G E s a ds) (x : Operand) : RelS E (evalO G s.t x) (a.eval x) := by
 have := evalK_rel (ks := []) (G := G) hs.h (a := a) (t := s.t) (fun p hp => by cases hp) x (fun u _ => relTs_get hs.t)
 cases x <;> exact this
set_option maxHeartbeats 2000000 in
theorem runK_sound (hsp : SpecOk P S) (hm : P.follows .mixedOrders = true) {un : Code -> Bool} {ds : List Deferred} : ∀ (n : Nat) {is : List Item} {s : St} {out : Out} {E : Env} {a : Act}, (runK S P un n is s).val = some out -> Rp S.gl E s a ds ->
  (∀ E' a', Ext E E' -> (match out with | .fin s' => Rp S.gl E' s' a' ds -> F a' E'.w | .stop todo s' => Rp S.gl E' s' a' ds -> ItemsWp P F todo a' E'.w)) -> ItemsWp P F is a E.w
 | 0, is, s, out, E, a, h, hs, hout => by
  obtain rfl := val_ret h;exact hout E a (Ext.refl E) hs
 | n + 1, [], s, out, E, a, h, hs, hout => by
  obtain rfl := val_ret h;exact .nil (hout E a (Ext.refl E) hs)
 | n + 1, .inBlock id :: k, s, out, E, a, h, hs, hout => .step (fun _ _ _ _ _ => Conc.stepG_inBlock) (runK_sound hsp hm n h hs hout)
 | n + 1, .inLoop c :: k, s, out, E, a, h, hs, hout => by
  simp only [runK] at h;split at h
  ·exact .step (fun _ _ _ _ _ => Conc.stepG_inLoop) (runK_sound hsp hm n h hs hout)
  ·obtain rfl := val_ret h;exact .step (fun _ _ _ _ _ => Conc.stepG_inLoop) (hout E a (Ext.refl E) hs)
 | n + 1, .code c :: k, s, out, E, a, h, hs, hout => by
  cases c with
  | skip => exact .step (fun _ _ _ _ _ => Conc.stepG_skip) (runK_sound hsp hm n h hs hout)
  | label l => exact .step (fun _ _ _ _ _ => Conc.stepG_label) (runK_sound hsp hm n h hs hout)
  | seq x y => exact .step (fun _ _ _ _ _ => Conc.stepG_seq) (runK_sound hsp hm n h hs hout)
  | block id c => exact .step (fun _ _ _ _ _ => Conc.stepG_block) (runK_sound hsp hm n h hs hout)
  | loop c =>
   simp only [runK] at h;split at h
   ·exact .step (fun _ _ _ _ _ => Conc.stepG_loop) (runK_sound hsp hm n h hs hout)
   ·obtain rfl := val_ret h;exact .step (fun _ _ _ _ _ => Conc.stepG_loop) (hout E a (Ext.refl E) hs)
  | exit id =>
   simp only [runK] at h;split at h
   ·rename_i k' hk;exact .step (fun _ _ _ _ _ => Conc.stepG_exit (exitTo_append hk)) (runK_sound hsp hm n h hs hout)
   ·cases h
  | cond c x y =>
   simp only [runK] at h;have he := evalO_rel hs c
   split at h
   ·rename_i b hc;rw [hc] at he;have he : a.eval c = .bool b := he
    split at h
    ·exact .step (fun _ _ _ _ _ => Conc.stepG_cond he) (runK_sound hsp hm n h hs hout)
    ·exact .step (fun _ _ _ _ _ => Conc.stepG_cond he) (runK_sound hsp hm n h hs hout)
   ·rename_i b hc;rw [hc] at he;have he : a.eval c = .bool b := he
    cases b with
    | true => exact .step (fun _ _ _ _ _ => Conc.stepG_cond he) (runK_sound hsp hm n (by simpa [Tree.val] using h) hs hout)
    | false => exact .step (fun _ _ _ _ _ => Conc.stepG_cond he) (runK_sound hsp hm n (by simpa [Tree.val] using h) hs hout)
   ·cases h
  | region id ops draw =>
   simp only [runK] at h;obtain ⟨s1, h1, h2⟩ := val_bind h;intro main Stop b k' cs hb hk;exact runRegion_sound (id := id) hsp hm hs h1 hb (fun E' a' x hs' => (runK_sound hsp hm n h2 hs' (fun E'' a'' x' => hout E'' a'' (x.trans x')) : ItemsWp P F k a' E'.w) main Stop b k' cs hb hk)
  | ret =>
   obtain rfl := val_ret h;exact .ret (hout E a (Ext.refl E) hs)
  | _ => cases h
 | n + 1, .inRegion .. :: k, s, out, E, a, h, hs, hout => by cases h
 | n + 1, .inScope .. :: k, s, out, E, a, h, hs, hout => by cases h
end Go.SX
namespace Go.SX
open Go
variable {P : Program} {G : GlobT} {E : Env} {ops : Array Oper} {Q : Act -> World -> Prop} {S : Tab} [Level]
def lastOk (ops : Array Oper) : Bool := Nat.blt 0 ops.size && (List.range (ops.size - 1)).all fun i => ((masks ops.toList []).getD (ops.size - 1) 0).testBit i
def runHold (S : Tab) (P : Program) (ops : Array Oper) (s : St) : Tree St :=
 let s0 : St := { s with h := s.h ++ List.replicate (sumSlots S ops.toList.dropLast) .dead }
 (runOps S P ops ops.toList.dropLast s.h.length [] s0 []).bind fun p =>
  match textOk ops.toList 0 && apartAll (masks ops.toList []) 0 [] p.2.reverse && lastOk ops with
  | true => .ret p.1
  | false => .fail
def holdX (P : Program) (ops : Array Oper) (L : Nat) (Q : Act -> World -> Prop) : List Nat -> Act -> World -> Prop
 | [], _, _ => False
 | i :: is, a, w => (i = L /\ is = [] /\ Q a w) \/ opX P ops i (holdX P ops L Q is) a w
theorem holdX_way {L : Nat} {main : Bool} {Stop : Goroutine -> World -> Prop} {b : Frame} {k : List Item} {cs : List Frame} (hb : b.kind ≠ .early) : ∀ {is : List Nat} {a : Act} {w : World}, holdX P ops L Q is a w ->
  (∀ a' w', Q a' w' -> Way P main Stop (Conc.G (b.at a' (.inRegion ops [L] :: k)) cs) w') -> Way P main Stop (Conc.G (b.at a (.inRegion ops is :: k)) cs) w
 | [], _, _, h, _ => h.elim
 | i :: is, a, w, h, hk => by
  rcases h with ⟨rfl, rfl, h⟩ | h
  ·exact hk a w h
  ·exact h main Stop b is k cs hb fun a' w' q => holdX_way hb q hk
def anyH (P : Program) (md : Region.Mode) (ops : Array Oper) (L : Nat) (Q : Act -> World -> Prop) : Nat -> Array Bool -> Act -> World -> Prop
 | 0, _, _, _ => False
 | fuel + 1, listed, a, w => (Region.ready md ops listed = [L] /\ Region.ready md ops (listed.setIfInBounds L true) = [] /\ Q a w) \/
   (Region.ready md ops listed ≠ [] /\ ∀ i ∈ Region.ready md ops listed, opX P ops i (anyH P md ops L Q fuel (listed.setIfInBounds i true)) a w)
theorem go_done {md : Region.Mode} : ∀ (fuel t : Nat) (listed : Array Bool), Region.ready md ops listed = [] -> Region.linearise.go md ops fuel t listed [] = [] := by
 intro fuel t listed h;cases fuel with
 | zero => rfl
 | succ fuel =>
  simp only [Region.linearise.go]
  change (match (Region.ready md ops listed)[t % (Region.ready md ops listed).length]? with
   | some i => Region.linearise.go md ops fuel (t / (Region.ready md ops listed).length) (listed.setIfInBounds i true) [i]
   | none => [].reverse) = []
  rw [h];rfl
theorem anyH_sound {md : Region.Mode} {L : Nat} : ∀ (fuel t : Nat) (listed : Array Bool) (a : Act) (w : World), anyH P md ops L Q fuel listed a w -> holdX P ops L Q (Region.linearise.go md ops fuel t listed []) a w := by
 intro fuel
 induction fuel with
 | zero => intro t listed a w h; exact h.elim
 | succ fuel ih =>
  intro t listed a w h;simp only [Region.linearise.go]
  change holdX P ops L Q (match (Region.ready md ops listed)[t % (Region.ready md ops listed).length]? with
   | some i => Region.linearise.go md ops fuel (t / (Region.ready md ops listed).length) (listed.setIfInBounds i true) [i]
   | none => [].reverse) a w
  rcases h with ⟨h1, h2, h3⟩ | ⟨h1, h2⟩
  ·rw [h1];have : t % [L].length = 0 := by simp [Nat.mod_one]
   rw [this];simp only [List.getElem?_cons_zero]
   rw [linearise_go_acc, List.reverse_singleton, List.singleton_append, go_done _ _ _ h2];exact .inl ⟨rfl, rfl, h3⟩
  ·cases hi : (Region.ready md ops listed)[t % (Region.ready md ops listed).length]? with
   | none =>
    exfalso;cases hr : Region.ready md ops listed with
    | nil => exact h1 hr
    | cons x xs =>
     rw [hr] at hi;have hlt : t % (x :: xs).length < (x :: xs).length := Nat.mod_lt _ (by simp)
     rw [List.getElem?_eq_getElem hlt] at hi
     cases hi
   | some i =>
    simp only [];rw [linearise_go_acc, List.reverse_singleton, List.singleton_append];exact .inr (opX_mono (fun a w => ih _ _ a w) (h2 i (List.mem_of_getElem? hi)))
theorem anyH_chain {ds : List Deferred} {L : Nat} (hL : ops.size = L + 1) {bit : Nat -> Nat -> Prop} (hlast : ∀ j, j < L -> bit L j) (hbit : ∀ (listed : Array Bool), Closed ops listed -> ∀ i o, ops[i]? = some o -> (∀ e ∈ o.after.toList, Region.binds .any e = true -> listed.getD e.on false = true) -> ∀ j, bit i j -> listed.getD j false = true)
  (htext : ∀ i o, ops[i]? = some o -> ∀ e ∈ o.after.toList, Region.binds .any e = true -> e.on < i) {f : St} :
  ∀ (n : Nat) {listed : Array Bool} {l : List NRec} {s : St} {E : Env} {a : Act}, l.length = n -> listed.size = ops.size ->
   (∀ i, i < L -> (listed.getD i false = false ↔ ∃ x ∈ l, x.i = i)) -> listed.getD L false = false -> (∀ x ∈ l, x.i < L) -> Closed ops listed -> l.Pairwise (fun x y => x.i < y.i /\ (bit y.i x.i \/ Apart x.r y.r)) ->
   (∀ x ∈ l, ∃ o, ops[x.i]? = some o /\ RecOk P G ops o x.r x.look) -> Chain s l f -> Rp G E s a ds -> (∀ E' a', Ext E E' -> Rp G E' f a' ds -> Q a' E'.w) ->
   anyH P .any ops L Q (n + 1) listed a E.w
 | 0, listed, l, s, E, a, hl, hsz, hmem, hLun, hlt, hcl, hpw, hok, hc, hs, hQ => by
  have hl : l = [] := List.eq_nil_of_length_eq_zero hl
  subst hl;have hall : ∀ i, i < L -> listed.getD i false = true := fun i hi => by
   cases h : listed.getD i false with
   | true => rfl
   | false => obtain ⟨x, hx, _⟩ := (hmem i hi).1 h; cases hx
  have hgt : ∀ (li : Array Bool) i, li.size = ops.size -> i < ops.size -> li.getD i true = li.getD i false := fun li i h1 h2 => by simp [Array.getD, h1, h2]
  have hLo : ∃ o, ops[L]? = some o := ⟨ops[L], Array.getElem?_eq_getElem (by omega)⟩
  obtain ⟨o, ho⟩ := hLo;left;refine ⟨?_, ?_, ?_⟩
  ·have hin : L ∈ Region.ready .any ops listed := ready_of ho (by rw [hgt _ _ hsz (by omega)]; exact hLun) fun e he hb => hall _ (htext L o ho e he hb)
   have hout : ∀ i, i ∈ Region.ready .any ops listed -> i = L := fun i hi => by
    obtain ⟨h1, h2, _⟩ := ready_spec hi;rw [hgt _ _ hsz h1] at h2;rcases Nat.lt_or_ge i L with h | h
    ·rw [hall i h] at h2; cases h2
    ·omega
   unfold Region.ready at hin hout ⊢;rw [hL, List.range_succ, List.filter_append] at hin hout ⊢;have e1 : (List.range L).filter (fun i => !listed.getD i true && ((ops[i]?).map fun o => o.after.all fun e => !Region.binds .any e || listed.getD e.on false).getD false) = [] := by
    refine List.filter_eq_nil_iff.2 fun i hi hp => ?_
    have := hout i (List.mem_append_left _ (List.mem_filter.2 ⟨hi, hp⟩))
    have := List.mem_range.1 hi
    omega
   rw [e1, List.nil_append] at hin ⊢;have hp := (List.mem_filter.1 hin).2
   exact List.filter_eq_self.2 fun y hy => by rw [List.mem_singleton.1 hy]; exact hp
  ·refine List.eq_nil_iff_forall_not_mem.2 fun i hi => ?_
   obtain ⟨h1, h2, _⟩ := ready_spec hi;rw [hgt _ _ (by simpa using hsz) h1] at h2
   simp only [Array.getD_eq_getD_getElem?, Array.getElem?_setIfInBounds] at h2
   split at h2
   ·rename_i e;rw [if_pos (by rw [hsz]; omega)] at h2
    cases h2
   ·rename_i e;have := hall i (by omega)
    rw [Array.getD_eq_getD_getElem?] at this;rw [this] at h2;cases h2
  ·have hc : s = f := hc
   subst hc;exact hQ E a (Ext.refl E) hs
 | n + 1, listed, l, s, E, a, hl, hsz, hmem, hLun, hlt, hcl, hpw, hok, hc, hs, hQ => by
  right;constructor
  ·intro hr;cases l with
   | nil => cases hl
   | cons x l =>
    obtain ⟨o, ho, _⟩ := hok x List.mem_cons_self;have hi : x.i < ops.size := (Array.getElem?_eq_some_iff.1 ho).1
    have hx : listed.getD x.i false = false := (hmem x.i (hlt x List.mem_cons_self)).2 ⟨x, List.mem_cons_self, rfl⟩
    have : x.i ∈ Region.ready .any ops listed := by
     refine ready_of ho ?_ (fun e he hb => ?_)
     ·simp [Array.getD, hsz, hi] at hx ⊢; exact hx
     ·have hlt' := htext x.i o ho e he hb
      have := hlt x List.mem_cons_self
      cases hle : listed.getD e.on false with
      | true => rfl
      | false =>
       obtain ⟨y, hy, hyi⟩ := (hmem e.on (by omega)).1 hle
       rcases List.mem_cons.1 hy with rfl | hy
       ·omega
       ·have := (List.rel_of_pairwise_cons hpw hy).1
        omega
    rw [hr] at this; cases this
  ·intro i hi;obtain ⟨h1, h2, o, ho, hes⟩ := ready_spec hi;have hun : listed.getD i false = false := by
    simp [Array.getD, hsz, h1] at h2 ⊢; exact h2
   have hiL : i < L := by
    rcases Nat.lt_or_ge i L with h | h
    ·exact h
    ·obtain rfl : i = L := by omega
     cases l with
     | nil => cases hl
     | cons x l =>
      have hxl := hlt x List.mem_cons_self
      have h3 := hbit listed hcl i o ho hes x.i (hlast _ hxl)
      rw [(hmem x.i hxl).2 ⟨x, List.mem_cons_self, rfl⟩] at h3;cases h3
   obtain ⟨x, hx, rfl⟩ := (hmem i hiL).1 hun;obtain ⟨pre, post, rfl⟩ := List.append_of_mem hx;obtain ⟨o', ho', hok'⟩ := hok x hx;rw [ho] at ho'; obtain rfl := smI ho';have hap : ∀ q ∈ pre, Apart q.r x.r := fun q hq => by
    have := (List.pairwise_append.1 hpw).2.2 q hq x List.mem_cons_self
    refine this.2.resolve_left fun hb => ?_
    have hlq := hbit listed hcl x.i o ho hes q.i hb
    have := (hmem q.i (hlt q (List.mem_append_left _ hq))).2 ⟨q, List.mem_append_left _ hq, rfl⟩
    rw [this] at hlq; cases hlq
   obtain ⟨g1, g2⟩ := Chain.first hc hap;refine hok'.first ho g1 hs (fun E' a' q1 q2 => ?_)
   have hset : ∀ j, (listed.setIfInBounds x.i true).getD j false = if j = x.i then true else listed.getD j false := fun j => by
    simp only [Array.getD_eq_getD_getElem?, Array.getElem?_setIfInBounds]
    split
    ·rename_i e; subst e; rw [hsz, if_pos h1, if_pos rfl]; rfl
    ·rename_i e; rw [if_neg (fun q => e q.symm)]
   have hpw' : (pre ++ post).Pairwise (fun x y => x.i < y.i /\ (bit y.i x.i \/ Apart x.r y.r)) := hpw.sublist (List.append_sublist_append_left _ |>.2 (List.sublist_cons_self _ _))
   have hsub : ∀ y, y ∈ pre ++ post -> y ∈ pre ++ x :: post := fun y hy => by
    rcases List.mem_append.1 hy with hy | hy
    ·exact List.mem_append_left _ hy
    ·exact List.mem_append_right _ (List.mem_cons_of_mem _ hy)
   refine anyH_chain hL hlast hbit htext n (by simp at hl ⊢; omega) (by simp [hsz]) (fun j hj => ?_) (by rw [hset, if_neg (by omega)]; exact hLun) (fun y hy => hlt y (hsub y hy)) ?_ hpw' (fun y hy => hok y (hsub y hy)) g2 q2 (fun E'' a'' r1 r2 => hQ E'' a'' (q1.trans r1) r2)
   ·rw [hset];by_cases hjx : j = x.i
    ·subst hjx;rw [if_pos rfl];constructor
     ·intro h; cases h
     ·rintro ⟨y, hy, hyi⟩
      exfalso;rcases List.mem_append.1 hy with hy | hy
      ·have := ((List.pairwise_append.1 hpw).2.2 y hy x List.mem_cons_self).1; omega
      ·have := (List.rel_of_pairwise_cons (List.pairwise_append.1 hpw).2.1 hy).1; omega
    ·rw [if_neg hjx, hmem j hj];constructor
     ·rintro ⟨y, hy, rfl⟩
      refine ⟨y, ?_, rfl⟩
      rcases List.mem_append.1 hy with hy | hy
      ·exact List.mem_append_left _ hy
      ·rcases List.mem_cons.1 hy with rfl | hy
       ·exact (hjx rfl).elim
       ·exact List.mem_append_right _ hy
     ·rintro ⟨y, hy, rfl⟩
      exact ⟨y, hsub y hy, rfl⟩
   ·intro j oj hoj hlj e he hb;rw [hset] at hlj ⊢;split
    ·rfl
    ·split at hlj
     ·rename_i hjx; subst hjx;rw [ho] at hoj; obtain rfl := smI hoj;exact hes e he hb
     ·exact hcl j oj hoj hlj e he hb
theorem runHold_sound (hsp : SpecOk P S) (hm : P.follows .mixedOrders = true) {s s' : St} {a : Act} {ds : List Deferred} {id : Nat} {draw : Bool} (hs : Rp S.gl E s a ds) (h : (runHold S P ops s).val = some s')
  {main : Bool} {Stop : Goroutine -> World -> Prop} {b : Frame} {k : List Item} {cs : List Frame} (hb : b.kind ≠ .early)
  (hQ : ∀ E' a', Ext E E' -> Rp S.gl E' s' a' ds -> Way P main Stop (Conc.G (b.at a' (.inRegion ops [ops.size - 1] :: k)) cs) E'.w) : Way P main Stop (Conc.G (b.at a (.code (.region id ops draw) :: k)) cs) E.w := by
 unfold runHold at h;obtain ⟨⟨s1, recs⟩, h1, h2⟩ := val_bind h;simp only at h2
 split at h2
 case h_2 => cases h2
 rename_i hc;obtain rfl := val_ret h2;simp only [Bool.and_eq_true] at hc;obtain ⟨⟨hc1, hc2⟩, hc3⟩ := hc;unfold lastOk at hc3;simp only [Bool.and_eq_true, List.all_eq_true, List.mem_range] at hc3;obtain ⟨hpos, hlast⟩ := hc3;have hpos : 0 < ops.size := Nat.le_of_ble_eq_true hpos
 obtain ⟨L, hL⟩ : ∃ L, ops.size = L + 1 := ⟨ops.size - 1, by omega⟩
 have hL' : ops.size - 1 = L := by omega
 rw [hL'] at hlast hQ;obtain ⟨hp1, hp2⟩ := env_pad hs.h (sumSlots S ops.toList.dropLast);have hdl : ops.toList.dropLast.length = L := by simp [hL]
 have hdi : ∀ i o, ops.toList.dropLast[i]? = some o -> ops[i]? = some o := fun i o hi => by
  rw [List.getElem?_dropLast] at hi
  split at hi
  ·simpa using hi
  ·cases hi
 obtain ⟨l, g1, g2, g3, g4⟩ := runOps_sound hsp (k := 0) h1 (fun i o hi => by simpa using hdi i o hi) (fun p hp => by cases hp) (fun m hm => by
  refine ⟨?_, by simp; omega⟩
  show getB (s.h ++ _) _ = _
  rw [getB_pad, getB_eq, List.getElem?_eq_none (by omega)]; rfl)
 have hs0 : Rp S.gl ⟨E.β, E.H ++ List.replicate (sumSlots S ops.toList.dropLast) .dead, E.w, E.R⟩ { s with h := s.h ++ List.replicate (sumSlots S ops.toList.dropLast) .dead } a ds :=
  ⟨hp1, by show E.H ++ _ = s.h ++ _; rw [hs.eq], RelTs.ext hs.h hp2 _ _ hs.t, hs.d⟩
 rw [List.range'_eq_map_range, hdl] at g3;have hi : l.map (·.i) = List.range L := by simpa using g3
 have hlen : l.length = L := by have := congrArg List.length hi; simpa using this
 have hidx : ∀ (i : Nat) (hi' : i < l.length), (l[i]).i = i := fun i hi' => by
  have : (l.map (·.i))[i]? = (List.range L)[i]? := by rw [hi]
  rw [List.getElem?_map, List.getElem?_eq_getElem hi', List.getElem?_range (by omega)] at this
  simpa using this
 cases draw with
 | false =>
  refine Way.ctl rfl (fun _ => Conc.stepG_region) ?_
  have hc := chain_text (Q := fun a' w' => Way P main Stop (Conc.G (b.at a' (.inRegion ops [L] :: k)) cs) w') (E := ⟨E.β, E.H ++ List.replicate (sumSlots S ops.toList.dropLast) .dead, E.w, E.R⟩) g4 g2 hs0 (fun E' a' q1 q2 => hQ E' a' (hp2.trans q1) q2)
  rw [hi] at hc;have key : ∀ (is : List Nat) (a : Act) (w : World), opsX P ops (fun a' w' => Way P main Stop (Conc.G (b.at a' (.inRegion ops [L] :: k)) cs) w') is a w -> Way P main Stop (Conc.G (b.at a (.inRegion ops (is ++ [L]) :: k)) cs) w := by
   intro is
   induction is with
   | nil => exact fun a w h => h
   | cons i is ih => exact fun a w h => h main Stop b (is ++ [L]) k cs hb fun a' w' q => ih a' w' q
  rw [hL, List.range_succ];exact key _ _ _ hc
 | true =>
  refine Way.go rfl (fun w₁ g => lock_draw w₁) (fun w₁ g => ⟨_, _, _, stepG_draw, ?_⟩)
  have g9 : Grow E.w { w₁ with drawn := w₁.drawn + 1 } := ⟨g.os, g.tape, g.output, g.size, g.heap⟩
  obtain ⟨e2, hs1⟩ := hs0.grow (w₁ := { w₁ with drawn := w₁.drawn + 1 }) g9
  simp only [Region.schedule, hm, Bool.true_or, if_true];have hmz := fun (listed : Array Bool) (hcl : Closed ops listed) => masks_spec (listed := fun i => listed.getD i false) (all := ops.toList) (fun i o ho hl => hcl i o (by simpa using ho) hl) (os := ops.toList) (acc := []) (pre := []) rfl rfl (fun i o m _ hm => by simp at hm)
  refine holdX_way (L := L) hb (anyH_sound (Q := fun a' w' => Way P main Stop (Conc.G (b.at a' (.inRegion ops [L] :: k)) cs) w') ops.size _ _ a { w₁ with drawn := w₁.drawn + 1 } ?_) (fun a' w' q => q)
  rw [hL];have hmlen : (masks ops.toList []).length = ops.size := by
   have := (hmz (Array.replicate ops.size false) (fun i o ho hl => by exfalso; by_cases hi' : i < ops.size <;> simp [Array.getD, hi'] at hl)).2
   simpa using this
  refine anyH_chain (G := S.gl) (E := ⟨E.β, E.H ++ List.replicate (sumSlots S ops.toList.dropLast) .dead, { w₁ with drawn := w₁.drawn + 1 }, E.R⟩) (bit := fun i j => ∃ m, (masks ops.toList [])[i]? = some m /\ m.testBit j = true) hL (fun j hj => ?_) ?_ ?_ L hlen (by simp [hL]) ?_ ?_ ?_ ?_ ?_ g4 g2 hs1
    (fun E' a' q1 q2 => hQ E' a' ((hp2.trans e2).trans q1) q2)
  ·have h9 := hlast j hj
   refine ⟨_, List.getElem?_eq_getElem (by omega), ?_⟩
   rw [List.getD_eq_getElem?_getD, List.getElem?_eq_getElem (show L < (masks ops.toList []).length by omega)] at h9
   exact h9
  ·rintro listed hcl i o ho hes j ⟨m, hm1, hm2⟩
   obtain ⟨z1, _⟩ := hmz listed hcl;exact z1 i o m (by simpa using ho) hm1 hes j hm2
  ·intro i o ho e he hb;have := textOk_spec hc1 i o (by simpa using ho) e he hb
   omega
  ·intro i hi';constructor
   ·intro _;exact ⟨l[i]'(by omega), List.getElem_mem _, hidx i (by omega)⟩
   ·intro _;simp [Array.getD]
  ·simp [Array.getD]
  ·intro x hx;obtain ⟨i, hi', rfl⟩ := List.mem_iff_getElem.1 hx;rw [hidx i hi'];omega
  ·intro i o ho hl;exfalso;by_cases hi' : i < ops.size <;> simp [Array.getD, hi'] at hl
  ·rw [List.pairwise_iff_getElem];intro i j hi' hj hij;rw [hidx i hi', hidx j hj];refine ⟨hij, ?_⟩
   rw [g1] at hc2;simp only [List.append_nil, List.reverse_reverse] at hc2;obtain ⟨m, z1, z2⟩ := apartAll_spec hc2 j (l[j]).r (by rw [List.getElem?_map, List.getElem?_eq_getElem hj]; rfl)
   have := z2 i (l[i]).r (by
    rw [List.nil_append, List.getElem?_take, if_pos hij, List.getElem?_map, List.getElem?_eq_getElem hi']; rfl)
   exact this.imp (fun q => ⟨m, z1, q⟩) (fun q => q)
end Go.SX
namespace Go.SX
open Go
variable {P : Program} {G : GlobT} {E E0 : Env} {S : Tab} {ids : List Nat} [Level]
def cutE (E : Env) (ids : List Nat) : Env := ⟨fun j => match ids[j]? with | some b => E.β b | none => none, ids.map fun b => keepB ids (getB E.H b), E.w, E.R⟩
theorem cut_none {j : Nat} (h : ids[j]? = none) : getB (cutE E ids).H j = .dead /\ (cutE E ids).β j = none := by
 constructor
 ·show getB (ids.map _) j = _
  rw [getB_eq, List.getElem?_map, h]; rfl
 ·show (match ids[j]? with | some b => E.β b | none => none) = _
  rw [h]
theorem cut_some {j b : Nat} (h : ids[j]? = some b) : getB (cutE E ids).H j = keepB ids (getB E.H b) /\ (cutE E ids).β j = E.β b := by
 constructor
 ·show getB (ids.map _) j = _
  rw [getB_eq, List.getElem?_map, h]; rfl
 ·show (match ids[j]? with | some b => E.β b | none => none) = _
  rw [h]
theorem keepB_arr {t : DTy} {xs : List t.den} {lo : Nat} {par : List Nat} : (t.rf = true /\ keepB ids (.arr t xs lo par) = .gone) \/ (t.rf = false /\ ∃ lo', keepB ids (.arr t xs lo par) = .arr t xs lo' (passPar ids par) /\ lo' <= lo /\ (passPar ids par ≠ [] -> lo' = lo)) := by
 cases hf : t.rf with
 | true => exact .inl ⟨rfl, by simp only [keepB, hf]⟩
 | false =>
  refine .inr ⟨rfl, ?_⟩
  cases h : passPar ids par with
  | nil => exact ⟨0, by simp only [keepB, h, hf], Nat.zero_le _, fun h => (h rfl).elim⟩
  | cons q qs => exact ⟨lo, by simp only [keepB, h, hf], Nat.le_refl _, fun _ => rfl⟩
theorem keepB_frz {t : DTy} {xs : List t.den} : (t.rf = true /\ keepB ids (.frz t xs) = .gone) \/ (t.rf = false /\ keepB ids (.frz t xs) = .frz t xs) := by
 cases hf : t.rf <;> simp [keepB, hf]
theorem live_keepB {k : Blk} (hl : live (keepB ids k) = true) : live k = true := by
 cases k with
 | arr t xs lo par => rfl
 | frz t xs => rcases keepB_frz (ids := ids) (xs := xs) with ⟨_, h⟩ | ⟨_, h⟩ <;> rw [h] at hl <;> cases hl
 | _ => exact hl
theorem cut_live {j : Nat} (h : live (getB (cutE E ids).H j) = true) : ∃ b, ids[j]? = some b /\ live (getB E.H b) = true /\ (cutE E ids).β j = E.β b /\ getB (cutE E ids).H j = keepB ids (getB E.H b) := by
 cases hj : ids[j]? with
 | none => rw [(cut_none hj).1] at h; cases h
 | some b =>
  obtain ⟨h1, h2⟩ := cut_some (E := E) hj;rw [h1] at h;exact ⟨b, rfl, live_keepB h, h2, h1⟩
theorem cut_rot {t : DTy} {d : t.den} {vs : List Value} (hf : t.rf = false) (h : RoT E t d vs) : RoT (cutE E ids) t d vs := rotQ (E := cutE E ids) (El := E) rfl hf (.inr fun _ h => h) h
theorem cut_ptr {b j i es o k n : Nat} {v : Value} (hj : ids[j]? = some b) (h : RelPtr E b i es o k n v) : RelPtr (cutE E ids) j i es o k n v := by
 obtain ⟨h1, h2⟩ := cut_some (E := E) hj;unfold RelPtr at h ⊢;have hat : PtrAt E b i es o k n v -> PtrAt (cutE E ids) j i es o k n v := fun ⟨⟨kb, q1, q2⟩, q3⟩ => ⟨⟨kb, h2.trans q1, q2⟩, q3⟩
 rw [h1];cases hk : getB E.H b <;> rw [hk] at h
 ·exact hat h
 ·rcases keepB_arr (ids := ids) with ⟨_, hq⟩ | ⟨_, lo', hq, _⟩ <;> rw [hq]
  ·exact h.1
  ·exact ⟨h.1, fun e => hat (h.2.1 e), h.2.2⟩
 ·rcases keepB_frz (ids := ids) with ⟨_, hq⟩ | ⟨_, hq⟩ <;> rw [hq]
  ·exact h.1
  ·exact ⟨h.1, fun e => hat (h.2.1 e), h.2.2⟩
 ·exact h
 ·exact h.elim
theorem cut_caps0 : ∀ {cs : List Cell} {us : List Value}, capRefs cs = [] -> RelCaps E cs us -> RelCaps (cutE E ids) cs us
 | [], _, _, hv => hv
 | c :: cs, us, hr, hv => by
  obtain ⟨u, us', rfl, h1, h2⟩ := hv;cases c <;> first | exact h1.elim | (simp [capRefs] at hr; done) | exact ⟨u, us', rfl, h1, cut_caps0 (cs := cs) hr h2⟩ | skip
  rename_i t d o k;have hr : (match t.rf with | true => [0] | false => []) ++ capRefs cs = ([] : List Nat) := hr
  exact ⟨u, us', rfl, rpQ (E := cutE E ids) (El := E) rfl (fun _ h => h) (rf_of (List.append_eq_nil_iff.1 hr).1) h1, cut_caps0 (List.append_eq_nil_iff.1 hr).2 h2⟩
theorem cut_caps : ∀ {cs r : List Cell} {us : List Value}, passCaps ids cs = some r -> RelCaps E cs us -> RelCaps (cutE E ids) r us
 | [], r, us, hp, hv => by obtain rfl := smI hp; exact hv
 | c :: cs, r, us, hp, hv => by
  obtain ⟨u, us', rfl, h1, h2⟩ := hv;simp only [passCaps] at hp;split at hp
  ·rename_i y r' hy hr';obtain rfl := smI hp;refine ⟨u, us', rfl, ?_, cut_caps hr' h2⟩
   cases c <;> first | exact h1.elim | (cases hy; done) | skip
   ·simp only [passCap] at hy;split at hy
    ·rename_i j hj;obtain rfl := smI hy;exact ⟨h1.1, cut_ptr (place_some hj) h1.2⟩
    ·cases hy
   ·simp only [passCap] at hy;split at hy
    ·cases hy
    ·rename_i hf;obtain rfl := smI hy;exact rpQ (E := cutE E ids) (El := E) rfl (fun _ h => h) hf h1
   ·obtain rfl := smI hy;exact h1
  ·cases hp
theorem cut_noRefs : ∀ {x : Cell}, cellRefs x = [] -> ∀ {u : Value}, RelC E x u -> RelC (cutE E ids) x u
 | .any, _, v, h => h
 | .int .., _, v, h => h
 | .bool .., _, v, h => h
 | .str _, _, v, h => h
 | .nilp, _, v, h => h
 | .nils, _, v, h => h
 | .nilif, _, v, h => h
 | .nilfn, _, v, h => h
 | .fn f cs, hr, v, h => by
  obtain ⟨us, h1, h2⟩ := h;exact ⟨us, h1, cut_caps0 hr h2⟩
 | .vptr _, _, v, h => h
 | .rptr t d o k, hr, v, h => rpQ (E := cutE E ids) (El := E) rfl (fun _ h => h) (rf_of hr) h
 | .ref _, hr, v, h => by simp [cellRefs] at hr
 | .ro t xs len, hr, v, h => by
  have hf := rf_of hr
  obtain ⟨a, cap, q2, q3, q4, q5, q6, q7⟩ := h;refine ⟨a, cap, q2, q3, q4, q5, q6, fun hne => ?_⟩
  obtain ⟨k, off, c, e, fz, g1, g2, g3, g4⟩ := q7 hne;exact ⟨k, off, c, e, fz, g1, g2, g3, g4.mono fun a us hu => cut_rot hf hu⟩
 | .ifc t x, hr, v, h => by
  obtain ⟨u, rfl, h⟩ := h;exact ⟨u, rfl, cut_noRefs (x := x) hr h⟩
 | .ifd T t d, hr, v, h => by
  obtain ⟨cs, rfl, h⟩ := h;exact ⟨cs, rfl, cut_rot (rf_of hr) h⟩
 | .ptr .., hr, v, h => by simp [cellRefs] at hr
 | .sl .., hr, v, h => by simp [cellRefs] at hr
 | .sla .., hr, v, h => by simp [cellRefs] at hr
theorem cut_c : ∀ {x : Cell} {v : Value}, RelC E x v -> RelC (cutE E ids) (keepC ids x) v
 | .any, v, h => h
 | .int .., v, h => h
 | .bool .., v, h => h
 | .str _, v, h => h
 | .nilp, v, h => h
 | .nils, v, h => h
 | .nilif, v, h => h
 | .nilfn, v, h => h
 | .vptr _, v, h => h
 | .fn f cs, v, h => by
  obtain ⟨us, rfl, h2⟩ := h;simp only [keepC];split
  ·rename_i r hr;exact ⟨us, rfl, cut_caps hr h2⟩
  ·trivial
 | .rptr t d o k, v, h => by
  simp only [keepC];split
  ·exact single_of h
  ·rename_i hf;exact rpQ (E := cutE E ids) (El := E) rfl (fun _ h => h) hf h
 | .ref _, v, h => refSingle h
 | .ro t xs len, v, h => by
  simp only [keepC];split
  ·exact single_of h
  rename_i hf;obtain ⟨a, cap, q2, q3, q4, q5, q6, q7⟩ := h;refine ⟨a, cap, q2, q3, q4, q5, q6, fun hne => ?_⟩
  obtain ⟨k, off, c, e, fz, g1, g2, g3, g4⟩ := q7 hne;exact ⟨k, off, c, e, fz, g1, g2, g3, g4.mono fun a us hu => cut_rot hf hu⟩
 | .ifd T t d, v, h => by
  simp only [keepC];split
  ·exact single_of h
  rename_i hf;obtain ⟨cs, rfl, h⟩ := h;exact ⟨cs, rfl, cut_rot hf h⟩
 | .ifc t x, v, h => by
  obtain ⟨u, rfl, h⟩ := h;simp only [keepC];split
  ·rename_i hr;exact ⟨u, rfl, cut_noRefs hr h⟩
  ·exact ⟨u, rfl, cut_c h⟩
 | .ptr b i es o k n, v, h => by
  obtain ⟨h1, h2⟩ := h;simp only [keepC];split
  ·rename_i j hj;exact ⟨h1, cut_ptr (place_some hj) h2⟩
  ·exact h1
 | .sl b off len, v, h => by
  obtain ⟨h1, h2⟩ := h;simp only [keepC];split
  ·rename_i j hj;refine ⟨h1, ?_⟩
   obtain ⟨g1, g2⟩ := cut_some (E := E) (place_some hj);unfold RelSl at h2 ⊢;rw [g1];cases hk : getB E.H b <;> rw [hk] at h2
   ·exact h2.elim
   ·rcases keepB_arr (ids := ids) with ⟨_, hq⟩ | ⟨_, lo', hq, _⟩ <;> rw [hq]
    ·exact SlAt.gone h2
    obtain ⟨a, cap, q1, q2, q3, q4, q5⟩ := h2;exact ⟨a, cap, q1, q2, q3, q4, by rw [g2]; exact q5⟩
   ·rcases keepB_frz (ids := ids) with ⟨_, hq⟩ | ⟨_, hq⟩ <;> rw [hq]
    ·exact SlAt.gone h2
    obtain ⟨a, cap, q1, q2, q3, q4, q5⟩ := h2;exact ⟨a, cap, q1, q2, q3, q4, by rw [g2]; exact q5⟩
   ·exact h2
   ·exact h2.elim
  ·exact h1
 | .sla b o n off len, v, h => by
  obtain ⟨h1, h2⟩ := h;simp only [keepC];split
  ·rename_i j hj;refine ⟨h1, ?_⟩
   obtain ⟨g1, g2⟩ := cut_some (E := E) (place_some hj);unfold RelSla at h2 ⊢;rw [g1];cases hk : getB E.H b <;> rw [hk] at h2
   ·obtain ⟨a, cap, q1, q2, q3, q4, q5⟩ := h2;exact ⟨a, cap, q1, q2, q3, q4, by rw [g2]; exact q5⟩
   ·exact h2.elim
   ·exact h2.elim
   ·exact h2
   ·exact h2.elim
  ·exact h1
theorem cut_fs : ∀ {fs : List FCell} {vs : List Value}, RelFs E fs vs -> RelFs (cutE E ids) (keepF ids fs) vs
 | [], vs, h => h
 | .c x :: fs, vs, h => by
  obtain ⟨v1, v2, rfl, ⟨v, rfl, h1⟩, h2⟩ := h;exact ⟨[v], v2, rfl, ⟨v, rfl, cut_c h1⟩, cut_fs h2⟩
 | .ws k n xs :: fs, vs, h => by
  obtain ⟨v1, v2, rfl, h1, h2⟩ := h;exact ⟨v1, v2, rfl, h1, cut_fs (fs := fs) h2⟩
theorem cut_v {x : V1} {v : Value} (h : RelV E x v) : RelV (cutE E ids) (keepV ids x) v := by
 cases x with
 | c x => exact cut_c h
 | g fs => obtain ⟨cs, rfl, h⟩ := h; exact ⟨cs, rfl, cut_fs h⟩
theorem cut_vs : ∀ {xs : List V1} {vs : List Value}, RelVs E xs vs -> RelVs (cutE E ids) (xs.map (keepV ids)) vs
 | [], _, h => h
 | x :: xs, vs, h => by
  obtain ⟨u, us, rfl, h1, h2⟩ := h;exact ⟨u, us, rfl, cut_v h1, cut_vs h2⟩
theorem cut_s {x : SV} {v : Value} (h : RelS E x v) : RelS (cutE E ids) (keepS ids x) v := by
 cases x with
 | any => trivial
 | one x => exact cut_v h
 | tup xs => obtain ⟨us, rfl, h⟩ := h; exact ⟨us, rfl, cut_vs h⟩
theorem cut_t {keep : List Nat} : ∀ {n : Nat} {t : List SV} {l : List Value}, RelTs E t l -> RelTs (cutE E ids) (keepT keep ids n t) l
 | _, [], _, h => h
 | n, x :: t, l, h => by
  obtain ⟨u, us, rfl, h1, h2⟩ := h;refine ⟨u, us, rfl, ?_, cut_t h2⟩
  split
  ·exact cut_s h1
  ·trivial
theorem cut_rep (hE : RepH G E) (hnd : ids.Nodup) : RepH G (cutE E ids) where
 ro := fun k hk => ⟨(hE.ro k hk).1, fun j hj hjk => by
  obtain ⟨b, h1, h2, h3, _⟩ := cut_live hj;rw [h3] at hjk;exact (hE.ro k hk).2 b h2 hjk⟩
 inj := fun j j' k hj hj' hk hk' => by
  obtain ⟨b, h1, h2, h3, _⟩ := cut_live hj;obtain ⟨b', h1', h2', h3', _⟩ := cut_live hj';rw [h3] at hk;rw [h3'] at hk';have := hE.inj b b' k h2 h2' hk hk'
  subst this;exact (List.getElem?_inj (List.getElem?_eq_some_iff.1 h1).1 hnd).1 (h1.trans h1'.symm)
 blk := fun j => by
  cases hj : ids[j]? with
  | none => rw [(cut_none hj).1]; trivial
  | some b =>
   obtain ⟨h1, h2⟩ := cut_some (E := E) hj;rw [h1];have hb := hE.blk b
   cases hk : getB E.H b with
   | vals fs =>
    rw [hk] at hb;obtain ⟨k, c, e, fz, q1, q2, q3, q4⟩ := hb;exact ⟨k, c, e, fz, h2.trans q1, q2, q3, cut_fs q4⟩
   | arr t xs lo par =>
    rw [hk] at hb;obtain ⟨q1, q2, q3⟩ := hb;rcases keepB_arr (ids := ids) (t := t) (xs := xs) (lo := lo) (par := par) with ⟨_, hq⟩ | ⟨hf, lo', hq, hl, _⟩ <;> rw [hq]
    ·trivial
    refine ⟨by omega, q2, ?_⟩
    rcases q3 with ⟨q3, q4⟩ | ⟨k, c, e, fz, q3, q4, q5, q6⟩
    ·exact .inl ⟨h2.trans q3, q4⟩
    ·exact .inr ⟨k, c, e, fz, h2.trans q3, q4, q5, q6.mono fun a us hu => cut_rot hf hu⟩
   | frz t xs =>
    rw [hk] at hb;obtain ⟨q2, q3⟩ := hb;rcases keepB_frz (ids := ids) (t := t) (xs := xs) with ⟨_, hq⟩ | ⟨hf, hq⟩ <;> rw [hq]
    ·trivial
    refine ⟨q2, ?_⟩
    rcases q3 with ⟨q3, q4⟩ | ⟨k, c, e, fz, q3, q4, q5, q6⟩
    ·exact .inl ⟨h2.trans q3, q4⟩
    ·refine .inr ⟨k, c, e, fz, h2.trans q3, q4, q5.mono fun a us hu => cut_rot hf hu, fun j' hl' hk' => ?_⟩
     obtain ⟨b', g1, g2, g3, g4⟩ := cut_live hl';rw [g3] at hk';obtain ⟨xs', lo, par, z1, z2, z3⟩ := q6 b' g2 hk';obtain ⟨_, lo', hq, _, hl⟩ := (keepB_arr (ids := ids) (t := t) (xs := xs') (lo := lo) (par := par)).resolve_left (fun h => by rw [hf] at h; cases h.1)
     have hmem : j ∈ passPar ids par := ?_
     ·exact ⟨xs', lo', passPar ids par, by rw [g4, z1, hq], hmem, by rw [hl (List.ne_nil_of_mem hmem)]; exact z3⟩
     refine List.mem_filterMap.2 ⟨b, z2, ?_⟩
     cases hp : place ids b with
     | none => exact (place_none hp (List.mem_of_getElem? hj)).elim
     | some i =>
      have hi := place_some hp
      rw [(List.getElem?_inj (List.getElem?_eq_some_iff.1 hi).1 hnd).1 (hi.trans hj.symm)]
   | gone => trivial
   | dead => trivial
 glob := fun g t d hg => ⟨rpQ (E := cutE E ids) (El := E) rfl (fun _ h => h) (hE.glob g t d hg).2 (hE.glob g t d hg).1, (hE.glob g t d hg).2⟩
theorem idsOk_spec {m : Nat} (h : idsOk m ids = true) : ids.Nodup /\ ∀ j, j < m -> ids[j]? = some j := by
 simp only [idsOk, Bool.and_eq_true, beq_iff_eq] at h;refine ⟨nodup_of h.1, fun j hj => ?_⟩
 have : (ids.take m)[j]? = some j := by rw [h.2, List.getElem?_range hj]
 rw [List.getElem?_take, if_pos hj] at this
 exact this
theorem cut_ext {m : Nat} (x : Ext E0 E) (hm : ∀ j, j < m -> ids[j]? = some j) (hl : E0.H.length <= m) : Ext E0 (cutE E ids) where
 os := x.os
 tape := x.tape
 output := x.output
 size := x.size
 ro := x.ro
 rnew := x.rnew
 keep := x.keep
 cells := x.cells
 blk := fun b => by
  rcases Nat.lt_or_ge b m with hb | hb
  ·obtain ⟨h1, h2⟩ := cut_some (E := E) (hm b hb);rw [h1];have := x.blk b
   cases h3 : getB E0.H b <;> cases h4 : getB E.H b <;> rw [h3, h4] at this <;> (try (rcases keepB_arr (ids := ids) with ⟨_, hq⟩ | ⟨_, lo', hq, _⟩ <;> rw [hq])) <;> (try (rcases keepB_frz (ids := ids) with ⟨_, hq⟩ | ⟨_, hq⟩ <;> rw [hq])) <;> first | exact this.elim | trivial | exact h2.trans this | exact ⟨this.1, this.2.1, h2.trans this.2.2⟩
  ·have : getB E0.H b = .dead := by rw [getB_eq, List.getElem?_eq_none (by omega)]; rfl
   rw [this]; trivial
 fresh := fun j k hj hk => by
  obtain ⟨b, h1, h2, h3, _⟩ := cut_live hj;rw [h3] at hk;exact x.fresh b k h2 hk
theorem cut_rp {keep : List Nat} {s : St} {a : Act} (hnd : ids.Nodup) (h : Rp G E s a) : Rp G (cutE E ids) (s.cut keep ids) a where
 h := cut_rep h.h hnd
 eq := by
  show ids.map _ = ids.map _
  rw [h.eq]
 t := cut_t h.t
 d := h.d
theorem resV_sound {s : St} {a : Act} (hs : Rp G E s a) {rv : ResultVar} {v : V1} (h : resV P s rv = some v) :
  match rv with
  | .tmp t => RelV E v (a.tmps.getD t undef)
  | .cell t T => ∃ q u, a.tmps.getD t undef = .pointer (some q) /\ (loadVar T q).run P E.w = .ok u E.w /\ RelV E v u := by
 have hget : ∀ t, RelS E (getT s.t t) (a.tmps.getD t undef) := fun t => by
  have := relTs_get (u := t) hs.t
  rwa [List.getD_eq_getElem?_getD, Array.getElem?_toList, <- Array.getD_eq_getD_getElem?] at this
 cases rv with
 | tmp t =>
  simp only [resV] at h;have := hget t
  split at h
  ·rename_i v' hv;obtain rfl := smI h;rw [hv] at this;exact this
  ·cases h
 | cell t T =>
  simp only [resV] at h;have hp := hget t
  split at h
  ·rename_i b hv;rw [hv] at hp;split at h
   ·rename_i fs hb;split at h
    ·rename_i v' hl;obtain rfl := smI h;have hb : getB E.H b = .vals fs := by rw [hs.eq]; exact hb
     obtain ⟨_, hp⟩ := hp;unfold RelPtr at hp;rw [hb] at hp;obtain ⟨⟨kb, h3, h5⟩, h4⟩ := hp;obtain ⟨k', c, e, fz, g1, g2, g3, g4⟩ := hs.h.vals hb;rw [h3] at g1;obtain rfl := smI g1;obtain ⟨u, q1, _, q3⟩ := loadF_sound (r := (.one v', [])) hs.h (by rw [hl]; rfl) h4 g4 (vals_at g2)
     exact ⟨_, u, h5, by rw [Nat.zero_mul]; exact q1, q3⟩
    ·cases h
   ·cases h
  ·cases h
theorem resL_sound {s : St} {g : ResultVar -> Sem Value} (hg : ∀ rv v, resV P s rv = some v -> ∃ u, (g rv).run P E.w = .ok u E.w /\ RelV E v u) : ∀ {l : List ResultVar} {vs : List V1}, mapO (resV P s) l = some vs ->
  ∃ us, (l.mapM g).run P E.w = .ok us E.w /\ RelVs E vs us
 | [], vs, h => by
  obtain rfl := smI h;exact ⟨[], rfl, rfl⟩
 | x :: l, vs, h => by
  simp only [mapO] at h;split at h
  ·rename_i y r h1 h2;obtain rfl := smI h;obtain ⟨u, q1, q2⟩ := hg x y h1;obtain ⟨us, q3, q4⟩ := resL_sound hg h2;exact ⟨u :: us, by simp [List.mapM_cons, q1, q3], u, us, rfl, q2, q4⟩
  ·cases h
theorem relVs_len : ∀ {vs : List V1} {us : List Value}, RelVs E vs us -> us.length = vs.length
 | [], us, h => by have h : us = [] := h; subst h; rfl
 | v :: vs, us, h => by obtain ⟨u, us', rfl, _, h⟩ := h; simp [relVs_len h]
theorem resA_sound {s : St} {g : ResultVar -> Sem Value} (hg : ∀ rv v, resV P s rv = some v -> ∃ u, (g rv).run P E.w = .ok u E.w /\ RelV E v u) {fn : Func} {v : SV} (h : resS P fn s = some v) :
  ∃ u, (do let vs <- fn.results.mapM g; pure (if h : vs.size = 1 then vs[0] else .tuple vs) : Sem Value).run P E.w = .ok u E.w /\ RelS E v u := by
 rw [Array.mapM_eq_mapM_toList];unfold resS at h;cases hm : mapO (resV P s) fn.results.toList with
 | none => rw [hm] at h; cases h
 | some vs =>
  rw [hm] at h;obtain ⟨us, h1, h2⟩ := resL_sound hg hm;have hlen := relVs_len h2
  match vs, h2, hlen, h with
  | [w], h2, hlen, h =>
   obtain rfl := smI h;obtain ⟨u, us', rfl, h3, rfl⟩ := h2;refine ⟨u, ?_, h3⟩
   simp only [Sem.run_bind, Sem.run_map, h1, Result.andThen_ok];simp
  | [], h2, hlen, h =>
   obtain rfl := smI h;refine ⟨.tuple us.toArray, ?_, us.toArray, rfl, by simpa using h2⟩
   simp only [Sem.run_bind, Sem.run_map, h1, Result.andThen_ok];simp at hlen
   simp [hlen]
  | x :: y :: vs, h2, hlen, h =>
   obtain rfl := smI h;refine ⟨.tuple us.toArray, ?_, us.toArray, rfl, by simpa using h2⟩
   simp only [Sem.run_bind, Sem.run_map, h1, Result.andThen_ok];simp [hlen]
theorem resS_sound {s : St} {a : Act} (hs : Rp G E s a) {fn : Func} {v : SV} (h : resS P fn s = some v) : ∃ u, (results fn a.tmps).run P E.w = .ok u E.w /\ RelS E v u := by
 unfold results;refine resA_sound (fun rv v hv => ?_) h
 have := resV_sound hs hv
 cases rv with
 | tmp t => exact ⟨_, rfl, this⟩
 | cell t T =>
  obtain ⟨q, u, h1, h2, h3⟩ := this;refine ⟨u, ?_, h3⟩
  show (do loadVar T (<- asAddr (a.tmps.getD t undef)) : Sem Value).run P E.w = _
  rw [h1];simpa [asAddr] using h2
def FinOk (P : Program) (G : GlobT) (fn : Func) (E0 : Env) (v : SV) (hl : Heap) (a : Act) (w : World) : Prop :=
 a.defers = [] /\ ∀ w₁, Grow w w₁ -> ∃ u, (results fn a.tmps).run P w₁ = .ok u w₁ /\ ∃ β' R', RepH G ⟨β', hl, w₁, R'⟩ /\ Ext E0 ⟨β', hl, w₁, R'⟩ /\ RelS ⟨β', hl, w₁, R'⟩ v u
def Runs (P : Program) (S : Tab) (fn : Func) (m : Nat) (is : List Item) (s : St) (v : SV) (hl : Heap) : Prop :=
 ∀ (E0 E : Env) (a : Act), Ext E0 E -> E0.H.length <= m -> Rp S.gl E s a -> ItemsWp P (FinOk P S.gl fn E0 v hl) is a E.w
theorem fin_sound {fn : Func} {m : Nat} {s : St} {a : Act} {v : SV} {hl : Heap} (hs : Rp G E s a) (x : Ext E0 E) (hm : E0.H.length <= m) (hids : idsOk m ids = true) (h : finR P fn ids s = some (v, hl)) : FinOk P G fn E0 v hl a E.w := by
 unfold finR at h;split at h
 ·rename_i v' hv;simp only [Option.some.injEq, Prod.mk.injEq] at h;obtain ⟨rfl, rfl⟩ := h;obtain ⟨h1, h2⟩ := idsOk_spec hids;refine ⟨hs.d, fun w₁ g => ?_⟩
  obtain ⟨x1, hs1⟩ := hs.grow g;obtain ⟨u, q1, q2⟩ := resS_sound hs1 hv;have x := x.trans x1
  have hH : (cutE ⟨E.β, E.H, w₁, E.R⟩ ids).H = ids.map fun b => keepB ids (getB s.h b) := by
   show ids.map _ = _
   rw [<- hs.eq]
  refine ⟨u, q1, (cutE ⟨E.β, E.H, w₁, E.R⟩ ids).β, E.R, ?_, ?_, ?_⟩
  ·have := cut_rep (ids := ids) hs1.h h1
   show RepH G ⟨_, ids.map fun b => keepB ids (getB s.h b), _, _⟩
   rw [<- hH]; exact this
  ·have := cut_ext x h2 hm
   show Ext E0 ⟨_, ids.map fun b => keepB ids (getB s.h b), _, _⟩
   rw [<- hH]; exact this
  ·have := cut_s (ids := ids) q2
   show RelS ⟨_, ids.map fun b => keepB ids (getB s.h b), _, _⟩ _ _
   rw [<- hH]; exact this
 ·cases h
theorem Runs.run (hsp : SpecOk P S) (hmx : P.follows .mixedOrders = true) {un : Code -> Bool} {n m : Nat} {fn : Func} {is : List Item} {s : St} {v : SV} {hl : Heap} {out : Out} (h : (runK S P un n is s).val = some out)
  (hout : match out with | .fin s' => ∃ ids, idsOk m ids = true /\ finR P fn ids s' = some (v, hl) | .stop k s' => Runs P S fn m k s' v hl) : Runs P S fn m is s v hl := by
 intro E0 E a x hm hs;refine runK_sound hsp hmx n h hs (fun E' a' x' => ?_)
 cases out with
 | fin s' =>
  intro hs';obtain ⟨ids, h1, h2⟩ := hout;exact fin_sound hs' (x.trans x') hm h1 h2
 | stop k s' =>
  intro hs';exact hout E0 E' a' (x.trans x') hm hs'
theorem Runs.cut {fn : Func} {m : Nat} {is : List Item} {s : St} {v : SV} {hl : Heap} (keep : List Nat) (ids : List Nat) (hids : idsOk m ids = true) (h : Runs P S fn m is (s.cut keep ids) v hl) : Runs P S fn m is s v hl := by
 intro E0 E a x hm hs;obtain ⟨h1, h2⟩ := idsOk_spec hids;exact h E0 (cutE E ids) a (cut_ext x h2 hm) hm (cut_rp h1 hs)
theorem relVs_one : ∀ {vs : List V1} {us : List Value} {n : Nat}, RelVs E vs us -> RelTs E (vs.map SV.one ++ List.replicate n SV.any) (us ++ List.replicate n undef)
 | [], us, n, h => by
  have h : us = [] := h
  subst h
  induction n with
  | zero => rfl
  | succ n ih => exact ⟨undef, _, rfl, trivial, ih⟩
 | v :: vs, us, n, h => by
  obtain ⟨u, us', rfl, h1, h2⟩ := h;exact ⟨u, _, rfl, h1, relVs_one h2⟩
theorem Runs.spec {f : FuncId} {fn : Func} {c : Code} {vs : List V1} {hl hl' : Heap} {v : SV} (hf : P.funcs[f]? = some fn) (hb : fn.body = some c) (hn : (fn.name == "runtime.NumGoroutine") = false)
  (h : Runs P S fn hl.length [.code c] ⟨enterT fn vs, hl⟩ v hl') (E : Env) (us : Array Value) (hE : E.H = hl) (hr : RepH S.gl E) (hv : RelVs E vs us.toList) :
  CallP P f us E.w fun u w' => ∃ β' R', RepH S.gl ⟨β', hl', w', R'⟩ /\ Ext E ⟨β', hl', w', R'⟩ /\ RelS ⟨β', hl', w', R'⟩ v u := by
 refine ⟨o_callFunc hf hb hn, ?_⟩
 left;constructor
 ·have hn' : ¬ fn.name = "runtime.NumGoroutine" := by simpa using hn
  simp [callFunc, hf, hn', hb]
 ·intro main Stop cs hk;have hlen := relVs_len hv
  have hs : Rp S.gl E ⟨enterT fn vs, hl⟩ { tmps := us ++ Array.replicate (fn.ntmps - us.size) undef, defers := [] } := {
   h := hr
   eq := hE
   t := by
    have := relVs_one (n := fn.ntmps - vs.length) hv
    have hlen' : us.size = vs.length := by simpa using hlen
    simpa [enterT, hlen'] using this
   d := rfl }
  rw [Conc.enter_at us hf hb];have key := h E E _ (Ext.refl E) (by rw [hE]; exact Nat.le_refl _) hs main Stop (Conc.base f) [] cs (by simp [Conc.base])
  rw [List.append_nil] at key;have leave : ∀ (todo : List Item) (a' : Act) (w' : World), FinOk P S.gl fn E v hl' a' w' -> Way P main Stop (Conc.G { (Conc.base f).at a' todo with mode := .returning } cs) w' := fun todo a' w' hF =>
   hk _ w' ⟨rfl, rfl, rfl, hF.1, fn, hf, fun w₁ g => let ⟨u, h3, h4⟩ := hF.2 w₁ g; ⟨u, h3, h4⟩⟩
  refine key (fun g a' w' hl q => ?_)
  cases hl with
  | on => exact Way.ctl rfl (fun _ => Conc.stepG_end) (leave [] a' w' q)
  | ret todo => exact leave todo a' w' q
def EntryOk (P : Program) (G : GlobT) (f : FuncId) (T : List V1 -> Heap -> Tree (SV × Heap)) : Prop :=
 ∀ vs hl r hl', (T vs hl).val = some (r, hl') -> ∀ (E : Env) (us : Array Value), E.H = hl -> RepH G E -> RelVs E vs us.toList ->
  CallP P f us E.w fun u w' => ∃ β' R', RepH G ⟨β', hl', w', R'⟩ /\ Ext E ⟨β', hl', w', R'⟩ /\ RelS ⟨β', hl', w', R'⟩ r u
theorem SpecOk.put {f : FuncId} {k : Nat} {T : List V1 -> Heap -> Tree (SV × Heap)} (h : SpecOk P S) (hT : EntryOk P S.gl f T) : SpecOk P (S.put f k T) := by
 intro g vs hl r hl' hr E us;by_cases hg : g = f
 ·subst hg;have : ((S.put g k T).T g) = T := by simp [Tab.put]
  rw [this] at hr;have e : (S.put g k T).vf g = false := by simp [Tab.put]
  rw [e];exact hT vs hl r hl' hr E us
 ·have : ((S.put f k T).T g) = S.T g := by simp [Tab.put, hg]
  rw [this] at hr;have e : (S.put f k T).vf g = S.vf g := by simp [Tab.put, hg]
  rw [e];exact h g vs hl r hl' hr E us
def VEntryOk (P : Program) (G : GlobT) (f : FuncId) (T : List V1 -> Heap -> Tree (SV × Heap)) : Prop :=
 ∀ vs hl r hl', (T vs hl).val = some (r, hl') -> ∀ (E : Env) (us : Array Value), E.H = hl -> RepH G E -> RelVs E vs us.toList ->
  VolP P f us E.w fun u w' => ∃ β' R', RepH G ⟨β', hl', w', R'⟩ /\ Ext E ⟨β', hl', w', R'⟩ /\ RelS ⟨β', hl', w', R'⟩ r u
theorem SpecOk.putV {f : FuncId} {T : List V1 -> Heap -> Tree (SV × Heap)} (h : SpecOk P S) (hT : VEntryOk P S.gl f T) : SpecOk P (S.putV f T) := by
 intro g vs hl r hl' hr E us;by_cases hg : g = f
 ·subst hg;have : ((S.putV g T).T g) = T := by simp [Tab.putV]
  rw [this] at hr;have e : (S.putV g T).vf g = true := by simp [Tab.putV]
  rw [e];exact hT vs hl r hl' hr E us
 ·have : ((S.putV f T).T g) = S.T g := by simp [Tab.putV, hg]
  rw [this] at hr;have e : (S.putV f T).vf g = S.vf g := by simp [Tab.putV, hg]
  rw [e];exact h g vs hl r hl' hr E us
theorem SpecOk.empty {gl : GlobT} : SpecOk P (Tab.empty gl) := fun _ _ _ _ _ h => by cases h
theorem finT_spec {fn : Func} {m : Nat} {s : St} {r : SV × Heap} (h : (finT P fn m s).val = some r) : ∃ ids, idsOk m ids = true /\ finR P fn ids s = some r := by
 unfold finT at h;split at h
 ·cases h
 ·rename_i v hv;simp only at h
  split at h
  ·rename_i hok;split at h
   ·rename_i r' hr;obtain rfl := val_ret h;exact ⟨_, hok, hr⟩
   ·cases h
  ·cases h
theorem bodyT_ok (hsp : SpecOk P S) (hmx : P.follows .mixedOrders = true) {un : Code → Bool} {f : FuncId} {fn : Func} {c : Code} (hf : P.funcs[f]? = some fn) (hb : fn.body = some c) (hn : (fn.name == "runtime.NumGoroutine") = false) : EntryOk P S.gl f (bodyT S P un fn c) := by
 intro vs hl r hl' h;unfold bodyT at h;obtain ⟨out, h1, h2⟩ := val_bind h;refine Runs.spec hf hb hn (Runs.run hsp hmx h1 ?_)
 cases out with
 | fin s => exact finT_spec h2
 | stop k s => cases h2
end Go.SX
