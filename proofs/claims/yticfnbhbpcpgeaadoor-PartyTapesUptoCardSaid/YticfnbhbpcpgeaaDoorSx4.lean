/-
  SX, part 4: what abstract states say of the machine's memory; how what is known lasts.
-/
import Derived.Test.YticfnbhbpcpgeaaDoorSx3
import Derived.Below
namespace Go.SX
open Go

structure Env where
  β : Nat → Option Nat
  H : Heap
  w : World
  R : Nat → Prop

def live : Blk → Bool
  | .vals _ => true
  | .arr .. => true
  | _ => false

def InK (k : IntKind) (n : Int) : Prop := k.min ≤ n ∧ n ≤ k.max

def single : Value → Prop
  | .agg _ => False
  | .tuple _ => False
  | _ => True

/-- the elements xs lie in the cells c from 'at_' on -/
def Rows (sz : Nat) {α : Type} (Q : α → List Value → Prop) (xs : List α) (at_ : Nat) (c : Array Value) : Prop :=
  ∀ i (h : i < xs.length), ∃ us, Q xs[i] us ∧ us.length = sz ∧ ∀ j, j < sz → c[at_ + (i * sz + j)]? = us[j]?

def PtrAt (E : Env) (b i es o k n : Nat) (v : Value) : Prop :=
  (∃ kb, E.β b = some kb ∧ v = .pointer (some ⟨kb, i * es + (o + k), none⟩)) ∧ (n = 0 ∧ k = 0 ∨ k < n)

def RelPtr (E : Env) (b i es o k n : Nat) (v : Value) : Prop :=
  match getB E.H b with
  | .vals _ => PtrAt E b i es o k n v
  | .arr t xs _ _ => (∃ a, v = .pointer (some a)) ∧ (es = t.size → PtrAt E b i es o k n v) ∧ i < xs.length
  | .frz t xs => (∃ a, v = .pointer (some a)) ∧ (es = t.size → PtrAt E b i es o k n v) ∧ i < xs.length
  | .gone => ∃ a, v = .pointer (some a)
  | .dead => False

def SlAt (E : Env) (b sz off len : Nat) (n : Nat) (v : Value) : Prop :=
  ∃ a cap, v = .slice a len cap ∧ len ≤ cap ∧ cap < 9223372036854775808 ∧ off + len ≤ n ∧
    ((E.β b = none ∧ cap = 0) ∨ ∃ k c e fz, E.β b = some k ∧ (cap = 0 ∨ a = some ⟨k, off * sz, none⟩) ∧ E.w.heap[k]? = some (.cells c e fz) ∧ (off + cap) * sz = c.size)

def RelSl (E : Env) (b off len : Nat) (v : Value) : Prop :=
  match getB E.H b with
  | .arr t xs _ _ => SlAt E b t.size off len xs.length v
  | .frz t xs => SlAt E b t.size off len xs.length v
  | .gone => ∃ a cap, v = .slice a len cap ∧ len ≤ cap ∧ cap < 9223372036854775808 ∧ (cap = 0 ∨ ∃ q, a = some q)
  | _ => False

def RelRef (E : Env) : RefD → Value → Prop
  | .nil, v => v = .slice none 0 0
  | .own b off len, v => single v ∧ RelSl E b off len v
  | .raw a len cap, v => v = .slice a len cap

def RoSl (E : Env) (sz : Nat) {α : Type} (Q : α → List Value → Prop) (xs : List α) (len : Nat) (v : Value) : Prop :=
  ∃ a cap, v = .slice a len cap ∧ len ≤ xs.length ∧ xs.length ≤ cap ∧ cap < 9223372036854775808 ∧ 0 < sz ∧
    (xs ≠ [] → ∃ k off c e fz, a = some ⟨k, off, none⟩ ∧ E.R k ∧ E.w.heap[k]? = some (.cells c e fz) ∧ Rows sz Q xs off c)

def RoT (E : Env) : (t : DTy) → t.den → List Value → Prop
  | .unit, _, vs => vs = []
  | .int k, d, vs => vs = [.int k d] ∧ InK k d
  | .bool, d, vs => vs = [.bool d]
  | .str, d, vs => vs = [.string d]
  | .ws k n, d, vs => List.length (α := Int) d = n ∧ (∀ x ∈ (show List Int from d), InK k x) ∧ vs = List.map (Value.int k) d
  | .pair a b, d, vs => ∃ v1 v2, vs = v1 ++ v2 ∧ RoT E a d.1 v1 ∧ RoT E b d.2 v2
  | .sl t, d, vs => ∃ v, vs = [v] ∧ RoSl E t.size (RoT E t) d.1 d.2 v
  | .ref, d, vs => ∃ v, vs = [v] ∧ RelRef E d v

def RelSla (E : Env) (b o n off len : Nat) (v : Value) : Prop :=
  match getB E.H b with
  | .vals _ => ∃ a cap, v = .slice a len cap ∧ len ≤ cap ∧ cap < 9223372036854775808 ∧ off + cap = n ∧ (cap = 0 ∨ ∃ k, E.β b = some k ∧ a = some ⟨k, o + off, none⟩)
  | .gone => ∃ a cap, v = .slice a len cap ∧ len ≤ cap ∧ cap < 9223372036854775808 ∧ off + cap = n ∧ (cap = 0 ∨ ∃ q, a = some q)
  | _ => False

def RelRp (E : Env) (t : DTy) (d : t.den) (o k : Nat) (v : Value) : Prop :=
  ∃ kb off c e fz us, v = .pointer (some ⟨kb, off + (o + k), none⟩) ∧ E.R kb ∧ E.w.heap[kb]? = some (.cells c e fz) ∧ RoT E t d us ∧ us.length = t.size ∧ ∀ j, j < t.size → c[off + j]? = us[j]?

def RelC (E : Env) : Cell → Value → Prop
  | .any, v => single v
  | .int _ k n, v => v = .int k n ∧ InK k n
  | .bool _ b, v => v = .bool b
  | .str s, v => v = .string s
  | .nilp, v => v = .pointer none
  | .nils, v => v = .slice none 0 0
  | .nilif, v => v = .nilIface
  | .nilfn, v => v = .nilFunc
  | .ptr b i es o k n, v => single v ∧ RelPtr E b i es o k n v
  | .rptr t d o k, v => RelRp E t d o k v
  | .sl b off len, v => single v ∧ RelSl E b off len v
  | .sla b o n off len, v => single v ∧ RelSla E b o n off len v
  | .ro t xs len, v => RoSl E t.size (RoT E t) xs len v
  | .ifc t x, v => ∃ u, v = .iface t u ∧ RelC E x u
  | .ifd T t d, v => ∃ cs : Array Value, v = .iface T (.agg cs) ∧ RoT E t d cs.toList
  | .fn f cs, v => cs = [] ∧ v = .func (.func f) #[] #[]
  | .ref d, v => RelRef E d v

def RelF (E : Env) : FCell → List Value → Prop
  | .c x, vs => ∃ v, vs = [v] ∧ RelC E x v
  | .ws k n xs, vs => xs.length = n ∧ (∀ x ∈ xs, InK k x) ∧ vs = xs.map (Value.int k)

def RelFs (E : Env) : List FCell → List Value → Prop
  | [], vs => vs = []
  | f :: fs, vs => ∃ v1 v2, vs = v1 ++ v2 ∧ RelF E f v1 ∧ RelFs E fs v2

def RelV (E : Env) : V1 → Value → Prop
  | .c x, v => RelC E x v
  | .g fs, v => ∃ cs : Array Value, v = .agg cs ∧ RelFs E fs cs.toList

def RelVs (E : Env) : List V1 → List Value → Prop
  | [], us => us = []
  | v :: vs, us => ∃ u us', us = u :: us' ∧ RelV E v u ∧ RelVs E vs us'

def RelS (E : Env) : SV → Value → Prop
  | .any, _ => True
  | .one v, u => RelV E v u
  | .tup vs, u => ∃ us : Array Value, u = .tuple us ∧ RelVs E vs us.toList

def RelTs (E : Env) : List SV → List Value → Prop
  | [], us => us = []
  | v :: vs, us => ∃ u us', us = u :: us' ∧ RelS E v u ∧ RelTs E vs us'

/-- none of the first n cells is frozen -/
def NoFz (fz : Nat × Nat) (n : Nat) : Prop := ∀ i, i < n → ¬ (fz.1 ≤ i ∧ i < fz.2)

def RepB (E : Env) (b : Nat) : Blk → Prop
  | .vals fs => ∃ k c e fz, E.β b = some k ∧ E.w.heap[k]? = some (.cells c e fz) ∧ NoFz fz c.size ∧ RelFs E fs c.toList
  | .arr t xs lo _ => lo ≤ xs.length ∧ 0 < t.size ∧
      ((E.β b = none ∧ xs = []) ∨ ∃ k c e fz, E.β b = some k ∧ E.w.heap[k]? = some (.cells c e fz) ∧ NoFz fz c.size ∧ Rows t.size (RoT E t) xs 0 c)
  | .frz t xs => 0 < t.size ∧ ((E.β b = none ∧ xs = []) ∨ ∃ k c e fz, E.β b = some k ∧ E.w.heap[k]? = some (.cells c e fz) ∧ Rows t.size (RoT E t) xs 0 c ∧
      ∀ b', live (getB E.H b') = true → E.β b' = some k → ∃ xs' lo par, getB E.H b' = .arr t xs' lo par ∧ b ∈ par ∧ xs.length ≤ lo)
  | .gone => True
  | .dead => True

structure RepH (G : GlobT) (E : Env) : Prop where
  ro : ∀ k, E.R k → k < E.w.heap.size ∧ ∀ b, live (getB E.H b) = true → E.β b ≠ some k
  inj : ∀ b b' k, live (getB E.H b) = true → live (getB E.H b') = true → E.β b = some k → E.β b' = some k → b = b'
  blk : ∀ b, RepB E b (getB E.H b)
  glob : ∀ g t d, G g = some ⟨t, d⟩ → RelRp E t d 0 0 (.pointer (some ⟨g, 0, none⟩)) ∧ t.rf = false

def BExt (E E' : Env) (b : Nat) : Blk → Blk → Prop
  | .dead, _ => True
  | _, .gone => True
  | .vals _, .vals _ => E'.β b = E.β b
  | .arr t xs _ _, .arr t' xs' _ _ => t = t' ∧ xs.length ≤ xs'.length ∧ E'.β b = E.β b
  | .arr t xs _ _, .frz t' xs' => t = t' ∧ xs.length ≤ xs'.length ∧ E'.β b = E.β b
  | .frz t xs, .frz t' xs' => t = t' ∧ xs.length ≤ xs'.length ∧ E'.β b = E.β b
  | _, _ => False

/-- what lasts from one state to a later one -/
structure Ext (E E' : Env) : Prop where
  os : E'.w.os = E.w.os
  tape : E'.w.tape = E.w.tape
  output : E'.w.output = E.w.output
  size : E.w.heap.size ≤ E'.w.heap.size
  ro : ∀ k, E.R k → E'.R k
  rnew : ∀ k, E'.R k → E.R k ∨ E.w.heap.size ≤ k ∨ ∃ b, live (getB E.H b) = true ∧ E.β b = some k
  keep : ∀ k, k < E.w.heap.size → (∀ b, live (getB E.H b) = true → E.β b ≠ some k) → E'.w.heap[k]? = E.w.heap[k]?
  cells : ∀ (k : Nat) (c : Array Value) (e : TypeId) (fz : Nat × Nat), E.w.heap[k]? = some (Obj.cells c e fz) → ∃ (c' : Array Value) (fz' : Nat × Nat), E'.w.heap[k]? = some (Obj.cells c' e fz') ∧ c'.size = c.size
  blk : ∀ b, BExt E E' b (getB E.H b) (getB E'.H b)
  fresh : ∀ b k, live (getB E'.H b) = true → E'.β b = some k → (∃ b0, live (getB E.H b0) = true ∧ E.β b0 = some k) ∨ E.w.heap.size ≤ k

theorem Ext.refl (E : Env) : Ext E E where
  os := rfl
  tape := rfl
  output := rfl
  size := Nat.le_refl _
  ro := fun _ h => h
  rnew := fun _ h => .inl h
  keep := fun _ _ _ => rfl
  cells := fun k c e fz h => ⟨c, fz, h, rfl⟩
  blk := fun b => by cases getB E.H b <;> simp [BExt]
  fresh := fun b k h1 h2 => .inl ⟨b, h1, h2⟩

theorem BExt.live {E E' : Env} {b : Nat} {k k' : Blk} (h : BExt E E' b k k') (hl : live k' = true) : k = .dead ∨ (live k = true ∧ E'.β b = E.β b) := by
  cases k <;> cases k' <;> simp_all [BExt, SX.live]

theorem BExt.trans {E E' E'' : Env} {b : Nat} {k k' k'' : Blk} (h : BExt E E' b k k') (h' : BExt E' E'' b k' k'') : BExt E E'' b k k'' := by
  cases k <;> cases k' <;> cases k'' <;> first | exact h.elim | exact h'.elim | exact trivial | exact Eq.trans (show E''.β b = E'.β b from h') h | exact ⟨h.1.trans h'.1, Nat.le_trans h.2.1 h'.2.1, h'.2.2.trans h.2.2⟩

theorem Ext.trans {E E' E'' : Env} (h : Ext E E') (h' : Ext E' E'') : Ext E E'' where
  os := h'.os.trans h.os
  tape := h'.tape.trans h.tape
  output := h'.output.trans h.output
  size := Nat.le_trans h.size h'.size
  ro := fun k hk => h'.ro k (h.ro k hk)
  rnew := fun k hk => by
    rcases h'.rnew k hk with h1 | h1 | ⟨b, hl, hb⟩
    · exact h.rnew k h1
    · exact .inr (.inl (Nat.le_trans h.size h1))
    · rcases h.fresh b k hl hb with h2 | h2
      · exact .inr (.inr h2)
      · exact .inr (.inl h2)
  keep := fun k hk hno => by
    rw [h'.keep k (Nat.lt_of_lt_of_le hk h.size), h.keep k hk hno]
    intro b hl hb
    rcases h.fresh b k hl hb with ⟨b0, h2, h3⟩ | h2
    · exact hno b0 h2 h3
    · omega
  cells := fun k c e fz hc => by
    obtain ⟨c', fz', h1, h2⟩ := h.cells k c e fz hc
    obtain ⟨c'', fz'', h3, h4⟩ := h'.cells k c' e fz' h1
    exact ⟨c'', fz'', h3, h4.trans h2⟩
  blk := fun b => (h.blk b).trans (h'.blk b)
  fresh := fun b k hl hb => by
    rcases h'.fresh b k hl hb with ⟨b0, h1, h2⟩ | h1
    · exact h.fresh b0 k h1 h2
    · exact .inr (Nat.le_trans h.size h1)

section mono
variable {G : GlobT} {E E' : Env} (hE : RepH G E) (x : Ext E E')
include hE x

theorem roHeap {k : Nat} (h : E.R k) : E'.w.heap[k]? = E.w.heap[k]? := x.keep k (hE.ro k h).1 (hE.ro k h).2

theorem RoSl.ext {sz : Nat} {α : Type} {Q Q' : α → List Value → Prop} {xs : List α} {len : Nat} {v : Value}
    (hq : ∀ a us, Q a us → Q' a us) (h : RoSl E sz Q xs len v) : RoSl E' sz Q' xs len v := by
  obtain ⟨a, cap, h1, h2, h3, h4, h5, h6⟩ := h
  refine ⟨a, cap, h1, h2, h3, h4, h5, fun hne => ?_⟩
  obtain ⟨k, off, c, e, fz, g1, g2, g3, g4⟩ := h6 hne
  refine ⟨k, off, c, e, fz, g1, x.ro k g2, (roHeap hE x g2).trans g3, fun i hi => ?_⟩
  obtain ⟨us, q1, q2, q3⟩ := g4 i hi
  exact ⟨us, hq _ _ q1, q2, q3⟩

omit hE in
theorem SlAt.ext {b sz off len n n' : Nat} {v : Value} (hn : n ≤ n') (hb : E'.β b = E.β b) (h : SlAt E b sz off len n v) : SlAt E' b sz off len n' v := by
  obtain ⟨a, cap, h1, h2, h3, h4, h5⟩ := h
  refine ⟨a, cap, h1, h2, h3, by omega, ?_⟩
  rcases h5 with h5 | ⟨k, c, e, fz, g1, g2, g3, g4⟩
  · exact .inl ⟨hb.trans h5.1, h5.2⟩
  · obtain ⟨c', fz', q1, q2⟩ := x.cells k c e fz g3
    exact .inr ⟨k, c', e, fz', hb.trans g1, g2, q1, g4.trans q2.symm⟩

omit hE x in
theorem SlAt.gone {b sz off len n : Nat} {v : Value} (h : SlAt E b sz off len n v) : ∃ a cap, v = .slice a len cap ∧ len ≤ cap ∧ cap < 9223372036854775808 ∧ (cap = 0 ∨ ∃ q, a = some q) := by
  obtain ⟨a, cap, h1, h2, h3, _, h5⟩ := h
  refine ⟨a, cap, h1, h2, h3, ?_⟩
  rcases h5 with h5 | ⟨k, c, e, fz, _, h6, _⟩
  · exact .inl h5.2
  · exact h6.imp id (fun h6 => ⟨_, h6⟩)

omit hE in
theorem RelSl.ext {b off len : Nat} {v : Value} (h2 : RelSl E b off len v) : RelSl E' b off len v := by
  have hb := x.blk b
  unfold RelSl at *
  cases h3 : getB E.H b <;> cases h4 : getB E'.H b <;> simp only [h3, h4, BExt] at hb h2 ⊢
  · obtain ⟨rfl, h5, h6⟩ := hb
    exact SlAt.ext x h5 h6 h2
  · obtain ⟨rfl, h5, h6⟩ := hb
    exact SlAt.ext x h5 h6 h2
  · exact SlAt.gone h2
  · obtain ⟨rfl, h5, h6⟩ := hb
    exact SlAt.ext x h5 h6 h2
  · exact SlAt.gone h2
  · exact h2

omit hE in
theorem RelRef.ext {d : RefD} {v : Value} (h : RelRef E d v) : RelRef E' d v := by
  cases d with
  | nil => exact h
  | own b off len => exact ⟨h.1, RelSl.ext x h.2⟩
  | raw a len cap => exact h

theorem RoT.ext : ∀ (t : DTy) (d : t.den) (vs : List Value), RoT E t d vs → RoT E' t d vs
  | .unit, _, _, h => h
  | .int _, _, _, h => h
  | .bool, _, _, h => h
  | .str, _, _, h => h
  | .ws _ _, _, _, h => h
  | .pair a b, d, vs, h => by
    obtain ⟨v1, v2, h1, h2, h3⟩ := h
    exact ⟨v1, v2, h1, RoT.ext a _ _ h2, RoT.ext b _ _ h3⟩
  | .sl t, d, vs, h => by
    obtain ⟨v, h1, h2⟩ := h
    exact ⟨v, h1, RoSl.ext hE x (fun a us => RoT.ext t a us) h2⟩
  | .ref, d, vs, h => by
    obtain ⟨v, h1, h2⟩ := h
    exact ⟨v, h1, RelRef.ext x h2⟩

theorem RelRp.ext {t : DTy} {d : t.den} {o k : Nat} {v : Value} (h : RelRp E t d o k v) : RelRp E' t d o k v := by
  obtain ⟨kb, off, c, e, fz, us, h1, h2, h3, h4, h5, h6⟩ := h
  exact ⟨kb, off, c, e, fz, us, h1, x.ro kb h2, (roHeap hE x h2).trans h3, RoT.ext hE x t d us h4, h5, h6⟩

theorem RelC.ext : ∀ (y : Cell) (v : Value), RelC E y v → RelC E' y v
  | .any, _, h => h
  | .int .., _, h => h
  | .bool .., _, h => h
  | .str _, _, h => h
  | .nilp, _, h => h
  | .nils, _, h => h
  | .nilif, _, h => h
  | .nilfn, _, h => h
  | .fn .., _, h => h
  | .rptr t d o k, v, h => RelRp.ext hE x h
  | .ro t xs len, v, h => RoSl.ext hE x (fun a us => RoT.ext hE x t a us) h
  | .ifc t y, v, h => by
    obtain ⟨u, h1, h2⟩ := h
    exact ⟨u, h1, RelC.ext y u h2⟩
  | .ifd T t d, v, h => by
    obtain ⟨cs, h1, h2⟩ := h
    exact ⟨cs, h1, RoT.ext hE x t d _ h2⟩
  | .ptr b i es o k n, v, h => by
    obtain ⟨h1, h2⟩ := h
    refine ⟨h1, ?_⟩
    have hb := x.blk b
    unfold RelPtr PtrAt at *
    cases h3 : getB E.H b <;> cases h4 : getB E'.H b <;> simp only [h3, h4, BExt] at hb h2 ⊢
    · rw [hb]; exact h2
    · obtain ⟨⟨kb, _, e⟩, _⟩ := h2; exact ⟨_, e⟩
    · obtain ⟨rfl, h5, h6⟩ := hb; rw [h6]; exact ⟨h2.1, h2.2.1, by have := h2.2.2; omega⟩
    · obtain ⟨rfl, h5, h6⟩ := hb; rw [h6]; exact ⟨h2.1, h2.2.1, by have := h2.2.2; omega⟩
    · exact h2.1
    · obtain ⟨rfl, h5, h6⟩ := hb; rw [h6]; exact ⟨h2.1, h2.2.1, by have := h2.2.2; omega⟩
    · exact h2.1
    · exact h2
  | .sl b off len, v, h => ⟨h.1, RelSl.ext x h.2⟩
  | .ref d, v, h => RelRef.ext x h
  | .sla b o n off len, v, h => by
    obtain ⟨h1, h2⟩ := h
    refine ⟨h1, ?_⟩
    have hb := x.blk b
    unfold RelSla at *
    cases h3 : getB E.H b <;> cases h4 : getB E'.H b <;> simp only [h3, h4, BExt] at hb h2 ⊢
    · rw [hb]; exact h2
    · obtain ⟨a, cap, g1, g2, g3, g4, g5⟩ := h2
      exact ⟨a, cap, g1, g2, g3, g4, g5.imp id (fun ⟨k, _, h6⟩ => ⟨_, h6⟩)⟩
    · exact h2

theorem RelF.ext : ∀ (f : FCell) (vs : List Value), RelF E f vs → RelF E' f vs
  | .c y, vs, h => by
    obtain ⟨v, h1, h2⟩ := h
    exact ⟨v, h1, RelC.ext hE x y v h2⟩
  | .ws .., _, h => h

theorem RelFs.ext : ∀ (fs : List FCell) (vs : List Value), RelFs E fs vs → RelFs E' fs vs
  | [], _, h => h
  | f :: fs, vs, h => by
    obtain ⟨v1, v2, h1, h2, h3⟩ := h
    exact ⟨v1, v2, h1, RelF.ext hE x f v1 h2, RelFs.ext fs v2 h3⟩

theorem RelV.ext : ∀ (y : V1) (v : Value), RelV E y v → RelV E' y v
  | .c y, v, h => RelC.ext hE x y v h
  | .g fs, v, h => by
    obtain ⟨cs, h1, h2⟩ := h
    exact ⟨cs, h1, RelFs.ext hE x fs _ h2⟩

theorem RelVs.ext : ∀ (ys : List V1) (vs : List Value), RelVs E ys vs → RelVs E' ys vs
  | [], _, h => h
  | y :: ys, vs, h => by
    obtain ⟨u, us, h1, h2, h3⟩ := h
    exact ⟨u, us, h1, RelV.ext hE x y u h2, RelVs.ext ys us h3⟩

theorem RelS.ext : ∀ (y : SV) (v : Value), RelS E y v → RelS E' y v
  | .any, _, h => h
  | .one y, v, h => RelV.ext hE x y v h
  | .tup ys, v, h => by
    obtain ⟨us, h1, h2⟩ := h
    exact ⟨us, h1, RelVs.ext hE x ys _ h2⟩

theorem RelTs.ext : ∀ (ys : List SV) (vs : List Value), RelTs E ys vs → RelTs E' ys vs
  | [], _, h => h
  | y :: ys, vs, h => by
    obtain ⟨u, us, h1, h2, h3⟩ := h
    exact ⟨u, us, h1, RelS.ext hE x y u h2, RelTs.ext ys us h3⟩
end mono
end Go.SX
