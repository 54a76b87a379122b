/-
  SX, part 27: from a row's reading to abstract arguments, and back to the row's answer.
-/
import Derived.Test.YticfnbhbpcpgeaaDoorSx26
import Derived.Carry
import Derived.OpenShut
import Derived.RowKit
namespace Go.SX
open Go

/-- Is this kind of data the type's? -/
def fieldsFit (P : Program) (g : TypeId → DTy → Bool) : List Field → DTy → Nat → Bool
  | [], .unit, _ => true
  | f :: fs, .pair a b, o => f.offset == o && P.cellsOf f.type == a.size && g f.type a && fieldsFit P g fs b (o + a.size)
  | _, _, _ => false
def fits (P : Program) : Nat → TypeId → DTy → Bool
  | 0, _, _ => false
  | n + 1, T, t => match P.underlying T, t with
    | some (.int k), .int k' => k == k'
    | some .bool, .bool => true
    | some .string, .str => true
    | some (.array m e), .ws k m' => (match P.underlying e with | some (.int k') => k == k' && m == m' && P.cellsOf e == 1 && P.cellsOf T == m | _ => false)
    | some (.slice e), .sl t => fits P n e t && t.size == P.cellsOf e && Nat.blt 0 t.size
    | some (.struct fs), t => fieldsFit P (fits P n) fs.toList t 0 && t.size == P.cellsOf T
    | _, _ => false

/-- a slice's list holds just its elements -/
def DTy.exact : (t : DTy) → t.den → Prop
  | .sl t, d => d.2 = List.length d.1 ∧ ∀ x ∈ d.1, t.exact x
  | .pair a b, d => a.exact d.1 ∧ b.exact d.2
  | _, _ => True
def DTy.wt : (t : DTy) → t.den → Nat
  | .unit, _ => 0
  | .int _, _ => 1
  | .bool, _ => 1
  | .str, d => ByteArray.size d
  | .ws _ n, _ => n
  | .pair a b, d => a.wt d.1 + b.wt d.2
  | .sl t, d => (List.map t.wt d.1).sum + 1
  | .ref, _ => 1

/-- a measure of readings -/
structure Bulk (H : Type) where
  B : DataW H → Nat
  A : List (DataW H) → Nat
  lit : ∀ l, 1 ≤ B (.lit l)
  str : ∀ bs, B (.lit (.string bs)) = bs.length + 1
  nil : 1 ≤ B .nil
  slice : ∀ a b, B (.slice a b) = A a + A b + 1
  agg : ∀ a, B (.agg a) = A a + 1
  anil : A [] = 0
  acons : ∀ d r, A (d :: r) = B d + A r

theorem exists_list {α : Type} {Q : Nat → α → Prop} : ∀ n, (∀ i, i < n → ∃ d, Q i d) → ∃ l : List α, l.length = n ∧ ∀ i (h : i < l.length), Q i l[i]
  | 0, _ => ⟨[], rfl, fun i h => absurd h (Nat.not_lt_zero i)⟩
  | n + 1, h => by
    obtain ⟨l, hl, hq⟩ := exists_list n (fun i hi => h i (by omega))
    obtain ⟨d, hd⟩ := h n (by omega)
    refine ⟨l ++ [d], by rw [List.length_append, hl]; rfl, fun i hi => ?_⟩
    rw [List.length_append, hl] at hi
    by_cases e : i < n
    · rw [List.getElem_append_left (by omega)]; exact hq i (by omega)
    · obtain rfl : i = n := by simp at hi; omega
      rw [List.getElem_append_right (by omega)]
      simpa using hd

theorem sum_le {α : Type} {H : Type} (bk : Bulk H) {f : α → Nat} : ∀ {xs : List α} {ys : List (DataW H × List MemPlace)}, xs.length = ys.length → (∀ i (h : i < xs.length) (h' : i < ys.length), f xs[i] ≤ bk.B ys[i].1) → (xs.map f).sum ≤ bk.A (ys.map (·.1))
  | [], [], _, _ => Nat.zero_le _
  | [], _ :: _, h, _ => by simp at h
  | _ :: _, [], h, _ => by simp at h
  | x :: xs, y :: ys, h, hf => by
    have h1 := hf 0 (by simp) (by simp)
    have h2 := sum_le bk (xs := xs) (ys := ys) (by simpa using h) (fun i hi hi' => by have := hf (i + 1) (by simp; omega) (by simp; omega); simpa using this)
    rw [List.map_cons, List.map_cons, List.sum_cons, bk.acons]
    simp only [List.getElem_cons_zero] at h1
    omega

theorem sum_ones {α : Type} : ∀ l : List α, (l.map (fun _ => 1)).sum = l.length
  | [] => rfl
  | _ :: l => by rw [List.map_cons, List.sum_cons, sum_ones l, List.length_cons]; omega
theorem add_none (k off n : Nat) : (⟨k, off, none⟩ : Addr).add n = ⟨k, off + n, none⟩ := by unfold Addr.add; split <;> simp_all
theorem cell_some {w : World} {a : Addr} {v : Value} (h : w.cell? a = some v) : a.spot = none ∧ ∃ c e fz, w.heap[a.block]? = some (.cells c e fz) ∧ c[a.off]? = some v := by
  unfold World.cell? at h
  split at h
  · rename_i c e fz hc
    split at h
    · cases h
    · rename_i hs
      exact ⟨by simpa using hs, c, e, fz, hc, h⟩
  · cases h

section
variable {H : Type} {enc : TypeId × Value → H} {P : Program} {w : World} {sp : Nat → Bool} {held : Bool} {E : Env}

theorem rot_fields (bk : Bulk H) {g : TypeId → DTy → Bool} {fuel : Nat} {cs : List Value}
    (hg : ∀ T t, g T t = true → ∀ us x, DataW.trod enc P w 0 sp held fuel T us = some x → ∃ d : t.den, RoT E t d us ∧ t.exact d ∧ t.wt d ≤ bk.B x.1) :
    ∀ (l : List Field) (t : DTy) (o : Nat) (ys : List (DataW H × List MemPlace)), fieldsFit P g l t o = true → ys.length = l.length →
      (∀ (i : Nat) (f : Field), l[i]? = some f → DataW.trod enc P w 0 sp held fuel f.type ((cs.drop f.offset).take (P.cellsOf f.type)) = ys[i]?) → o + t.size = cs.length →
      ∃ d : t.den, RoT E t d (cs.drop o) ∧ t.exact d ∧ t.wt d ≤ bk.A (ys.map (·.1))
  | [], t, o, ys, hf, hy, hx, ho => by
    cases t <;> simp [fieldsFit] at hf
    refine ⟨(), ?_, trivial, Nat.zero_le _⟩
    show cs.drop o = []
    exact List.drop_eq_nil_of_le (by simp [DTy.size] at ho; omega)
  | f :: fs, t, o, ys, hf, hy, hx, ho => by
    cases t <;> simp only [fieldsFit, Bool.and_eq_true, beq_iff_eq] at hf <;> try exact absurd hf Bool.false_ne_true
    rename_i a b
    obtain ⟨⟨⟨h1, h2⟩, h3⟩, h4⟩ := hf
    cases ys with
    | nil => simp at hy
    | cons y ys =>
      have h0 := hx 0 f rfl
      rw [h1, h2] at h0
      obtain ⟨d1, r1, e1, w1⟩ := hg _ _ h3 _ y h0
      simp only [DTy.size] at ho
      obtain ⟨d2, r2, e2, w2⟩ := rot_fields bk hg fs b (o + a.size) ys h4 (by simpa using hy) (fun i f' hi => by have := hx (i + 1) f' (by simpa using hi); simpa using this) (by omega)
      refine ⟨(d1, d2), ⟨_, _, ?_, r1, r2⟩, ⟨e1, e2⟩, ?_⟩
      · rw [← List.drop_drop, List.take_append_drop]
      · show a.wt d1 + b.wt d2 ≤ _
        rw [List.map_cons, bk.acons]; omega

theorem rot_of (hE : E.w = w) (hR : ∀ k, k < w.heap.size → E.R k) (bk : Bulk H) : ∀ (n : Nat) (T : TypeId) (t : DTy), fits P n T t = true → ∀ (fuel : Nat) (cs : List Value) (x : DataW H × List MemPlace),
    DataW.trod enc P w 0 sp held fuel T cs = some x → ∃ d : t.den, RoT E t d cs ∧ t.exact d ∧ t.wt d ≤ bk.B x.1
  | 0, T, t, h, _, _, _, _ => by simp [fits] at h
  | n + 1, T, t, h, fuel, cs, x, hx => by
    unfold fits at h
    split at h
    · rename_i k k' ht
      obtain rfl : k = k' := by simpa using h
      obtain ⟨z, rfl, rfl, hw⟩ := DataW.trod_int ht hx
      simp only [Lit.wf, Bool.and_eq_true, decide_eq_true_eq] at hw
      exact ⟨z, ⟨rfl, hw⟩, trivial, bk.lit _⟩
    · rename_i ht
      obtain ⟨b, rfl, rfl⟩ := DataW.trod_bool ht hx
      exact ⟨b, rfl, trivial, bk.lit _⟩
    · rename_i ht
      obtain ⟨s, rfl, rfl, _⟩ := DataW.trod_string ht hx
      refine ⟨s, rfl, trivial, ?_⟩
      show ByteArray.size s ≤ bk.B (.lit (.string s.data.toList))
      rw [bk.str]
      show s.data.size ≤ _
      rw [Array.length_toList]; omega
    · rename_i m e k m' ht
      split at h
      · rename_i k' he
        simp only [Bool.and_eq_true, beq_iff_eq] at h
        obtain ⟨⟨⟨rfl, rfl⟩, hc⟩, hct⟩ := h
        obtain ⟨xs, q, _, rfl, hl, hxl, hel⟩ := DataW.trod_array ht hx
        have hex : ∀ i, i < m → ∃ z : Int, InK k z ∧ cs[i]? = some (.int k z) ∧ ∃ y, xs[i]? = some y ∧ 1 ≤ bk.B y.1 := fun i hi => by
          have h1 := hel i hi
          rw [hc, Nat.mul_one] at h1
          rw [List.getElem?_eq_getElem (by omega)] at h1
          obtain ⟨z, hz, hy, hw⟩ := DataW.trod_int he h1
          simp only [Lit.wf, Bool.and_eq_true, decide_eq_true_eq] at hw
          refine ⟨z, hw, ?_, xs[i], List.getElem?_eq_getElem (by omega), by rw [hy]; exact bk.lit _⟩
          have : ((cs.drop i).take 1)[0]? = some (.int k z) := by rw [hz]; rfl
          rw [List.getElem?_take] at this
          simpa using this
        obtain ⟨l, hl1, hl2⟩ := exists_list m hex
        have hlen : cs.length ≤ m := by omega
        refine ⟨l, ⟨hl1, fun x hx => ?_, ?_⟩, trivial, ?_⟩
        · obtain ⟨i, hi, rfl⟩ := List.getElem_of_mem hx
          exact (hl2 i hi).1
        · apply List.ext_getElem?
          intro i
          by_cases hi : i < m
          · rw [(hl2 i (by omega)).2.1, List.getElem?_map, List.getElem?_eq_getElem (by omega)]; rfl
          · rw [List.getElem?_eq_none (by omega), List.getElem?_eq_none (by simp; omega)]
        · show m ≤ bk.B (.agg (xs.map (·.1)))
          rw [bk.agg]
          have : (List.map (fun _ => 1) l).sum ≤ bk.A (xs.map (·.1)) := sum_le bk (f := fun _ : Int => 1) (by omega) (fun i hi hi' => by
            obtain ⟨_, _, y, hy, hb⟩ := hl2 i hi
            rw [List.getElem?_eq_getElem hi'] at hy
            rw [Option.some.inj hy]; exact hb)
          have e : (List.map (fun _ : Int => 1) l).sum = l.length := sum_ones l
          omega
      · cases h
    · rename_i e t ht
      simp only [Bool.and_eq_true, beq_iff_eq] at h
      obtain ⟨⟨h1, h2⟩, h3⟩ := h
      have hpos : 0 < t.size := by simpa using h3
      rcases DataW.trod_slice ht hx with ⟨rfl, rfl⟩ | ⟨a, len, cap, elems, rest, m, rfl, rfl, rfl, hb, hl, hc, hlen, hel, hsp, hns⟩
      · refine ⟨([], 0), ⟨_, rfl, none, 0, rfl, Nat.le_refl _, Nat.le_refl _, by omega, hpos, fun h => (h rfl).elim⟩, ⟨rfl, fun x hx => by simp at hx⟩, ?_⟩
        show 0 + 1 ≤ _
        exact bk.nil
      · have hex : ∀ i, i < len → ∃ d : t.den, (∃ us, RoT E t d us ∧ w.cells? 0 (a.add (i * t.size)) t.size = some us) ∧ t.exact d ∧ ∀ y, elems[i]? = some y → t.wt d ≤ bk.B y.1 := fun i hi => by
          have hh := hel i hi
          rw [← h2, List.getElem?_eq_getElem (by omega), Option.bind_eq_some_iff] at hh
          obtain ⟨us, g1, g2⟩ := hh
          obtain ⟨d, r1, r2, r3⟩ := rot_of hE hR bk n e t h1 m us _ g2
          refine ⟨d, ⟨us, r1, g1⟩, r2, fun y hy => ?_⟩
          rw [List.getElem?_eq_getElem (by omega)] at hy
          obtain rfl := Option.some.inj hy
          exact r3
        obtain ⟨l, hl1, hl2⟩ := exists_list len hex
        refine ⟨(l, len), ⟨_, rfl, some a, cap, rfl, by show len ≤ l.length; omega, by show l.length ≤ cap; omega, ?_, hpos, fun hne => ?_⟩, ⟨hl1.symm, fun x hx => ?_⟩, ?_⟩
        · have : maxLen < 9223372036854775808 := by decide
          omega
        · have h0 : 0 < l.length := List.length_pos_iff.mpr hne
          obtain ⟨⟨us, r1, r2⟩, _, _⟩ := hl2 0 h0
          obtain ⟨_, c1, c2⟩ := World.cells?_some r2
          have c3 := c2 0 hpos
          have hu := RoT.len r1
          rw [List.getElem?_eq_getElem (by omega)] at c3
          obtain ⟨s1, c, ee, fz, s2, s3⟩ := cell_some c3
          have e0 : (a.add (0 * t.size)).add 0 = a := by rw [Nat.zero_mul]; rfl
          rw [e0] at s1 s2 s3
          obtain ⟨k, off, spot⟩ := a
          obtain rfl : spot = none := s1
          refine ⟨k, off, c, ee, fz, rfl, hR k ?_, by rw [hE]; exact s2, fun i hi => ?_⟩
          · exact (Array.getElem?_eq_some_iff.1 s2).1
          · obtain ⟨⟨us, r1, r2⟩, _, _⟩ := hl2 i hi
            obtain ⟨_, c1, c2⟩ := World.cells?_some r2
            refine ⟨us, r1, c1, fun j hj => ?_⟩
            have c3 := c2 j hj
            rw [add_none, add_none] at c3
            unfold World.cell? at c3
            simp only [s2] at c3
            simpa [Nat.add_assoc] using c3
        · obtain ⟨i, hi, rfl⟩ := List.getElem_of_mem hx
          exact (hl2 i hi).2.1
        · show (List.map t.wt l).sum + 1 ≤ bk.B (.slice _ _)
          rw [bk.slice]
          have := sum_le bk (f := t.wt) (xs := l) (ys := elems) (by omega) (fun i hi hi' => (hl2 i hi).2.2 _ (List.getElem?_eq_getElem hi'))
          omega
    · rename_i _ _ fs ht
      simp only [Bool.and_eq_true, beq_iff_eq] at h
      obtain ⟨xs, q, rfl, rfl, hl, hxl, hel⟩ := DataW.trod_struct ht hx
      obtain ⟨d, r1, r2, r3⟩ := rot_fields (E := E) bk (g := fits P n) (fun T t hg us x hx => rot_of hE hR bk n T t hg q us x hx) fs.toList _ 0 xs h.1 (by simpa using hxl) (fun i f hf => hel i f (by simpa using hf)) (by omega)
      refine ⟨d, r1, r2, ?_⟩
      rw [bk.agg]; omega
    · cases h
end
end Go.SX
