/-
  SHA-512, plainly: words, rounds, blocks, padding; no program.
  SHA-512, plainly, part 2: blocks one behind the other; what a state holds; padding.
  SHA-512, plainly, part 3: the padding; what a state gives is the hash of what it holds.
-/
import Derived.Test.YticfnbhbpcpgeaaDoorAr
import Derived.Test.YticfnbhbpcpgeaaDoorSc
import Derived.Test.YticfnbhbpcpgeaaDoorSx29
namespace Go.Sc
open Go Go.SX

def um64 (x : Int) : Int := IntKind.u64.wrap x
def bxor (x y : Int) : Int := IntKind.u64.wrap ((BitVec.ofInt 64 x ^^^ BitVec.ofInt 64 y).toNat : Int)
def bnot (x : Int) : Int := bxor 18446744073709551615 x
/-- turned to the right by k -/
def rotI (x k : Int) : Int := bor (um64 (x * 2 ^ (64 - k).toNat)) (x.fdiv (2 ^ k.toNat))
theorem bor_comm (x y : Int) : bor x y = bor y x := by unfold bor; rw [BitVec.or_comm]

/-- the word of j bytes from o on, the highest first -/
def be (bs : List Int) (o : Nat) : Nat → Int
  | 0 => 0
  | j + 1 => bor (um64 (be bs o j * 2 ^ 8)) (um64 (bs.getD (o + j) 0))
def sgA (x : Int) : Int := bxor (bxor (rotI x 19) (rotI x 61)) (x.fdiv (2 ^ 6))
def sgB (x : Int) : Int := bxor (bxor (rotI x 1) (rotI x 8)) (x.fdiv (2 ^ 7))
def wnx5 (ww : List Int) (t : Nat) : Int := um64 (um64 (um64 (sgA (ww.getD (t - 2) 0) + ww.getD (t - 7) 0) + sgB (ww.getD (t - 15) 0)) + ww.getD (t - 16) 0)
/-- the 80 words of the block at o, those before t -/
def wT5 (bs : List Int) (o : Nat) : Nat → List Int
  | 0 => List.replicate 80 0
  | t + 1 => (wT5 bs o t).set t (if t < 16 then be bs (o + 8 * t) 8 else wnx5 (wT5 bs o t) t)
theorem wT5_len (bs : List Int) (o : Nat) : ∀ t, (wT5 bs o t).length = 80
  | 0 => by unfold wT5; rw [List.length_replicate]
  | t + 1 => by unfold wT5; rw [List.length_set]; exact wT5_len bs o t
theorem getD_set_neZ {α : Type} {l : List α} {i j : Nat} {x d : α} (h : i ≠ j) : (l.set i x).getD j d = l.getD j d := by
  rw [List.getD_eq_getElem?_getD, List.getElem?_set_ne h, ← List.getD_eq_getElem?_getD]
theorem getD_set_eqZ {α : Type} {l : List α} {i : Nat} {x d : α} (h : i < l.length) : (l.set i x).getD i d = x := by
  rw [List.getD_eq_getElem?_getD, List.getElem?_set_self h]; rfl
theorem wT5_zero (bs : List Int) (o : Nat) : ∀ t i, t ≤ i → (wT5 bs o t).getD i 0 = 0
  | 0, i, _ => by
    unfold wT5
    rw [List.getD_eq_getElem?_getD, List.getElem?_replicate]
    split <;> rfl
  | t + 1, i, h => by
    unfold wT5
    rw [getD_set_neZ (by omega)]
    exact wT5_zero bs o t i (by omega)
theorem set_setZ {α : Type} (l : List α) (i : Nat) (x y : α) : (l.set i x).set i y = l.set i y := by rw [List.set_set]
theorem set_getDZ {α : Type} {l : List α} {i : Nat} {d : α} : l.set i (l.getD i d) = l := by
  apply List.ext_getElem?
  intro j
  rcases Nat.lt_or_ge i l.length with h | h
  · by_cases e : i = j
    · subst e
      rw [List.getElem?_set_self h, List.getD_eq_getElem?_getD, List.getElem?_eq_getElem h]; rfl
    · rw [List.getElem?_set_ne e]
  · rw [List.set_eq_of_length_le h]
def uT5 (v : List Int) (k w : Int) : Int :=
  um64 (um64 (um64 (um64 (v.getD 7 0 + bxor (bxor (rotI (v.getD 4 0) 14) (rotI (v.getD 4 0) 18)) (rotI (v.getD 4 0) 41)) + bxor (band (v.getD 4 0) (v.getD 5 0)) (band (bnot (v.getD 4 0)) (v.getD 6 0))) + k) + w)
def rnd512 (v : List Int) (k w : Int) : List Int :=
  [um64 (um64 (uT5 v k w + bxor (bxor (rotI (v.getD 0 0) 28) (rotI (v.getD 0 0) 34)) (rotI (v.getD 0 0) 39)) + bxor (bxor (band (v.getD 0 0) (v.getD 1 0)) (band (v.getD 0 0) (v.getD 2 0))) (band (v.getD 1 0) (v.getD 2 0))),
    v.getD 0 0, v.getD 1 0, v.getD 2 0, um64 (v.getD 3 0 + uT5 v k w), v.getD 4 0, v.getD 5 0, v.getD 6 0]
def vT5 (K v ww : List Int) : Nat → List Int
  | 0 => v
  | t + 1 => rnd512 (vT5 K v ww t) (K.getD t 0) (ww.getD t 0)
theorem vT5_len (K v ww : List Int) (h : v.length = 8) : ∀ t, (vT5 K v ww t).length = 8
  | 0 => h
  | _ + 1 => rfl
/-- the state behind the block at o -/
def cmp5 (K h bs : List Int) (o : Nat) : List Int :=
  let v := vT5 K h (wT5 bs o 80) 80
  [um64 (h.getD 0 0 + v.getD 0 0), um64 (h.getD 1 0 + v.getD 1 0), um64 (h.getD 2 0 + v.getD 2 0), um64 (h.getD 3 0 + v.getD 3 0), um64 (h.getD 4 0 + v.getD 4 0), um64 (h.getD 5 0 + v.getD 5 0), um64 (h.getD 6 0 + v.getD 6 0), um64 (h.getD 7 0 + v.getD 7 0)]
theorem eightZ {l : List Int} (h : l.length = 8) : ∃ a b c d e f g i, l = [a, b, c, d, e, f, g, i] := by
  obtain ⟨a, l, rfl⟩ := List.exists_cons_of_length_eq_add_one h
  obtain ⟨b, l, rfl⟩ := List.exists_cons_of_length_eq_add_one (Nat.succ.inj h)
  obtain ⟨c, l, rfl⟩ := List.exists_cons_of_length_eq_add_one (Nat.succ.inj (Nat.succ.inj h))
  obtain ⟨d, l, rfl⟩ := List.exists_cons_of_length_eq_add_one (Nat.succ.inj (Nat.succ.inj (Nat.succ.inj h)))
  obtain ⟨e, l, rfl⟩ := List.exists_cons_of_length_eq_add_one (Nat.succ.inj (Nat.succ.inj (Nat.succ.inj (Nat.succ.inj h))))
  obtain ⟨f, l, rfl⟩ := List.exists_cons_of_length_eq_add_one (Nat.succ.inj (Nat.succ.inj (Nat.succ.inj (Nat.succ.inj (Nat.succ.inj h)))))
  obtain ⟨g, l, rfl⟩ := List.exists_cons_of_length_eq_add_one (Nat.succ.inj (Nat.succ.inj (Nat.succ.inj (Nat.succ.inj (Nat.succ.inj (Nat.succ.inj h))))))
  obtain ⟨i, l, rfl⟩ := List.exists_cons_of_length_eq_add_one (Nat.succ.inj (Nat.succ.inj (Nat.succ.inj (Nat.succ.inj (Nat.succ.inj (Nat.succ.inj (Nat.succ.inj h)))))))
  obtain rfl : l = [] := by simpa using h
  exact ⟨a, b, c, d, e, f, g, i, rfl⟩
end Go.Sc

namespace Go.Sc
open Go Go.SX

theorem getD_getElem? {α : Type} (l : List α) (i : Nat) (d : α) : l.getD i d = (l[i]?).getD d := List.getD_eq_getElem?_getD
theorem be_congr {bs bs' : List Int} {o o' : Nat} : ∀ j, (∀ i, i < j → bs.getD (o + i) 0 = bs'.getD (o' + i) 0) → be bs o j = be bs' o' j
  | 0, _ => rfl
  | j + 1, h => by
    unfold be
    rw [be_congr j (fun i hi => h i (by omega)), h j (by omega)]
theorem wT5_congr {bs bs' : List Int} {o o' : Nat} (h : ∀ i, i < 128 → bs.getD (o + i) 0 = bs'.getD (o' + i) 0) : ∀ t, wT5 bs o t = wT5 bs' o' t
  | 0 => rfl
  | t + 1 => by
    unfold wT5
    rw [wT5_congr h t]
    by_cases ht : t < 16
    · rw [if_pos ht, if_pos ht, be_congr (o := o + 8 * t) (o' := o' + 8 * t) 8 (fun i hi => by rw [Nat.add_assoc, Nat.add_assoc]; exact h (8 * t + i) (by omega))]
    · rw [if_neg ht, if_neg ht]
theorem cmp5_congr {K h0 bs bs' : List Int} {o o' : Nat} (h : ∀ i, i < 128 → bs.getD (o + i) 0 = bs'.getD (o' + i) 0) : cmp5 K h0 bs o = cmp5 K h0 bs' o' := by
  unfold cmp5
  rw [wT5_congr h 80]
/-- the state behind the first k blocks -/
def hbn (K h0 m : List Int) : Nat → List Int
  | 0 => h0
  | k + 1 => cmp5 K (hbn K h0 m k) m (128 * k)
theorem hbn_len (K h0 m : List Int) (h : h0.length = 8) : ∀ k, (hbn K h0 m k).length = 8
  | 0 => h
  | _ + 1 => rfl
theorem hbn_congr {K h0 m m' : List Int} : ∀ k, (∀ i, i < 128 * k → m.getD i 0 = m'.getD i 0) → hbn K h0 m k = hbn K h0 m' k
  | 0, _ => rfl
  | k + 1, h => by
    unfold hbn
    rw [hbn_congr k (fun i hi => h i (by omega))]
    exact cmp5_congr (fun i hi => h _ (by omega))

theorem getD_appZ {m ys : List Int} {i : Nat} : (m ++ ys).getD i 0 = if i < m.length then m.getD i 0 else ys.getD (i - m.length) 0 := by
  rw [getD_getElem?, getD_getElem?, getD_getElem?, List.getElem?_append]
  split <;> rfl
theorem getD_takeZ {xs : List Int} {n i : Nat} : (xs.take n).getD i 0 = if i < n then xs.getD i 0 else 0 := by
  rw [getD_getElem?, getD_getElem?, List.getElem?_take]
  split <;> rfl
theorem getD_dropZ {xs : List Int} {n i : Nat} : (xs.drop n).getD i 0 = xs.getD (n + i) 0 := by
  rw [getD_getElem?, getD_getElem?, List.getElem?_drop]
theorem getD_zerosZ {n i : Nat} : (List.replicate n (0 : Int)).getD i 0 = 0 := by
  rw [getD_getElem?, List.getElem?_replicate]
  split <;> rfl
theorem splice_len {b ys : List Int} {o : Nat} (h : o + ys.length ≤ b.length) : (splice b o ys).length = b.length := by
  unfold splice
  rw [List.length_append, List.length_append, List.length_take, List.length_drop]; omega
theorem getD_splice {b ys : List Int} {o : Nat} (h : o + ys.length ≤ b.length) (i : Nat) : (splice b o ys).getD i 0 = if i < o then b.getD i 0 else if i < o + ys.length then ys.getD (i - o) 0 else b.getD i 0 := by
  unfold splice
  rw [getD_appZ, getD_appZ, getD_takeZ, getD_dropZ, List.length_append, List.length_take, Nat.min_eq_left (by omega)]
  by_cases h1 : i < o
  · rw [if_pos (by omega), if_pos h1, if_pos h1, if_pos h1]
  · rw [if_neg h1, if_neg h1]
    by_cases h2 : i < o + ys.length
    · rw [if_pos h2, if_pos h2]
    · rw [if_neg h2, if_neg h2]; congr 1; omega

/-- the state holds the bytes m -/
structure Holds (K h0 m w b : List Int) (n : Int) : Prop where
  hn : n = m.length
  hw : w = hbn K h0 m (m.length / 128)
  hb : b.length = 128
  ht : ∀ i, i < m.length % 128 → b.getD i 0 = m.getD (128 * (m.length / 128) + i) 0

theorem Holds.step {K h0 m w b ys : List Int} {n : Int} (h : Holds K h0 m w b n) (hy : m.length % 128 + ys.length < 128) : Holds K h0 (m ++ ys) w (splice b (m.length % 128) ys) (n + ys.length) := by
  have hl : (m ++ ys).length = m.length + ys.length := List.length_append
  have hd : (m ++ ys).length / 128 = m.length / 128 := by rw [hl]; omega
  have hm : (m ++ ys).length % 128 = m.length % 128 + ys.length := by rw [hl]; omega
  refine ⟨by rw [hl, h.hn]; omega, ?_, by rw [splice_len (by rw [h.hb]; omega)]; exact h.hb, fun i hi => ?_⟩
  · rw [hd, h.hw]
    refine hbn_congr _ (fun i hi => ?_)
    rw [getD_appZ, if_pos (by omega)]
  · rw [hm] at hi
    rw [getD_splice (by rw [h.hb]; omega), hd, getD_appZ]
    by_cases h1 : i < m.length % 128
    · rw [if_pos h1, if_pos (by omega)]; exact h.ht i h1
    · rw [if_neg h1, if_pos (by omega), if_neg (by omega)]; congr 1; omega
theorem Holds.full {K h0 m w b ys : List Int} {n : Int} (h : Holds K h0 m w b n) (hy : m.length % 128 + ys.length = 128) :
    Holds K h0 (m ++ ys) (cmp5 K w (splice b (m.length % 128) ys) 0) (splice b (m.length % 128) ys) (n + ys.length) := by
  have hl : (m ++ ys).length = m.length + ys.length := List.length_append
  have hd : (m ++ ys).length / 128 = m.length / 128 + 1 := by rw [hl]; omega
  have hm : (m ++ ys).length % 128 = 0 := by rw [hl]; omega
  refine ⟨by rw [hl, h.hn]; omega, ?_, by rw [splice_len (by rw [h.hb]; omega)]; exact h.hb, fun i hi => ?_⟩
  · rw [hd, h.hw]
    show _ = cmp5 K (hbn K h0 (m ++ ys) (m.length / 128)) (m ++ ys) (128 * (m.length / 128))
    rw [hbn_congr (m := m ++ ys) (m' := m) _ (fun i hi => by rw [getD_appZ, if_pos (by omega)])]
    refine cmp5_congr (fun i hi => ?_)
    rw [Nat.zero_add, getD_splice (by rw [h.hb]; omega), getD_appZ]
    by_cases h1 : i < m.length % 128
    · rw [if_pos h1, if_pos (by omega)]; exact h.ht i h1
    · rw [if_neg h1, if_pos (by omega), if_neg (by omega)]; congr 1; omega
  · rw [hm] at hi; omega

/-! ### bytes come -/
def cut (n : Int) (xs : List Int) (len : Nat) : Nat := min (xs.take len).length (128 - (n.tmod 128).toNat)
def wr (C : List Int → List Int → List Int) : Nat → List Int → List Int → Int → List Int → Nat → List Int × List Int × Int
  | 0, w, b, n, _, _ => (w, b, n)
  | f + 1, w, b, n, xs, len =>
    if len = 0 then (w, b, n)
    else if (n.tmod 128).toNat + cut n xs len = 128 then
      wr C f (C w (splice b (n.tmod 128).toNat ((xs.take len).take (cut n xs len)))) (splice b (n.tmod 128).toNat ((xs.take len).take (cut n xs len))) (n + cut n xs len) (xs.drop (cut n xs len)) (len - cut n xs len)
    else wr C f w (splice b (n.tmod 128).toNat ((xs.take len).take (cut n xs len))) (n + cut n xs len) (xs.drop (cut n xs len)) (len - cut n xs len)
theorem tmod_nat (m : Nat) : ((m : Int).tmod 128) = ((m % 128 : Nat) : Int) := rfl
theorem wr_holds {K h0 : List Int} : ∀ (f : Nat) (m w b xs : List Int) (n : Int) (len : Nat), Holds K h0 m w b n → len ≤ xs.length → len ≤ f →
    Holds K h0 (m ++ xs.take len) (wr (fun w b => cmp5 K w b 0) f w b n xs len).1 (wr (fun w b => cmp5 K w b 0) f w b n xs len).2.1 (wr (fun w b => cmp5 K w b 0) f w b n xs len).2.2
  | 0, m, w, b, xs, n, len, h, hl, hf => by
    obtain rfl : len = 0 := by omega
    rw [List.take_zero, List.append_nil]; exact h
  | f + 1, m, w, b, xs, n, len, h, hl, hf => by
    unfold wr
    by_cases h0 : len = 0
    · rw [if_pos h0, h0, List.take_zero, List.append_nil]; exact h
    · rw [if_neg h0]
      have hn := h.hn
      have ht : (n.tmod 128).toNat = m.length % 128 := by rw [hn, tmod_nat, Int.toNat_natCast]
      have hc : cut n xs len = min len (128 - m.length % 128) := by unfold cut; rw [ht, List.length_take, Nat.min_eq_left hl]
      have hyl : ((xs.take len).take (cut n xs len)).length = cut n xs len := by rw [List.length_take, List.length_take]; omega
      have happ : m ++ xs.take len = (m ++ (xs.take len).take (cut n xs len)) ++ (xs.drop (cut n xs len)).take (len - cut n xs len) := by
        rw [List.append_assoc, ← List.drop_take, List.take_append_drop]
      rw [happ, ht]
      split
      · rename_i h1
        have hs := h.full (ys := (xs.take len).take (cut n xs len)) (by rw [hyl]; exact h1)
        rw [hyl] at hs
        exact wr_holds f _ _ _ _ _ _ hs (by rw [List.length_drop]; omega) (by omega)
      · rename_i h1
        have hs := h.step (ys := (xs.take len).take (cut n xs len)) (by rw [hyl]; omega)
        rw [hyl] at hs
        exact wr_holds f _ _ _ _ _ _ hs (by rw [List.length_drop]; omega) (by omega)
end Go.Sc

namespace Go.Sc
open Go Go.SX

def u8 (x : Int) : Int := IntKind.u8.wrap x
theorem u8_eq (x : Int) : u8 x = x % 256 := by
  unfold u8
  simp [IntKind.wrap, IntKind.bits, IntKind.signed]
def fin1 (b : List Int) (n : Int) : List Int := (splice b (n.tmod 128).toNat (List.replicate (128 - (n.tmod 128).toNat) 0)).set (n.tmod 128).toNat 128
def putLen (b : List Int) (hi lo : Int) : List Int := (List.range 8).foldl (fun b i => (b.set (119 - i) (u8 (hi.fdiv (2 ^ (8 * i))))).set (127 - i) (u8 (lo.fdiv (2 ^ (8 * i))))) b
def outB (v : List Int) : List Int := (List.range 8).flatMap fun i => (List.range 8).map fun j => u8 ((v.getD i 0).fdiv (2 ^ (56 - 8 * j)))
def hiN (n : Int) : Int := mulHi (um64 n) 8
def loN (n : Int) : Int := mulLo (um64 n) 8
def finV (C : List Int → List Int → List Int) (w b : List Int) (n : Int) : List Int :=
  if n.tmod 128 ≥ 112 then outB (C (C w (fin1 b n)) (putLen (splice (fin1 b n) 0 (List.replicate 128 0)) (hiN n) (loN n))) else outB (C w (putLen (fin1 b n) (hiN n) (loN n)))
def be8 (x : Int) : List Int := (List.range 8).map fun j => x / 2 ^ (56 - 8 * j) % 256
def zN (l : Nat) : Nat := (239 - l % 128) % 128
def padded (m : List Int) : List Int := m ++ (128 :: List.replicate (zN m.length) 0) ++ List.replicate 8 0 ++ be8 (8 * (m.length : Int))
def sha (K h0 m : List Int) : List Int := outB (hbn K h0 (padded m) ((padded m).length / 128))

theorem be8_len (x : Int) : (be8 x).length = 8 := by unfold be8; rw [List.length_map, List.length_range]
theorem getD_be8 (x : Int) (j : Nat) : (be8 x).getD j 0 = if j < 8 then x / 2 ^ (56 - 8 * j) % 256 else 0 := by
  unfold be8
  rw [getD_getElem?, List.getElem?_map]
  by_cases h : j < 8
  · rw [List.getElem?_range h, if_pos h]; rfl
  · rw [List.getElem?_eq_none (by simpa using h), if_neg h]; rfl
theorem padded_len (m : List Int) : (padded m).length = m.length + zN m.length + 17 := by
  unfold padded
  rw [List.length_append, List.length_append, List.length_append, List.length_cons, List.length_replicate, List.length_replicate, be8_len]; omega
theorem getD_consZ {a : Int} {l : List Int} {i : Nat} : (a :: l).getD i 0 = if i = 0 then a else l.getD (i - 1) 0 := by
  cases i with
  | zero => rfl
  | succ i => rw [if_neg (by omega), Nat.add_sub_cancel]; rfl
theorem getD_padded (m : List Int) (j : Nat) : (padded m).getD j 0 = if j < m.length then m.getD j 0 else if j = m.length then 128 else if j < m.length + zN m.length + 9 then 0 else (be8 (8 * (m.length : Int))).getD (j - (m.length + zN m.length + 9)) 0 := by
  unfold padded
  rw [getD_appZ, List.length_append, List.length_append, List.length_cons, List.length_replicate, List.length_replicate, getD_appZ, List.length_append, List.length_cons, List.length_replicate, getD_appZ, getD_consZ, getD_zerosZ, getD_zerosZ]
  by_cases h1 : j < m.length
  · rw [if_pos (by omega), if_pos (by omega), if_pos h1, if_pos h1]
  · rw [if_neg h1, if_neg h1]
    by_cases h2 : j = m.length
    · rw [if_pos (by omega), if_pos (by omega), if_pos (by omega), if_pos h2]
    · rw [if_neg h2]
      by_cases h3 : j < m.length + zN m.length + 9
      · rw [if_pos (by omega), if_pos h3]
        by_cases h4 : j < m.length + (zN m.length + 1)
        · rw [if_pos h4, if_neg (by omega)]
        · rw [if_neg h4]
      · rw [if_neg (by omega), if_neg h3]; congr 1 <;> omega

theorem putLen_go (b : List Int) (hi lo : Int) (hb : b.length = 128) : ∀ k, k ≤ 8 → ((List.range k).foldl (fun b i => (b.set (119 - i) (u8 (hi.fdiv (2 ^ (8 * i))))).set (127 - i) (u8 (lo.fdiv (2 ^ (8 * i))))) b).length = 128 ∧
    ∀ i, i < 128 → ((List.range k).foldl (fun b i => (b.set (119 - i) (u8 (hi.fdiv (2 ^ (8 * i))))).set (127 - i) (u8 (lo.fdiv (2 ^ (8 * i))))) b).getD i 0 =
      if 120 - k ≤ i ∧ i < 120 then u8 (hi.fdiv (2 ^ (8 * (119 - i)))) else if 128 - k ≤ i then u8 (lo.fdiv (2 ^ (8 * (127 - i)))) else b.getD i 0
  | 0, _ => ⟨hb, fun i hi => by rw [if_neg (by omega), if_neg (by omega)]; rfl⟩
  | k + 1, hk => by
    obtain ⟨h1, h2⟩ := putLen_go b hi lo hb k (by omega)
    rw [List.range_succ, List.foldl_append]
    refine ⟨?_, fun i hi' => ?_⟩
    · show ((List.set _ _ _).set _ _).length = 128
      rw [List.length_set, List.length_set]; exact h1
    · show ((List.set _ _ _).set _ _).getD i 0 = _
      by_cases e1 : i = 127 - k
      · rw [e1, getD_set_eqZ (by rw [List.length_set, h1]; omega), if_neg (by omega), if_pos (by omega)]
        congr 4 <;> omega
      · rw [getD_set_neZ (by omega)]
        by_cases e2 : i = 119 - k
        · rw [e2, getD_set_eqZ (by rw [h1]; omega), if_pos (by omega)]
          congr 4 <;> omega
        · rw [getD_set_neZ (by omega), h2 i hi']
          by_cases e3 : 120 - k ≤ i ∧ i < 120
          · rw [if_pos e3, if_pos (show 120 - (k + 1) ≤ i ∧ i < 120 by omega)]
          · rw [if_neg e3, if_neg (show ¬ (120 - (k + 1) ≤ i ∧ i < 120) by omega)]
            by_cases e4 : 128 - k ≤ i
            · rw [if_pos e4, if_pos (show 128 - (k + 1) ≤ i by omega)]
            · rw [if_neg e4, if_neg (show ¬ 128 - (k + 1) ≤ i by omega)]
theorem getD_putLen {b : List Int} {hi lo : Int} (hb : b.length = 128) {i : Nat} (h : i < 128) : (putLen b hi lo).getD i 0 = if i < 112 then b.getD i 0 else if i < 120 then u8 (hi.fdiv (2 ^ (8 * (119 - i)))) else u8 (lo.fdiv (2 ^ (8 * (127 - i)))) := by
  have := (putLen_go b hi lo hb 8 (Nat.le_refl _)).2 i h
  unfold putLen
  rw [this]
  by_cases h1 : i < 112
  · rw [if_pos h1, if_neg (by omega), if_neg (by omega)]
  · rw [if_neg h1]
    by_cases h2 : i < 120
    · rw [if_pos h2, if_pos (by omega)]
    · rw [if_neg h2, if_neg (by omega), if_pos (by omega)]

section
variable {K h0 m w b : List Int} {n : Int}
theorem fin1_len (hb : b.length = 128) (r : Nat) (hr : r < 128) (hn : (n.tmod 128).toNat = r) : (fin1 b n).length = 128 := by
  unfold fin1
  rw [hn, List.length_set, splice_len (by rw [List.length_replicate]; omega)]; exact hb
theorem getD_fin1 (hb : b.length = 128) {r : Nat} (hr : r < 128) (hn : (n.tmod 128).toNat = r) (i : Nat) (hi : i < 128) : (fin1 b n).getD i 0 = if i < r then b.getD i 0 else if i = r then 128 else 0 := by
  unfold fin1
  rw [hn]
  by_cases h1 : i = r
  · subst h1
    rw [getD_set_eqZ (by rw [splice_len (by rw [List.length_replicate]; omega)]; omega), if_neg (by omega), if_pos rfl]
  · rw [getD_set_neZ (by omega), getD_splice (by rw [List.length_replicate]; omega), List.length_replicate, getD_zerosZ, if_neg h1]
    by_cases h2 : i < r
    · rw [if_pos h2, if_pos h2]
    · rw [if_neg h2, if_neg h2, if_pos (by omega)]
theorem fdiv_powZ (x : Int) (k : Nat) : x.fdiv (2 ^ k) = x / 2 ^ k := Int.fdiv_eq_ediv_of_nonneg x (Int.pow_nonneg (by decide))
theorem lo_byte {l i : Nat} (hl : l ≤ 1125899906842624) (hn : n = l) (h1 : 120 ≤ i) (h2 : i < 128) : u8 ((loN n).fdiv (2 ^ (8 * (127 - i)))) = (be8 (8 * (l : Int))).getD (i - 120) 0 := by
  rw [getD_be8, if_pos (by omega), u8_eq, fdiv_powZ]
  have e : loN n = 8 * (l : Int) := by
    unfold loN mulLo um64
    rw [hn, wrapU]; omega
  rw [e, show 8 * (127 - i) = 56 - 8 * (i - 120) by omega]
theorem hi_byte {l k : Nat} (hl : l ≤ 1125899906842624) (hn : n = l) : u8 ((hiN n).fdiv (2 ^ k)) = 0 := by
  have e : hiN n = 0 := by
    unfold hiN mulHi um64
    rw [hn, wrapU]; omega
  rw [e, fdiv_powZ, Int.zero_ediv]; rfl
theorem fin_sha (h : Holds K h0 m w b n) (hl : m.length ≤ 1125899906842624) : finV (fun w b => cmp5 K w b 0) w b n = sha K h0 m := by
  have hr : m.length % 128 < 128 := Nat.mod_lt _ (by decide)
  have ht : n.tmod 128 = ((m.length % 128 : Nat) : Int) := by rw [h.hn, tmod_nat]
  have htn : (n.tmod 128).toNat = m.length % 128 := by rw [ht, Int.toNat_natCast]
  have hpre : ∀ k, k ≤ m.length / 128 → hbn K h0 (padded m) k = hbn K h0 m k := fun k hk => hbn_congr k (fun i hi => by
    rw [getD_padded, if_pos (by omega)])
  have hfl := fin1_len (n := n) h.hb (m.length % 128) hr htn
  have hfg := getD_fin1 (n := n) h.hb hr htn
  unfold finV sha
  by_cases hc : m.length % 128 < 112
  · rw [if_neg (by rw [ht]; omega)]
    have hz : zN m.length = 111 - m.length % 128 := by unfold zN; omega
    have hk : (padded m).length / 128 = m.length / 128 + 1 := by rw [padded_len, hz]; omega
    rw [hk]
    congr 1
    show _ = cmp5 K (hbn K h0 (padded m) (m.length / 128)) (padded m) (128 * (m.length / 128))
    rw [hpre _ (Nat.le_refl _), ← h.hw]
    refine cmp5_congr (fun i hi => ?_)
    rw [Nat.zero_add, getD_putLen hfl hi, hfg i hi, getD_padded]
    by_cases h1 : i < m.length % 128
    · rw [if_pos (by omega), if_pos h1, if_pos (by omega), h.ht i h1]
    · rw [if_neg h1, if_neg (show ¬ 128 * (m.length / 128) + i < m.length by omega)]
      by_cases h2 : i = m.length % 128
      · rw [if_pos (by omega), if_pos h2, if_pos (by omega)]
      · rw [if_neg h2, if_neg (show ¬ 128 * (m.length / 128) + i = m.length by omega)]
        by_cases h3 : i < 112
        · rw [if_pos h3, if_pos (by omega)]
        · rw [if_neg h3]
          by_cases h4 : i < 120
          · rw [if_pos h4, if_pos (by omega), hi_byte hl h.hn]
          · have ej : 128 * (m.length / 128) + i - (m.length + zN m.length + 9) = i - 120 := by omega
            rw [if_neg h4, if_neg (by omega), lo_byte hl h.hn (by omega) hi, ej]
  · rw [if_pos (by rw [ht]; omega)]
    have hz : zN m.length = 239 - m.length % 128 := by unfold zN; omega
    have hk : (padded m).length / 128 = m.length / 128 + 1 + 1 := by rw [padded_len, hz]; omega
    rw [hk]
    congr 1
    show _ = cmp5 K (cmp5 K (hbn K h0 (padded m) (m.length / 128)) (padded m) (128 * (m.length / 128))) (padded m) (128 * (m.length / 128 + 1))
    rw [hpre _ (Nat.le_refl _), ← h.hw]
    have e1 : cmp5 K w (fin1 b n) 0 = cmp5 K w (padded m) (128 * (m.length / 128)) := by
      refine cmp5_congr (fun i hi => ?_)
      rw [Nat.zero_add, hfg i hi, getD_padded]
      by_cases h1 : i < m.length % 128
      · rw [if_pos h1, if_pos (by omega), h.ht i h1]
      · rw [if_neg h1, if_neg (show ¬ 128 * (m.length / 128) + i < m.length by omega)]
        by_cases h2 : i = m.length % 128
        · rw [if_pos h2, if_pos (by omega)]
        · rw [if_neg h2, if_neg (by omega), if_pos (by omega)]
    show cmp5 K (cmp5 K w (fin1 b n) 0) (putLen (splice (fin1 b n) 0 (List.replicate 128 0)) (hiN n) (loN n)) 0 = _
    rw [e1]
    refine cmp5_congr (fun i hi => ?_)
    rw [Nat.zero_add, getD_putLen (by rw [splice_len (by rw [List.length_replicate, hfl]; omega)]; exact hfl) hi, getD_splice (by rw [List.length_replicate, hfl]; omega), List.length_replicate, getD_zerosZ, getD_padded,
      if_neg (show ¬ 128 * (m.length / 128 + 1) + i < m.length by omega), if_neg (show ¬ 128 * (m.length / 128 + 1) + i = m.length by omega)]
    by_cases h3 : i < 112
    · rw [if_pos h3, if_neg (by omega), if_pos (by omega), if_pos (by omega)]
    · rw [if_neg h3]
      by_cases h4 : i < 120
      · rw [if_pos h4, if_pos (by omega), hi_byte hl h.hn]
      · have ej : 128 * (m.length / 128 + 1) + i - (m.length + zN m.length + 9) = i - 120 := by omega
        rw [if_neg h4, if_neg (by omega), lo_byte hl h.hn (by omega) hi, ej]
end
end Go.Sc
