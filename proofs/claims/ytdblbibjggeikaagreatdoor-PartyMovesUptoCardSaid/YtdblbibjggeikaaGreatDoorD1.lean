/- Arithmetic of limbs: plain numbers, no program. -/
import Derived.Test.YtdblbibjggeikaaGreatDoorB5
set_option linter.unusedSectionVars false
set_option linter.unusedVariables false
set_option linter.unusedSimpArgs false
namespace Go.Sc
open Go Go.SX
def ell : Int := 7237005577332262213973186563042994240857116359379907606001950938285454250989
def val (xs : List Int) : Int := xs.getD 0 0 + 18446744073709551616 * xs.getD 1 0 + 340282366920938463463374607431768211456 * xs.getD 2 0 + 6277101735386680763835789423207666416102355444464034512896 * xs.getD 3 0
def limbs (n : Int) : List Int := [n % 18446744073709551616, n / 18446744073709551616 % 18446744073709551616, n / 340282366920938463463374607431768211456 % 18446744073709551616, n / 6277101735386680763835789423207666416102355444464034512896 % 18446744073709551616]
def okL (xs : List Int) : Prop := xs.length = 4 /\ ∀ x ∈ xs, InK .u64 x
theorem inU {x : Int} : InK .u64 x ↔ 0 <= x /\ x <= 18446744073709551615 := by
 unfold InK;simp [IntKind.min, IntKind.max, IntKind.signed, IntKind.bits]
theorem wrapU (x : Int) : IntKind.u64.wrap x = x % 18446744073709551616 := by simp [IntKind.wrap, IntKind.bits, IntKind.signed]
theorem okL_get {xs : List Int} (h : okL xs) : ∃ a b c d, xs = [a, b, c, d] /\ (0 <= a /\ a <= 18446744073709551615) /\ (0 <= b /\ b <= 18446744073709551615) /\ (0 <= c /\ c <= 18446744073709551615) /\ (0 <= d /\ d <= 18446744073709551615) := by
 obtain ⟨h1, h2⟩ := h
 match xs, h1 with
 | [a, b, c, d], _ =>
  exact ⟨a, b, c, d, rfl, inU.mp (h2 a (by simp)), inU.mp (h2 b (by simp)), inU.mp (h2 c (by simp)), inU.mp (h2 d (by simp))⟩
theorem val4 (a b c d : Int) : val [a, b, c, d] = a + 18446744073709551616 * b + 340282366920938463463374607431768211456 * c + 6277101735386680763835789423207666416102355444464034512896 * d := rfl
theorem val_bound {xs : List Int} (h : okL xs) : 0 <= val xs /\ val xs < 115792089237316195423570985008687907853269984665640564039457584007913129639936 := by
 obtain ⟨a, b, c, d, rfl, _, _, _, _⟩ := okL_get h;rw [val4]; omega
theorem limbs_val {xs : List Int} (h : okL xs) : limbs (val xs) = xs := by
 obtain ⟨a, b, c, d, rfl, _, _, _, _⟩ := okL_get h;rw [val4]; unfold limbs
 congr 1
 ·omega
 congr 1
 ·omega
 congr 1
 ·omega
 congr 1
 omega
theorem okL_limbs (n : Int) : okL (limbs n) := by
 refine ⟨rfl, fun x hx => inU.mpr ?_⟩
 unfold limbs at hx;simp only [List.mem_cons, List.not_mem_nil, or_false] at hx;rcases hx with rfl | rfl | rfl | rfl <;> omega
theorem val_limbs {n : Int} (h : 0 <= n /\ n < 115792089237316195423570985008687907853269984665640564039457584007913129639936) : val (limbs n) = n := by
 unfold limbs; rw [val4]; omega
theorem val_limbs' (n : Int) : val (limbs n) = n % 115792089237316195423570985008687907853269984665640564039457584007913129639936 := by
 unfold limbs; rw [val4]; omega
def cr (xs ys : List Int) : Nat -> Int
 | 0 => 0
 | n + 1 => (xs.getD n 0 + ys.getD n 0 + cr xs ys n) / 18446744073709551616
def bw (xs ys : List Int) : Nat -> Int
 | 0 => 0
 | n + 1 => if xs.getD n 0 < ys.getD n 0 + bw xs ys n then 1 else 0
def addL (xs ys : List Int) : List Int := (List.range 4).map fun i => (xs.getD i 0 + ys.getD i 0 + cr xs ys i) % 18446744073709551616
def subL (xs ys : List Int) : List Int := (List.range 4).map fun i => (xs.getD i 0 - ys.getD i 0 - bw xs ys i) % 18446744073709551616
theorem cr_le {xs ys : List Int} (hx : okL xs) (hy : okL ys) : ∀ n, n <= 4 -> 0 <= cr xs ys n /\ cr xs ys n <= 1 := by
 obtain ⟨a, b, c, d, rfl, _, _, _, _⟩ := okL_get hx;obtain ⟨a', b', c', d', rfl, _, _, _, _⟩ := okL_get hy;intro n hn
 match n, hn with
 | 0, _ => exact ⟨Int.le_refl _, by show (0 : Int) <= 1; decide⟩
 | 1, _ => show 0 <= (a + a' + 0) / _ /\ (a + a' + 0) / _ <= 1; omega
 | 2, _ => show 0 <= (b + b' + (a + a' + 0) / _) / _ /\ (b + b' + (a + a' + 0) / _) / _ <= 1; omega
 | 3, _ => show 0 <= (c + c' + (b + b' + (a + a' + 0) / _) / _) / _ /\ (c + c' + (b + b' + (a + a' + 0) / _) / _) / _ <= 1; omega
 | 4, _ => show 0 <= (d + d' + (c + c' + (b + b' + (a + a' + 0) / _) / _) / _) / _ /\ (d + d' + (c + c' + (b + b' + (a + a' + 0) / _) / _) / _) / _ <= 1; omega
theorem addL_eq {xs ys : List Int} (hx : okL xs) (hy : okL ys) : addL xs ys = limbs (val xs + val ys) /\ cr xs ys 4 = (val xs + val ys) / 115792089237316195423570985008687907853269984665640564039457584007913129639936 := by
 obtain ⟨a, b, c, d, rfl, _, _, _, _⟩ := okL_get hx;obtain ⟨a', b', c', d', rfl, _, _, _, _⟩ := okL_get hy;rw [val4, val4];have e : addL [a, b, c, d] [a', b', c', d'] = [(a + a' + 0) % 18446744073709551616, (b + b' + (a + a' + 0) / 18446744073709551616) % 18446744073709551616, (c + c' + (b + b' + (a + a' + 0) / 18446744073709551616) / 18446744073709551616) % 18446744073709551616,
  (d + d' + (c + c' + (b + b' + (a + a' + 0) / 18446744073709551616) / 18446744073709551616) / 18446744073709551616) % 18446744073709551616] := rfl
 have e4 : cr [a, b, c, d] [a', b', c', d'] 4 = (d + d' + (c + c' + (b + b' + (a + a' + 0) / 18446744073709551616) / 18446744073709551616) / 18446744073709551616) / 18446744073709551616 := rfl
 rw [e, e4]
 generalize h1 : (a + a' + 0) / 18446744073709551616 = k1
 generalize h2 : (b + b' + k1) / 18446744073709551616 = k2
 generalize h3 : (c + c' + k2) / 18446744073709551616 = k3
 unfold limbs;refine ⟨?_, by omega⟩
 congr 1
 ·omega
 congr 1
 ·omega
 congr 1
 ·omega
 congr 1
 omega
theorem bw_le {xs ys : List Int} : ∀ n, 0 <= bw xs ys n /\ bw xs ys n <= 1
 | 0 => ⟨Int.le_refl _, by show (0 : Int) <= 1; decide⟩
 | n + 1 => by unfold bw; split <;> decide
theorem subL_eq {xs ys : List Int} (hx : okL xs) (hy : okL ys) : subL xs ys = limbs (val xs - val ys) /\ bw xs ys 4 = if val xs < val ys then 1 else 0 := by
 obtain ⟨a, b, c, d, rfl, _, _, _, _⟩ := okL_get hx;obtain ⟨a', b', c', d', rfl, _, _, _, _⟩ := okL_get hy;rw [val4, val4];have e : subL [a, b, c, d] [a', b', c', d'] = [(a - a' - 0) % 18446744073709551616, (b - b' - bw [a, b, c, d] [a', b', c', d'] 1) % 18446744073709551616, (c - c' - bw [a, b, c, d] [a', b', c', d'] 2) % 18446744073709551616,
  (d - d' - bw [a, b, c, d] [a', b', c', d'] 3) % 18446744073709551616] := rfl
 rw [e];have h1 : bw [a, b, c, d] [a', b', c', d'] 1 = if a < a' + 0 then 1 else 0 := rfl
 have h2 : bw [a, b, c, d] [a', b', c', d'] 2 = if b < b' + bw [a, b, c, d] [a', b', c', d'] 1 then 1 else 0 := rfl
 have h3 : bw [a, b, c, d] [a', b', c', d'] 3 = if c < c' + bw [a, b, c, d] [a', b', c', d'] 2 then 1 else 0 := rfl
 have h4 : bw [a, b, c, d] [a', b', c', d'] 4 = if d < d' + bw [a, b, c, d] [a', b', c', d'] 3 then 1 else 0 := rfl
 generalize bw [a, b, c, d] [a', b', c', d'] 1 = k1 at *
 generalize bw [a, b, c, d] [a', b', c', d'] 2 = k2 at *
 generalize bw [a, b, c, d] [a', b', c', d'] 3 = k3 at *
 generalize bw [a, b, c, d] [a', b', c', d'] 4 = k4 at *
 have q1 : k1 = 1 /\ a < a' \/ k1 = 0 /\ ¬ a < a' := by split at h1 <;> omega
 have q2 : k2 = 1 /\ b < b' + k1 \/ k2 = 0 /\ ¬ b < b' + k1 := by split at h2 <;> omega
 have q3 : k3 = 1 /\ c < c' + k2 \/ k3 = 0 /\ ¬ c < c' + k2 := by split at h3 <;> omega
 have q4 : k4 = 1 /\ d < d' + k3 \/ k4 = 0 /\ ¬ d < d' + k3 := by split at h4 <;> omega
 clear h1 h2 h3 h4;unfold limbs;refine ⟨?_, ?_⟩
 ·congr 1
  ·omega
  congr 1
  ·omega
  congr 1
  ·omega
  congr 1
  omega
 ·split <;> omega
def band (x y : Int) : Int := IntKind.u64.wrap ((BitVec.ofInt 64 x &&& BitVec.ofInt 64 y).toNat : Int)
def bor (x y : Int) : Int := IntKind.u64.wrap ((BitVec.ofInt 64 x ||| BitVec.ofInt 64 y).toNat : Int)
def bandn (x y : Int) : Int := IntKind.u64.wrap ((BitVec.ofInt 64 x &&& ~~~BitVec.ofInt 64 y).toNat : Int)
def R (x : Int) : Prop := 0 <= x /\ x <= 18446744073709551615
theorem ofInt_nat {n : Nat} : BitVec.ofInt 64 (n : Int) = BitVec.ofNat 64 n := by simp
theorem toNat_of {n : Nat} (h : n < 18446744073709551616) : (BitVec.ofNat 64 n).toNat = n := by rw [BitVec.toNat_ofNat]; exact Nat.mod_eq_of_lt h
theorem wrapN {n : Nat} (h : n < 18446744073709551616) : IntKind.u64.wrap (n : Int) = n := by rw [wrapU]; omega
theorem band_nat {m n : Nat} (hm : m < 18446744073709551616) (hn : n < 18446744073709551616) : band m n = ((m &&& n : Nat) : Int) := by
 unfold band;rw [ofInt_nat, ofInt_nat, BitVec.toNat_and, toNat_of hm, toNat_of hn, wrapN (Nat.lt_of_le_of_lt Nat.and_le_left hm)]
theorem bor_nat {m n : Nat} (hm : m < 18446744073709551616) (hn : n < 18446744073709551616) : bor m n = ((m ||| n : Nat) : Int) := by
 unfold bor;have e : (18446744073709551616 : Nat) = 2 ^ 64 := by decide
 rw [ofInt_nat, ofInt_nat, BitVec.toNat_or, toNat_of hm, toNat_of hn, wrapN (by rw [e] at *; exact Nat.or_lt_two_pow hm hn)]
theorem nat_of {x : Int} (h : R x) : ∃ n : Nat, x = n /\ n < 18446744073709551616 := ⟨x.toNat, by unfold R at h; omega, by unfold R at h; omega⟩
theorem band_mask {x : Int} (h : R x) (k : Nat) (hk : k <= 64) : band x ((2 ^ k - 1 : Nat) : Int) = x % (2 ^ k : Nat) := by
 obtain ⟨n, rfl, hn⟩ := nat_of h;have : 2 ^ k <= 2 ^ 64 := Nat.pow_le_pow_right (by decide) hk
 have e : (2 : Nat) ^ 64 = 18446744073709551616 := by decide
 rw [band_nat hn (by omega), Nat.and_two_pow_sub_one_eq_mod]; rfl
theorem band_zero {x : Int} (h : R x) : band x 0 = 0 := by
 obtain ⟨n, rfl, hn⟩ := nat_of h;have := band_nat (m := n) (n := 0) hn (by decide)
 rw [Nat.and_zero] at this;exact this
theorem band_all {x : Int} (h : R x) : band x 18446744073709551615 = x := by
 have := band_mask h 64 (Nat.le_refl _)
 have e : ((2 ^ 64 - 1 : Nat) : Int) = 18446744073709551615 := by decide
 have e2 : ((2 ^ 64 : Nat) : Int) = 18446744073709551616 := by decide
 rw [e, e2] at this;rw [this]; unfold R at h; omega
theorem bandn_zero {x : Int} (h : R x) : bandn x 0 = x := by
 obtain ⟨n, rfl, hn⟩ := nat_of h;unfold bandn;have e : ~~~BitVec.ofInt 64 0 = BitVec.allOnes 64 := by decide
 rw [e, ofInt_nat, BitVec.and_allOnes, toNat_of hn, wrapN hn]
theorem bandn_all {x : Int} : bandn x 18446744073709551615 = 0 := by
 unfold bandn;have e : ~~~BitVec.ofInt 64 18446744073709551615 = 0#64 := by decide
 rw [e, BitVec.and_zero]; rfl
theorem bor_zero {x : Int} (h : R x) : bor x 0 = x := by
 obtain ⟨n, rfl, hn⟩ := nat_of h;have := bor_nat (m := n) (n := 0) hn (by decide)
 rw [Nat.or_zero] at this;exact this
theorem zero_bor {x : Int} (h : R x) : bor 0 x = x := by
 obtain ⟨n, rfl, hn⟩ := nat_of h;have := bor_nat (m := 0) (n := n) (by decide) hn
 rw [Nat.zero_or] at this;exact this
theorem bor_add {a b : Int} (k : Nat) (hk : k <= 64) (ha : 0 <= a /\ a < (2 ^ k : Nat)) (hb : R b) (hd : b % (2 ^ k : Nat) = 0) : bor a b = a + b /\ bor b a = a + b := by
 obtain ⟨n, rfl, hn⟩ := nat_of hb;obtain ⟨m, rfl⟩ : ∃ m : Nat, a = m := ⟨a.toNat, by omega⟩
 have hp : 2 ^ k <= 2 ^ 64 := Nat.pow_le_pow_right (by decide) hk
 have e : (2 : Nat) ^ 64 = 18446744073709551616 := by decide
 have hm : m < 2 ^ k := by omega
 have hd' : n % 2 ^ k = 0 := by exact_mod_cast hd
 have hq : n = 2 ^ k * (n / 2 ^ k) := by
  have := Nat.div_add_mod n (2 ^ k)
  omega
 have h1 : n ||| m = n + m := by
  rw [hq, Nat.two_pow_add_eq_or_of_lt hm]
 have h2 : m ||| n = n + m := by rw [Nat.or_comm]; exact h1
 rw [bor_nat (by omega) hn, bor_nat hn (by omega), h1, h2]
 constructor <;> omega
theorem fdiv_pos (x : Int) (k : Nat) : x.fdiv ((2 ^ k : Nat) : Int) = x / ((2 ^ k : Nat) : Int) := by
 rw [Int.fdiv_eq_ediv_of_nonneg _ (Int.natCast_nonneg _)]
theorem mul_bound {a b A B : Int} (ha : 0 <= a) (ha' : a <= A) (hb : 0 <= b) (hb' : b <= B) : 0 <= a * b /\ a * b <= A * B :=
 ⟨Int.mul_nonneg ha hb, Int.mul_le_mul ha' hb' hb (Int.le_trans ha ha')⟩
def mulHi (x y : Int) : Int := x * y / 18446744073709551616
def mulLo (x y : Int) : Int := x * y % 18446744073709551616
theorem mul_bits {x y : Int} (hx : R x) (hy : R y) : 0 <= x * y /\ x * y <= 340282366920938463426481119284349108225 := by
 have := mul_bound hx.1 hx.2 hy.1 hy.2
 exact this
theorem halves_mul {x y : Int} : x * y = 18446744073709551616 * ((x / 4294967296) * (y / 4294967296)) + 4294967296 * ((x / 4294967296) * (y % 4294967296)) + 4294967296 * ((x % 4294967296) * (y / 4294967296)) + (x % 4294967296) * (y % 4294967296) := by
 have h1 : x = 4294967296 * (x / 4294967296) + x % 4294967296 := by omega
 have h2 : y = 4294967296 * (y / 4294967296) + y % 4294967296 := by omega
 generalize hx1 : x / 4294967296 = x1 at *
 generalize hx0 : x % 4294967296 = x0 at *
 generalize hy1 : y / 4294967296 = y1 at *
 generalize hy0 : y % 4294967296 = y0 at *
 rw [h1, h2, Int.add_mul, Int.mul_add, Int.mul_add];have e1 : 4294967296 * x1 * (4294967296 * y1) = 18446744073709551616 * (x1 * y1) := by
  rw [show 4294967296 * x1 * (4294967296 * y1) = (4294967296 * 4294967296) * (x1 * y1) from by rw [Int.mul_assoc, Int.mul_assoc, Int.mul_left_comm x1 4294967296 y1]]; rfl
 have e2 : 4294967296 * x1 * y0 = 4294967296 * (x1 * y0) := Int.mul_assoc _ _ _
 have e3 : x0 * (4294967296 * y1) = 4294967296 * (x0 * y1) := Int.mul_left_comm _ _ _
 rw [e1, e2, e3]; omega
theorem mul64 {x y : Int} (hx : R x) (hy : R y) {x0 x1 y0 y1 w0 t w1 w2 v1 hi lo : Int} (e0 : x0 = x % 4294967296) (e1 : x1 = x / 4294967296) (f0 : y0 = y % 4294967296) (f1 : y1 = y / 4294967296)
  (g0 : w0 = x0 * y0 % 18446744073709551616) (g1 : t = (x1 * y0 % 18446744073709551616 + w0 / 4294967296) % 18446744073709551616) (g2 : w1 = t % 4294967296) (g3 : w2 = t / 4294967296)
  (g4 : v1 = (w1 + x0 * y1 % 18446744073709551616) % 18446744073709551616) (g5 : hi = ((x1 * y1 % 18446744073709551616 + w2) % 18446744073709551616 + v1 / 4294967296) % 18446744073709551616) (g6 : lo = x * y % 18446744073709551616) :
  hi = mulHi x y /\ lo = mulLo x y := by
 unfold R at hx hy;have hx0 : 0 <= x0 /\ x0 <= 4294967295 := by omega
 have hx1 : 0 <= x1 /\ x1 <= 4294967295 := by omega
 have hy0 : 0 <= y0 /\ y0 <= 4294967295 := by omega
 have hy1 : 0 <= y1 /\ y1 <= 4294967295 := by omega
 have h := halves_mul (x := x) (y := y)
 rw [<- e0, <- e1, <- f0, <- f1] at h;have b00 := mul_bound hx0.1 hx0.2 hy0.1 hy0.2
 have b10 := mul_bound hx1.1 hx1.2 hy0.1 hy0.2
 have b01 := mul_bound hx0.1 hx0.2 hy1.1 hy1.2
 have b11 := mul_bound hx1.1 hx1.2 hy1.1 hy1.2
 unfold mulHi mulLo
 generalize x * y = p at *
 generalize x0 * y0 = p00 at *
 generalize x1 * y0 = p10 at *
 generalize x0 * y1 = p01 at *
 generalize x1 * y1 = p11 at *
 refine ⟨?_, g6⟩
 omega
def dg (b : Int) : List Int -> Int
 | [] => 0
 | x :: xs => x + b * dg b xs
theorem dg_append (b : Int) (xs ys : List Int) : dg b (xs ++ ys) = dg b xs + b ^ xs.length * dg b ys := by
 induction xs with
 | nil => simp [dg]
 | cons x xs ih =>
  show x + b * dg b (xs ++ ys) = x + b * dg b xs + b ^ (xs.length + 1) * dg b ys
  rw [ih, Int.mul_add, Int.pow_succ, Int.mul_comm (b ^ xs.length) b, Int.mul_assoc, Int.add_assoc]
def Rb (x : Int) : Prop := 0 <= x /\ x <= 255
theorem inB {x : Int} : InK .u8 x ↔ Rb x := by
 unfold InK Rb;simp [IntKind.min, IntKind.max, IntKind.signed, IntKind.bits]
def um (x : Int) : Int := IntKind.u64.wrap x
theorem dg_set (b : Int) : ∀ (p : List Int) (j : Nat) (v : Int), j < p.length -> dg b (p.set j v) = dg b p + (v - p.getD j 0) * b ^ j
 | [], j, v, h => by simp at h
 | x :: p, 0, v, _ => by
  show v + b * dg b p = x + b * dg b p + (v - x) * b ^ 0
  rw [Int.pow_zero, Int.mul_one]; omega
 | x :: p, j + 1, v, h => by
  have ih := dg_set b p j v (by simpa using h)
  show x + b * dg b (p.set j v) = x + b * dg b p + (v - p.getD j 0) * b ^ (j + 1)
  have e : b * ((v - p.getD j 0) * b ^ j) = (v - p.getD j 0) * b ^ (j + 1) := by
   rw [Int.pow_succ, Int.mul_left_comm, Int.mul_comm b]
  rw [ih, Int.mul_add, e, Int.add_assoc]
theorem dg_take_succ (b : Int) {y : List Int} {k : Nat} (h : k < y.length) : dg b (y.take (k + 1)) = dg b (y.take k) + b ^ k * y.getD k 0 := by
 rw [List.take_succ_eq_append_getElem h, dg_append, List.length_take, Nat.min_eq_left (by omega)]
 congr 2
 show y[k] + b * 0 = _
 rw [Int.mul_zero, Int.add_zero, List.getD_eq_getElem?_getD, List.getElem?_eq_getElem h]; rfl
theorem dg_drop_pred (b : Int) {y : List Int} {k : Nat} (h : k < y.length) : dg b (y.drop k) = y.getD k 0 + b * dg b (y.drop (k + 1)) := by
 rw [List.drop_eq_getElem_cons h, List.getD_eq_getElem?_getD, List.getElem?_eq_getElem h]; rfl
def H32 (p : List Int) : Prop := ∀ j, 0 <= p.getD j 0 /\ p.getD j 0 < 4294967296
theorem H32_set {p : List Int} {j : Nat} {v : Int} (h : H32 p) (hv : 0 <= v /\ v < 4294967296) : H32 (p.set j v) := fun i => by
 rw [List.getD_eq_getElem?_getD, List.getElem?_set]
 split
 ·split
  ·exact hv
  ·exact ⟨Int.le_refl _, by decide⟩
 ·have := h i
  rw [List.getD_eq_getElem?_getD] at this
  exact this
theorem getD_set_ne {p : List Int} {i j : Nat} {v : Int} (h : j ≠ i) : (p.set j v).getD i 0 = p.getD i 0 := by
 rw [List.getD_eq_getElem?_getD, List.getElem?_set, if_neg h, <- List.getD_eq_getElem?_getD]
def hvs (xs : List Int) : List Int := xs.flatMap fun a => [a % 4294967296, a / 4294967296]
theorem hvs_dg : ∀ xs : List Int, dg 4294967296 (hvs xs) = dg 18446744073709551616 xs
 | [] => rfl
 | a :: xs => by
  show a % 4294967296 + 4294967296 * (a / 4294967296 + 4294967296 * dg 4294967296 (hvs xs)) = a + 18446744073709551616 * dg 18446744073709551616 xs
  rw [hvs_dg xs]; omega
theorem val_dg {xs : List Int} (h : okL xs) : val xs = dg 18446744073709551616 xs := by
 obtain ⟨a, b, c, d, rfl, _, _, _, _⟩ := okL_get h;rw [val4]; simp only [dg]; omega
theorem H32_hvs {xs : List Int} (h : okL xs) : H32 (hvs xs) /\ (hvs xs).length = 8 := by
 obtain ⟨a, b, c, d, rfl, _, _, _, _⟩ := okL_get h;refine ⟨fun j => ?_, rfl⟩
 show 0 <= ([a % 4294967296, a / 4294967296, b % 4294967296, b / 4294967296, c % 4294967296, c / 4294967296, d % 4294967296, d / 4294967296] : List Int).getD j 0 /\ ([a % 4294967296, a / 4294967296, b % 4294967296, b / 4294967296, c % 4294967296, c / 4294967296, d % 4294967296, d / 4294967296] : List Int).getD j 0 < 4294967296
 by_cases hj : j < 8
 ·have : j = 0 \/ j = 1 \/ j = 2 \/ j = 3 \/ j = 4 \/ j = 5 \/ j = 6 \/ j = 7 := by omega
  rcases this with rfl | rfl | rfl | rfl | rfl | rfl | rfl | rfl
  ·show 0 <= a % 4294967296 /\ a % 4294967296 < 4294967296; omega
  ·show 0 <= a / 4294967296 /\ a / 4294967296 < 4294967296; omega
  ·show 0 <= b % 4294967296 /\ b % 4294967296 < 4294967296; omega
  ·show 0 <= b / 4294967296 /\ b / 4294967296 < 4294967296; omega
  ·show 0 <= c % 4294967296 /\ c % 4294967296 < 4294967296; omega
  ·show 0 <= c / 4294967296 /\ c / 4294967296 < 4294967296; omega
  ·show 0 <= d % 4294967296 /\ d % 4294967296 < 4294967296; omega
  ·show 0 <= d / 4294967296 /\ d / 4294967296 < 4294967296; omega
 ·rw [List.getD_eq_getElem?_getD, List.getElem?_eq_none (by simp; omega)]
  exact ⟨Int.le_refl _, by decide⟩
structure Mid (x : Int) (y p0 : List Int) (i k : Nat) (p : List Int) (c : Int) : Prop where
 len : p.length = 16
 h : H32 p
 hc : 0 <= c /\ c < 4294967296
 eq : dg 4294967296 p + c * 4294967296 ^ (i + k) = dg 4294967296 p0 + x * dg 4294967296 (y.take k) * 4294967296 ^ i
 z : ∀ j, i + 8 <= j -> p.getD j 0 = 0
theorem mul32 {x y p c : Int} (hx : 0 <= x /\ x < 4294967296) (hy : 0 <= y /\ y < 4294967296) (hp : 0 <= p /\ p < 4294967296) (hc : 0 <= c /\ c < 4294967296) : 0 <= x * y /\ 0 <= x * y + p + c /\ x * y + p + c < 18446744073709551616 := by
 have := mul_bound (A := 4294967295) (B := 4294967295) hx.1 (by omega) hy.1 (by omega)
 omega
theorem mid_alg {d v p c x e y t q K I : Int} (ht : t = x * y + p + c) (hv : t = v + 4294967296 * q) (heq : d + c * (I * K) = e) :
  d + (v - p) * (I * K) + q * (I * K * 4294967296) = e + x * (K * y) * I := by
 have h1 : q * (I * K * 4294967296) = (4294967296 * q) * (I * K) := by
  rw [Int.mul_comm (I * K), <- Int.mul_assoc, Int.mul_comm q]
 have h2 : x * (K * y) * I = (x * y) * (I * K) := by
  rw [Int.mul_comm K y, <- Int.mul_assoc x y K, Int.mul_assoc (x * y) K I, Int.mul_comm K I]
 rw [h1, h2, <- heq, Int.add_assoc, <- Int.add_mul, Int.add_assoc, <- Int.add_mul]
 congr 2
 omega
theorem Mid.step {x : Int} {y p0 p : List Int} {i k : Nat} {c : Int} (m : Mid x y p0 i k p c) (hx : 0 <= x /\ x < 4294967296) (hy : H32 y) (hyl : y.length = 8) (hk : k < 8) (hi : i < 8) :
  Mid x y p0 i (k + 1) (p.set (i + k) ((x * y.getD k 0 + p.getD (i + k) 0 + c) % 4294967296)) ((x * y.getD k 0 + p.getD (i + k) 0 + c) / 4294967296) := by
 obtain ⟨h0, h1, h2⟩ := mul32 hx (hy k) (m.h (i + k)) m.hc;refine ⟨by rw [List.length_set]; exact m.len, H32_set m.h (by omega), by omega, ?_, fun j hj => ?_⟩
 ·rw [dg_set _ _ _ _ (by rw [m.len]; omega), dg_take_succ _ (by omega)]
  have hq := m.eq
  rw [Int.pow_add] at hq ⊢;rw [show i + (k + 1) = i + k + 1 from rfl, Int.pow_succ, Int.pow_add, Int.mul_add, Int.add_mul, <- Int.add_assoc]
  exact mid_alg rfl (by omega) hq
 ·rw [getD_set_ne (by omega)]; exact m.z j hj
theorem Mid.last {x : Int} {y p0 p : List Int} {i : Nat} {c : Int} (m : Mid x y p0 i 8 p c) (hyl : y.length = 8) (hi : i < 8) :
  (p.set (i + 8) c).length = 16 /\ H32 (p.set (i + 8) c) /\ dg 4294967296 (p.set (i + 8) c) = dg 4294967296 p0 + x * dg 4294967296 y * 4294967296 ^ i /\ (∀ j, i + 1 + 8 <= j -> (p.set (i + 8) c).getD j 0 = 0) := by
 refine ⟨by rw [List.length_set]; exact m.len, H32_set m.h m.hc, ?_, fun j hj => ?_⟩
 ·rw [dg_set _ _ _ _ (by rw [m.len]; omega), m.z (i + 8) (Nat.le_refl _), Int.sub_zero, m.eq, List.take_of_length_le (by omega)]
 ·rw [getD_set_ne (by omega)]; exact m.z j (by omega)
end Go.Sc
