/-
  Contracts of the program's scalars, part 1: sums, differences, choices.
  Contracts of the program's scalars, part 2: sums, differences, choices, products of words.
  Contracts of the program's scalars, part 3: least numbers.
  Contracts of the program's scalars, part 4: products.
  Contracts of the program's scalars, part 5: sums, differences and products modulo l.
  Contracts of the program's scalars, part 6: scalars out of bytes.
-/
import Derived.Test.YticfnbhbpcpgeaaDoorAr
import Derived.Test.YticfnbhbpcpgeaaDoorProg
namespace Go.Sc
open Go Go.SX Go.Proofs

noncomputable def cd (f : Func) : Code := match f.body with | some c => c | none => .skip
theorem mx : Tryd.prog.follows .mixedOrders = true := by kernel_rfl

abbrev WS : DTy := .ws .u64 4
abbrev TB : DTy := .pair WS (.pair WS (.pair WS (.pair WS .unit)))
def tab0 : List Int := [6346243789798364141, 1503914060200516822, 0, 1152921504606846976]
def tab1 : List Int := [15486807595281847581, 14334777244411350896, 18446744073709551614, 1152921504606846975]
def tab2 : List Int := [11819153939886771969, 14991950615390032711, 14910419812499177061, 259310039853996605]
def tab3 : List Int := [6346243789798364139, 1503914060200516822, 0, 1152921504606846976]
def tbl : TB.den := (tab0, tab1, tab2, tab3, ())
def G0 : GlobT := fun g => if g = 0 then some ⟨TB, tbl⟩ else none
noncomputable def C0 : Tab := Tab.empty G0
theorem okC0 : SpecOk Tryd.prog C0 := SpecOk.empty

/-! ### the carries -/
def TAdd64 (vs : List V1) (hl : Heap) : Tree (SV × Heap) :=
  match vs, hl with
  | [.c (.int _ .u64 x), .c (.int _ .u64 y), .c (.int _ .u64 c)], [] => Tree.chk (decide (c ≤ 1)) (.ret (.tup [.c (.int false .u64 ((x + y + c) % 18446744073709551616)), .c (.int false .u64 ((x + y + c) / 18446744073709551616))], []))
  | _, _ => .fail
def TSub64 (vs : List V1) (hl : Heap) : Tree (SV × Heap) :=
  match vs, hl with
  | [.c (.int _ .u64 x), .c (.int _ .u64 y), .c (.int _ .u64 c)], [] => Tree.chk (decide (c ≤ 1)) (.ret (.tup [.c (.int false .u64 ((x - y - c) % 18446744073709551616)), .c (.int false .u64 (if x < y + c then 1 else 0))], []))
  | _, _ => .fail

theorem val_chk {α : Type} {b : Bool} {t : Tree α} {r : α} (h : (Tree.chk b t).val = some r) : b = true ∧ t.val = some r := by
  unfold Tree.chk Tree.val at h
  cases b with
  | true => exact ⟨rfl, h⟩
  | false => simp [Tree.val] at h
theorem val_ret {α : Type} {a r : α} (h : (Tree.ret a).val = some r) : a = r := Option.some.inj h

def sub64Entry : Array Value → Sem Value := fun args => do
  let (x, y, b) ← Extern.MathBitsCarry.three "Sub64" args
  pure (Extern.MathBitsCarry.pair ((x + Extern.MathBitsCarry.m64 - y - b) % Extern.MathBitsCarry.m64) (if x < y + b then 1 else 0))
theorem run_sub64 {P : Program} (x y c : Int) (hx : 0 ≤ x) (hx' : x < 18446744073709551616) (hy : 0 ≤ y) (hy' : y < 18446744073709551616) (hc0 : 0 ≤ c) (hc : c ≤ 1) (w : World) :
    (sub64Entry #[.int .u64 x, .int .u64 y, .int .u64 c]).run P w =
      .ok (.tuple #[.int .u64 ((x - y - c) % 18446744073709551616), .int .u64 (if x < y + c then 1 else 0)]) w := by
  have key : ∀ k : Nat, k ≤ 1 → (sub64Entry #[.int .u64 x, .int .u64 y, .int .u64 (k : Int)]).run P w =
      .ok (Extern.MathBitsCarry.pair ((x.toNat + Extern.MathBitsCarry.m64 - y.toNat - k) % Extern.MathBitsCarry.m64) (if x.toNat < y.toNat + k then 1 else 0)) w := by
    intro k hk
    have : k = 0 ∨ k = 1 := by omega
    rcases this with rfl | rfl <;> rfl
  obtain ⟨k, rfl⟩ := Int.eq_ofNat_of_zero_le hc0
  rw [key k (by omega)]
  obtain ⟨X, rfl⟩ := Int.eq_ofNat_of_zero_le hx
  obtain ⟨Y, rfl⟩ := Int.eq_ofNat_of_zero_le hy
  simp only [Extern.MathBitsCarry.pair, Extern.MathBitsCarry.m64, Int.toNat_natCast]
  have e1 : (((X + 2 ^ 64 - Y - k) % 2 ^ 64 : Nat) : Int) = ((X : Int) - Y - k) % 18446744073709551616 := by
    have : (2 : Nat) ^ 64 = 18446744073709551616 := by decide
    rw [this]; omega
  have e2 : ((if X < Y + k then 1 else 0 : Nat) : Int) = if (X : Int) < Y + k then 1 else 0 := by split <;> split <;> omega
  have e1' : Int.ofNat ((X + 2 ^ 64 - Y - k) % 2 ^ 64) = ((X : Int) - Y - k) % 18446744073709551616 := e1
  have e2' : Int.ofNat (if X < Y + k then 1 else 0) = if (X : Int) < Y + k then 1 else 0 := e2
  rw [e1', e2']

theorem ok_Add64 {G : GlobT} : EntryOk Tryd.prog G 55 TAdd64 := by
  refine EntryOk.extern (fn := Tryd.f55) (e := add64Entry) (by kernel_rfl) (by kernel_rfl) (by kernel_rfl) (by kernel_rfl) (by kernel_rfl) (fun vs hl r h => ?_) (fun vs r ok h E us w hv => ?_)
  · unfold TAdd64 at h
    split at h
    · obtain ⟨_, h⟩ := val_chk h
      obtain rfl := val_ret h
      exact ⟨rfl, rfl⟩
    · cases h
  · unfold TAdd64 at h
    split at h
    · rename_i _ x _ y _ c _
      obtain ⟨h1, h⟩ := val_chk h
      have h1 := of_decide_eq_true h1
      obtain h2 := val_ret h
      obtain ⟨rfl, -⟩ := Prod.mk.inj h2
      obtain ⟨u0, _, e0, ⟨rfl, _⟩, u1, _, e1, ⟨rfl, _⟩, u2, _, e2, ⟨rfl, _⟩, e3⟩ := hv
      subst e3 e2 e1
      obtain rfl : us = #[.int .u64 x, .int .u64 y, .int .u64 c] := by cases us; simp_all
      obtain ⟨k0, k1, k2, _⟩ := ok
      have k0 := inU.mp k0
      have k1 := inU.mp k1
      have k2 := inU.mp k2
      refine ⟨_, run_add64 x y c k0.1 k1.1 k2.1 h1 w, fun E' => ⟨_, rfl, _, _, rfl, ⟨rfl, inU.mpr (by omega)⟩, _, _, rfl, ⟨rfl, inU.mpr (by omega)⟩, rfl⟩⟩
    · cases h
theorem ok_Sub64 {G : GlobT} : EntryOk Tryd.prog G 79 TSub64 := by
  refine EntryOk.extern (fn := Tryd.f79) (e := sub64Entry) (by kernel_rfl) (by kernel_rfl) (by kernel_rfl) (by kernel_rfl) (by kernel_rfl) (fun vs hl r h => ?_) (fun vs r ok h E us w hv => ?_)
  · unfold TSub64 at h
    split at h
    · obtain ⟨_, h⟩ := val_chk h
      obtain rfl := val_ret h
      exact ⟨rfl, rfl⟩
    · cases h
  · unfold TSub64 at h
    split at h
    · rename_i _ x _ y _ c _
      obtain ⟨h1, h⟩ := val_chk h
      have h1 := of_decide_eq_true h1
      obtain h2 := val_ret h
      obtain ⟨rfl, -⟩ := Prod.mk.inj h2
      obtain ⟨u0, _, e0, ⟨rfl, _⟩, u1, _, e1, ⟨rfl, _⟩, u2, _, e2, ⟨rfl, _⟩, e3⟩ := hv
      subst e3 e2 e1
      obtain rfl : us = #[.int .u64 x, .int .u64 y, .int .u64 c] := by cases us; simp_all
      obtain ⟨k0, k1, k2, _⟩ := ok
      have k0 := inU.mp k0
      have k1 := inU.mp k1
      have k2 := inU.mp k2
      refine ⟨_, run_sub64 x y c k0.1 (by omega) k1.1 (by omega) k2.1 h1 w, fun E' => ⟨_, rfl, _, _, rfl, ⟨rfl, inU.mpr (by omega)⟩, _, _, rfl, ⟨rfl, inU.mpr (by split <;> decide)⟩, rfl⟩⟩
    · cases h
noncomputable def C1 : Tab := (C0.put 55 0 TAdd64).put 79 0 TSub64
theorem okC1 : SpecOk Tryd.prog C1 := (okC0.put ok_Add64).put ok_Sub64

/-! ### plus, minus, choose -/
def ws (xs : List Int) : V1 := .g [.ws .u64 4 xs]
def Tplus (vs : List V1) (hl : Heap) : Tree (SV × Heap) :=
  match vs, hl with
  | [.g [.ws .u64 4 xs], .g [.ws .u64 4 ys]], [] => .ret (.tup [ws (limbs (val xs + val ys)), .c (.int false .u64 ((val xs + val ys) / 115792089237316195423570985008687907853269984665640564039457584007913129639936))], [])
  | _, _ => .fail
def Tminus (vs : List V1) (hl : Heap) : Tree (SV × Heap) :=
  match vs, hl with
  | [.g [.ws .u64 4 xs], .g [.ws .u64 4 ys]], [] => .ret (.tup [ws (limbs (val xs - val ys)), .c (.int false .u64 (if val xs < val ys then 1 else 0))], [])
  | _, _ => .fail
end Go.Sc

namespace Go.Sc
open Go Go.SX Go.Proofs

theorem b_plus (xs ys : List Int) : (bodyT C1 Tryd.prog allLoops Tryd.f34 (cd Tryd.f34) [ws xs, ws ys] []).path [true, true, true, true] =
    some ([true, decide (cr xs ys 1 ≤ 1), decide (cr xs ys 2 ≤ 1), decide (cr xs ys 3 ≤ 1)], .tup [ws (addL xs ys), .c (.int false .u64 (cr xs ys 4))], []) := by kernel_rfl
theorem b_minus (xs ys : List Int) : (bodyT C1 Tryd.prog allLoops Tryd.f57 (cd Tryd.f57) [ws xs, ws ys] []).path [true, true, true, true] =
    some ([true, decide (bw xs ys 1 ≤ 1), decide (bw xs ys 2 ≤ 1), decide (bw xs ys 3 ≤ 1)], .tup [ws (subL xs ys), .c (.int false .u64 (bw xs ys 4))], []) := by kernel_rfl
theorem ok_plus : EntryOk Tryd.prog G0 34 Tplus := by
  refine EntryOk.sub (bodyT_ok okC1 mx (un := allLoops) (fn := Tryd.f34) (c := cd Tryd.f34) (by kernel_rfl) (by kernel_rfl) (by kernel_rfl)) (fun vs hl r ok h => ?_)
  unfold Tplus at h
  split at h
  · rename_i xs ys
    obtain rfl := val_ret h
    have hx : okL xs := ok.1.1
    have hy : okL ys := ok.2.1.1
    have hp := b_plus xs ys
    obtain ⟨e1, e2⟩ := addL_eq hx hy
    have c1 := cr_le hx hy 1 (by decide)
    have c2 := cr_le hx hy 2 (by decide)
    have c3 := cr_le hx hy 3 (by decide)
    rw [decide_eq_true c1.2, decide_eq_true c2.2, decide_eq_true c3.2, e1, e2] at hp
    exact Tree.path_val hp
  · cases h
theorem ok_minus : EntryOk Tryd.prog G0 57 Tminus := by
  refine EntryOk.sub (bodyT_ok okC1 mx (un := allLoops) (fn := Tryd.f57) (c := cd Tryd.f57) (by kernel_rfl) (by kernel_rfl) (by kernel_rfl)) (fun vs hl r ok h => ?_)
  unfold Tminus at h
  split at h
  · rename_i xs ys
    obtain rfl := val_ret h
    have hx : okL xs := ok.1.1
    have hy : okL ys := ok.2.1.1
    have hp := b_minus xs ys
    obtain ⟨e1, e2⟩ := subL_eq hx hy
    rw [decide_eq_true (bw_le 1).2, decide_eq_true (bw_le 2).2, decide_eq_true (bw_le 3).2, e1, e2] at hp
    exact Tree.path_val hp
  · cases h

/-! ### choose -/
def Tchoose (vs : List V1) (hl : Heap) : Tree (SV × Heap) :=
  match vs, hl with
  | [.c (.int _ .u64 m), .g [.ws .u64 4 xs], .g [.ws .u64 4 ys]], [] => Tree.chk (decide (m = 0 ∨ m = 18446744073709551615)) (.ret (.one (ws (if m = 0 then ys else xs)), []))
  | _, _ => .fail
def ch (m x y : Int) : Int := bor (band x m) (bandn y m)
theorem b_choose (m a b c d a' b' c' d' : Int) : (bodyT C1 Tryd.prog allLoops Tryd.f58 (cd Tryd.f58) [.c (.int false .u64 m), ws [a, b, c, d], ws [a', b', c', d']] []).path [] =
    some ([], .one (ws [ch m a a', ch m b b', ch m c c', ch m d d']), []) := by kernel_rfl
theorem ch_zero {x y : Int} (hx : R x) (hy : R y) : ch 0 x y = y := by unfold ch; rw [band_zero hx, bandn_zero hy, zero_bor hy]
theorem ch_all {x y : Int} (hx : R x) : ch 18446744073709551615 x y = x := by unfold ch; rw [band_all hx, bandn_all, bor_zero hx]
theorem ok_choose : EntryOk Tryd.prog G0 58 Tchoose := by
  refine EntryOk.sub ((bodyT_ok okC1 mx (un := allLoops) (fn := Tryd.f58) (c := cd Tryd.f58) (by kernel_rfl) (by kernel_rfl) (by kernel_rfl)).unlit) (fun vs hl r ok h => ?_)
  unfold Tchoose at h
  split at h
  · rename_i l m xs ys
    obtain ⟨h1, h2⟩ := val_chk h
    have hm := of_decide_eq_true h1
    obtain rfl := val_ret h2
    obtain ⟨a, b, c, d, rfl, ha, hb, hc, hd⟩ := okL_get (show okL xs from ok.2.1.1)
    obtain ⟨a', b', c', d', rfl, ha', hb', hc', hd'⟩ := okL_get (show okL ys from ok.2.2.1.1)
    have hp := b_choose m a b c d a' b' c' d'
    rcases hm with rfl | rfl
    · rw [ch_zero ha ha', ch_zero hb hb', ch_zero hc hc', ch_zero hd hd'] at hp
      exact Tree.path_val hp
    · rw [ch_all ha, ch_all hb, ch_all hc, ch_all hd] at hp
      exact Tree.path_val hp
  · cases h

/-! ### Mul64 -/
def TMul64 (vs : List V1) (hl : Heap) : Tree (SV × Heap) :=
  match vs, hl with
  | [.c (.int _ .u64 x), .c (.int _ .u64 y)], [] => .ret (.tup [.c (.int false .u64 (mulHi x y)), .c (.int false .u64 (mulLo x y))], [])
  | _, _ => .fail

def mt (x y : Int) : Int := um (um (Int.fdiv x 4294967296 * band y 4294967295) + Int.fdiv (um (band x 4294967295 * band y 4294967295)) 4294967296)
def mv (x y : Int) : Int := um (band (mt x y) 4294967295 + um (band x 4294967295 * Int.fdiv y 4294967296))
theorem b_Mul64 (x y : Int) : (bodyT C1 Tryd.prog allLoops Tryd.f56 (cd Tryd.f56) [.c (.int false .u64 x), .c (.int false .u64 y)] []).path [] =
    some ([], .tup [.c (.int false .u64 (um (um (um (Int.fdiv x 4294967296 * Int.fdiv y 4294967296) + Int.fdiv (mt x y) 4294967296) + Int.fdiv (mv x y) 4294967296))), .c (.int false .u64 (um (x * y)))], []) := by kernel_rfl
theorem ok_Mul64 : EntryOk Tryd.prog G0 56 TMul64 := by
  refine EntryOk.sub ((bodyT_ok okC1 mx (un := allLoops) (fn := Tryd.f56) (c := cd Tryd.f56) (by kernel_rfl) (by kernel_rfl) (by kernel_rfl)).unlit) (fun vs hl r ok h => ?_)
  unfold TMul64 at h
  split at h
  · rename_i l x l' y
    obtain rfl := val_ret h
    have hx : R x := inU.mp ok.1
    have hy : R y := inU.mp ok.2.1
    have hp := b_Mul64 x y
    have f (x : Int) : Int.fdiv x 4294967296 = x / 4294967296 := fdiv_pos x 32
    have bm {x : Int} (h : R x) : band x 4294967295 = x % 4294967296 := band_mask h 32 (by decide)
    have hmt : mt x y = (x / 4294967296 * (y % 4294967296) % 18446744073709551616 + x % 4294967296 * (y % 4294967296) % 18446744073709551616 / 4294967296) % 18446744073709551616 := by
      unfold mt um
      rw [f, f, bm hx, bm hy, wrapU, wrapU, wrapU]
    have hR : R (mt x y) := by rw [hmt]; unfold R; omega
    have hmv : mv x y = (mt x y % 4294967296 + x % 4294967296 * (y / 4294967296) % 18446744073709551616) % 18446744073709551616 := by
      unfold mv um
      rw [f, bm hx, bm hR, wrapU, wrapU]
    rw [f, f, f, f] at hp
    unfold um at hp
    rw [wrapU, wrapU, wrapU, wrapU] at hp
    obtain ⟨e1, e2⟩ := mul64 hx hy rfl rfl rfl rfl rfl hmt rfl rfl hmv rfl rfl
    rw [e1, e2] at hp
    exact Tree.path_val hp
  · cases h
noncomputable def C2 : Tab := ((((C1.put 34 0 Tplus).put 57 0 Tminus).put 58 0 Tchoose).put 56 0 TMul64)
theorem okC2 : SpecOk Tryd.prog C2 := (((okC1.put ok_plus).put ok_minus).put ok_choose).put ok_Mul64
end Go.Sc

namespace Go.Sc
open Go Go.SX Go.Proofs

theorem val_tab0 : val tab0 = ell := by decide
def low (n : Int) : Int := if n < ell then n else n - ell
def Tlower (vs : List V1) (hl : Heap) : Tree (SV × Heap) :=
  match vs, hl with
  | [.g [.ws .u64 4 xs]], [] => .ret (.one (ws (limbs (low (val xs)))), [])
  | _, _ => .fail
def neg1 (p : Prop) [Decidable p] : Int := um (0 - if p then 1 else 0)
theorem neg1_yes {p : Prop} [Decidable p] (h : p) : neg1 p = 18446744073709551615 := by unfold neg1; rw [if_pos h]; rfl
theorem neg1_no {p : Prop} [Decidable p] (h : ¬ p) : neg1 p = 0 := by unfold neg1; rw [if_neg h]; rfl
theorem neg1_or {p : Prop} [Decidable p] : decide (neg1 p = 0 ∨ neg1 p = 18446744073709551615) = true := by
  by_cases h : p
  · rw [neg1_yes h]; decide
  · rw [neg1_no h]; decide
theorem neg1_if {α : Type} {p : Prop} [Decidable p] (a b : α) : (if neg1 p = 0 then a else b) = if p then b else a := by
  by_cases h : p
  · rw [neg1_yes h, if_pos h, if_neg (by decide)]
  · rw [neg1_no h, if_neg h, if_pos rfl]
theorem b_lower (xs : List Int) : (bodyT C2 Tryd.prog allLoops Tryd.f36 (cd Tryd.f36) [ws xs] []).path [true] =
    some ([decide (neg1 (val xs < val tab0) = 0 ∨ neg1 (val xs < val tab0) = 18446744073709551615)], .one (ws (if neg1 (val xs < val tab0) = 0 then limbs (val xs - val tab0) else xs)), []) := by kernel_rfl
theorem ok_lower : EntryOk Tryd.prog G0 36 Tlower := by
  refine EntryOk.sub (bodyT_ok okC2 mx (un := allLoops) (fn := Tryd.f36) (c := cd Tryd.f36) (by kernel_rfl) (by kernel_rfl) (by kernel_rfl)) (fun vs hl r ok h => ?_)
  unfold Tlower at h
  split at h
  · rename_i xs
    obtain rfl := val_ret h
    have hx : okL xs := ok.1.1
    have hp := b_lower xs
    rw [neg1_or, neg1_if, val_tab0] at hp
    have e : (if val xs < ell then xs else limbs (val xs - ell)) = limbs (low (val xs)) := by
      unfold low
      by_cases h : val xs < ell
      · rw [if_pos h, if_pos h, limbs_val hx]
      · rw [if_neg h, if_neg h]
    rw [e] at hp
    exact Tree.path_val hp
  · cases h
noncomputable def C3 : Tab := C2.put 36 0 Tlower
theorem okC3 : SpecOk Tryd.prog C3 := okC2.put ok_lower

/-! ### Least -/
def TLeast (vs : List V1) (hl : Heap) : Tree (SV × Heap) :=
  match vs, hl with
  | [.g [.ws .u64 4 xs]], [] => .ret (.one (ws (limbs (val xs % ell))), [])
  | _, _ => .fail
def lq (d : Int) : Int := Int.fdiv d 1152921504606846976
def lc1 (q : Int) : Int := (mulLo q 1503914060200516822 + mulHi q 6346243789798364141 + 0) % 18446744073709551616
def lc2 (q : Int) : Int := um (mulHi q 1503914060200516822 + (mulLo q 1503914060200516822 + mulHi q 6346243789798364141 + 0) / 18446744073709551616)
def lc (q : Int) : List Int := [mulLo q 6346243789798364141, lc1 q, lc2 q, 0]
def la (a b c d : Int) : List Int := [a, b, c, band d 1152921504606846975]
def ld (a b c d : Int) : List Int := limbs (val (la a b c d) - val (lc (lq d)))
def le (a b c d : Int) : List Int := limbs (val (ld a b c d) + val tab0)
theorem b_Least1 (a b c d : Int) : (bodyT C3 Tryd.prog allLoops Tryd.f35 (cd Tryd.f35) [ws [a, b, c, d]] []).path [true] =
    some ([decide (d < 1152921504606846976)], .one (ws [a, b, c, d]), []) := by kernel_rfl
theorem b_Least2 (a b c d : Int) : (bodyT C3 Tryd.prog allLoops Tryd.f35 (cd Tryd.f35) [ws [a, b, c, d]] []).path [false, true, true] =
    some ([decide (d < 1152921504606846976), true, decide (neg1 (val (la a b c d) < val (lc (lq d))) = 0 ∨ neg1 (val (la a b c d) < val (lc (lq d))) = 18446744073709551615)],
      .one (ws (limbs (low (val (if neg1 (val (la a b c d) < val (lc (lq d))) = 0 then ld a b c d else le a b c d))))), []) := by kernel_rfl
theorem least_low {a b c d : Int} (ha : R a) (hb : R b) (hc : R c) (hd : R d) (h : d < 1152921504606846976) : [a, b, c, d] = limbs (val [a, b, c, d] % ell) := by
  have e : val [a, b, c, d] % ell = val [a, b, c, d] := by
    rw [val4]; unfold R at *; unfold ell; omega
  rw [e, limbs_val]
  refine ⟨rfl, fun x hx => inU.mpr ?_⟩
  simp only [List.mem_cons, List.not_mem_nil, or_false] at hx
  rcases hx with rfl | rfl | rfl | rfl <;> assumption
theorem val_lc {q : Int} (h : 0 ≤ q ∧ q ≤ 15) : val (lc q) = q * 27742317777372353535851937790883648493 := by
  unfold lc lc1 lc2 um mulHi mulLo
  rw [val4, wrapU]
  omega
theorem val_la {a b c d : Int} (ha : R a) (hb : R b) (hc : R c) (hd : R d) : val (la a b c d) = val [a, b, c, d] - 7237005577332262213973186563042994240829374041602535252466099000494570602496 * (d / 1152921504606846976) := by
  have e : band d 1152921504606846975 = d % 1152921504606846976 := band_mask hd 60 (by decide)
  unfold la
  rw [val4, val4, e]; omega
theorem least_high {a b c d : Int} (ha : R a) (hb : R b) (hc : R c) (hd : R d) (h : ¬ d < 1152921504606846976) :
    low (val (if val (la a b c d) < val (lc (lq d)) then le a b c d else ld a b c d)) = val [a, b, c, d] % ell := by
  have eq : lq d = d / 1152921504606846976 := fdiv_pos d 60
  have hq : 0 ≤ d / 1152921504606846976 ∧ d / 1152921504606846976 ≤ 15 := by unfold R at hd; omega
  have h1 := val_la ha hb hc hd
  have h2 := val_lc hq
  have hb : val [a, b, c, d] = a + 18446744073709551616 * b + 340282366920938463463374607431768211456 * c + 6277101735386680763835789423207666416102355444464034512896 * d := rfl
  unfold R at *
  have h3 : 0 ≤ val (la a b c d) ∧ val (la a b c d) < 7237005577332262213973186563042994240829374041602535252466099000494570602496 := by omega
  rw [eq]
  rw [← eq] at h2
  by_cases hlt : val (la a b c d) < val (lc (lq d))
  · rw [← eq, if_pos hlt]
    unfold le
    have e3 : val (limbs (val (ld a b c d) + val tab0)) = val (la a b c d) - val (lc (lq d)) + ell := by
      rw [val_limbs', val_tab0]
      unfold ld
      rw [val_limbs']
      rw [h2, eq] at *
      unfold ell
      omega
    rw [e3]
    unfold low
    rw [h2, eq] at *
    rw [if_pos (by omega), h1]
    unfold ell
    omega
  · rw [← eq, if_neg hlt]
    unfold ld
    rw [val_limbs (by rw [h2, eq] at *; omega)]
    unfold low
    rw [h2, eq] at *
    rw [h1]
    split <;> unfold ell at * <;> omega
theorem ok_Least : EntryOk Tryd.prog G0 35 TLeast := by
  refine EntryOk.sub (bodyT_ok okC3 mx (un := allLoops) (fn := Tryd.f35) (c := cd Tryd.f35) (by kernel_rfl) (by kernel_rfl) (by kernel_rfl)) (fun vs hl r ok h => ?_)
  unfold TLeast at h
  split at h
  · rename_i xs
    obtain rfl := val_ret h
    obtain ⟨a, b, c, d, rfl, ha, hb, hc, hd⟩ := okL_get (show okL xs from ok.1.1)
    by_cases hlt : d < 1152921504606846976
    · have hp := b_Least1 a b c d
      rw [decide_eq_true hlt] at hp
      rw [← least_low ha hb hc hd hlt]
      exact Tree.path_val hp
    · have hp := b_Least2 a b c d
      rw [decide_eq_false hlt, neg1_or, neg1_if, least_high ha hb hc hd hlt] at hp
      exact Tree.path_val hp
  · cases h
noncomputable def C4 : Tab := C3.put 35 0 TLeast
theorem okC4 : SpecOk Tryd.prog C4 := okC3.put ok_Least
end Go.Sc

namespace Go.Sc
open Go Go.SX Go.Proofs

def Tinto (vs : List V1) (hl : Heap) : Tree (SV × Heap) :=
  match vs, hl with
  | [.c (.int _ .u64 x), .c (.int _ .u64 y), .c (.int _ .u64 z), .c (.int _ .u64 c)], [] =>
    .ret (.tup [.c (.int false .u64 ((x * y + z + c) % 18446744073709551616)), .c (.int false .u64 ((x * y + z + c) / 18446744073709551616))], [])
  | _, _ => .fail
theorem b_into (x y z c : Int) : (bodyT C4 Tryd.prog allLoops Tryd.f102 (cd Tryd.f102) [.c (.int false .u64 x), .c (.int false .u64 y), .c (.int false .u64 z), .c (.int false .u64 c)] []).path [true, true] =
    some ([true, true], .tup [.c (.int false .u64 (((mulLo x y + z + 0) % 18446744073709551616 + c + 0) % 18446744073709551616)),
      .c (.int false .u64 (um (um (mulHi x y + (mulLo x y + z + 0) / 18446744073709551616) + ((mulLo x y + z + 0) % 18446744073709551616 + c + 0) / 18446744073709551616)))], []) := by kernel_rfl
theorem ok_into : EntryOk Tryd.prog G0 102 Tinto := by
  refine EntryOk.sub ((bodyT_ok okC4 mx (un := allLoops) (fn := Tryd.f102) (c := cd Tryd.f102) (by kernel_rfl) (by kernel_rfl) (by kernel_rfl)).unlit) (fun vs hl r ok h => ?_)
  unfold Tinto at h
  split at h
  · rename_i l x l' y l2 z l3 c
    obtain rfl := val_ret h
    have hx : R x := inU.mp ok.1
    have hy : R y := inU.mp ok.2.1
    have hz : R z := inU.mp ok.2.2.1
    have hc : R c := inU.mp ok.2.2.2.1
    have hp := b_into x y z c
    have hb := mul_bits hx hy
    have e1 : ((mulLo x y + z + 0) % 18446744073709551616 + c + 0) % 18446744073709551616 = (x * y + z + c) % 18446744073709551616 := by
      unfold mulLo; omega
    have e2 : um (um (mulHi x y + (mulLo x y + z + 0) / 18446744073709551616) + ((mulLo x y + z + 0) % 18446744073709551616 + c + 0) / 18446744073709551616) = (x * y + z + c) / 18446744073709551616 := by
      unfold um mulLo mulHi
      rw [wrapU, wrapU]
      unfold R at *
      generalize x * y = p at *
      omega
    rw [e1, e2] at hp
    exact Tree.path_val hp
  · cases h
noncomputable def C5 : Tab := C4.put 102 0 Tinto
theorem okC5 : SpecOk Tryd.prog C5 := okC4.put ok_into

/-! ### product -/
/-- carries and limbs of xs x + ts; of x l + ts -/
def mc (x : Int) (xs ts : List Int) : Nat → Int
  | 0 => 0
  | n + 1 => (xs.getD n 0 * x + ts.getD n 0 + mc x xs ts n) / 18446744073709551616
def ml (x : Int) (xs ts : List Int) (n : Nat) : Int := (xs.getD n 0 * x + ts.getD n 0 + mc x xs ts n) % 18446744073709551616
def dc (x : Int) (ts : List Int) : Nat → Int
  | 0 => 0
  | n + 1 => (x * tab0.getD n 0 + ts.getD n 0 + dc x ts n) / 18446744073709551616
def dl (x : Int) (ts : List Int) (n : Nat) : Int := (x * tab0.getD n 0 + ts.getD n 0 + dc x ts n) % 18446744073709551616
def qs (x : Int) (xs ts : List Int) : List Int := [ml x xs ts 0, ml x xs ts 1, ml x xs ts 2, ml x xs ts 3]
def top (x : Int) (xs ts : List Int) : Int := ts.getD 4 0 + mc x xs ts 4 + 0
def mm (x : Int) (xs ts : List Int) : Int := um (ml x xs ts 0 * 15183074304973897243)
def top2 (x : Int) (xs ts : List Int) : Int := top x xs ts % 18446744073709551616 + dc (mm x xs ts) (qs x xs ts) 4 + 0
def nxt (x : Int) (xs ts : List Int) : List Int :=
  [dl (mm x xs ts) (qs x xs ts) 1, dl (mm x xs ts) (qs x xs ts) 2, dl (mm x xs ts) (qs x xs ts) 3, top2 x xs ts % 18446744073709551616, um (top x xs ts / 18446744073709551616 + top2 x xs ts / 18446744073709551616)]

noncomputable def rp (is : List Item) (s : St) : Tree Out := runK C5 Tryd.prog (only [7, 16]) 400 is s
noncomputable def sp (a b : List Int) : St := ⟨enterT Tryd.f88 [ws a, ws b], []⟩
noncomputable def Kp : List Item := leftT [] (rp [.code (cd Tryd.f88)] (sp [] []))
def pt (k : Nat) : SV := one (.ptr k 0 0 0 0 0)
noncomputable def stp (a b ts : List Int) (i : Int) : St := ⟨slotsOf 101 [(2, pt 0), (3, pt 1), (4, pt 2), (5, pt 3), (13, one (.int false .i64 i))], [.vals [.ws .u64 4 a], .vals [.ws .u64 4 b], .vals [.ws .u64 4 [0, 0, 0, 0]], .vals [.ws .u64 5 ts]]⟩
theorem p_start (a b : List Int) : pieceT [2, 3, 4, 5, 13] [13] [0, 1, 2, 3] [] (rp [.code (cd Tryd.f88)] (sp a b)) = some ([], Kp, stp a b [0, 0, 0, 0, 0] 0) := by kernel_rfl
theorem p_step (a0 a1 a2 a3 : Int) (b : List Int) (t0 t1 t2 t3 t4 i : Int) : pieceT [2, 3, 4, 5, 13] [13] [0, 1, 2, 3] [true, true, true, true, true, true, true] (rp Kp (stp [a0, a1, a2, a3] b [t0, t1, t2, t3, t4] i)) =
    some ([decide (i < 4), decide (0 ≤ i ∧ i < 4), decide (0 ≤ i ∧ i < 4), decide (0 ≤ i ∧ i < 4), decide (0 ≤ i ∧ i < 4), true, true], Kp,
      stp [a0, a1, a2, a3] b (nxt (b.getD i.toNat 0) [a0, a1, a2, a3] [t0, t1, t2, t3, t4]) (IntKind.i64.wrap (i + 1))) := by kernel_rfl
theorem p_end (a b : List Int) (t0 t1 t2 t3 t4 i : Int) : endT Tryd.prog Tryd.f88 [] [false] (rp Kp (stp a b [t0, t1, t2, t3, t4] i)) =
    some ([decide (i < 4)], .one (ws (limbs (low (val [t0, t1, t2, t3])))), []) := by kernel_rfl

theorem add_mul4 (a b c d x A B C : Int) : (a + A * b + B * c + C * d) * x = a * x + A * (b * x) + B * (c * x) + C * (d * x) := by
  rw [Int.add_mul, Int.add_mul, Int.add_mul, Int.mul_assoc, Int.mul_assoc, Int.mul_assoc]
/-! small steps of one round -/
theorem sr_div {a : Int} (ha : 0 ≤ a) : 18446744073709551616 * (a / 18446744073709551616) + a % 18446744073709551616 = a ∧ 0 ≤ a / 18446744073709551616 ∧ R (a % 18446744073709551616) := by unfold R; omega
theorem sr_nn {p t c : Int} (hp : 0 ≤ p) (ht : R t) (hc : 0 ≤ c) : 0 ≤ p + t + c := by unfold R at ht; omega
theorem sr_first {q m : Int} (hq : R q) (hm : m = q * 15183074304973897243 % 18446744073709551616) : 18446744073709551616 * ((m * 6346243789798364141 + q + 0) / 18446744073709551616) = m * 6346243789798364141 + q ∧ 0 ≤ (m * 6346243789798364141 + q + 0) / 18446744073709551616 ∧ R m := by unfold R at *; omega
theorem sr_m {m : Int} (h : R m) : 0 ≤ m * 1503914060200516822 ∧ 0 ≤ m * 0 ∧ 0 ≤ m * 1152921504606846976 := by unfold R at h; omega
theorem sr_top {t c x : Int} (ht : R t) (hc : 0 ≤ c) (hx : 0 ≤ x) : ((t + c) % 18446744073709551616 + x) % 18446744073709551616 + 18446744073709551616 * ((t + c) / 18446744073709551616 + ((t + c) % 18446744073709551616 + x) / 18446744073709551616) = t + c + x ∧
    R (((t + c) % 18446744073709551616 + x) % 18446744073709551616) ∧ 0 ≤ (t + c) / 18446744073709551616 + ((t + c) % 18446744073709551616 + x) / 18446744073709551616 := by unfold R at *; omega
theorem sr_key {p0 p1 p2 p3 t0 t1 t2 t3 t4 c1 c2 c3 c4 q0 q1 q2 q3 m x1 x2 x3 x4 y1 y2 y3 v3 v4 : Int} (g1 : 18446744073709551616 * c1 + q0 = p0 + t0) (g2 : 18446744073709551616 * c2 + q1 = p1 + t1 + c1) (g3 : 18446744073709551616 * c3 + q2 = p2 + t2 + c2) (g4 : 18446744073709551616 * c4 + q3 = p3 + t3 + c3)
    (s1 : 18446744073709551616 * x1 = m * 6346243789798364141 + q0) (s2 : 18446744073709551616 * x2 + y1 = m * 1503914060200516822 + q1 + x1) (s3 : 18446744073709551616 * x3 + y2 = m * 0 + q2 + x2) (s4 : 18446744073709551616 * x4 + y3 = m * 1152921504606846976 + q3 + x3) (s5 : v3 + 18446744073709551616 * v4 = t4 + c4 + x4) :
    18446744073709551616 * (y1 + 18446744073709551616 * y2 + 340282366920938463463374607431768211456 * y3 + 6277101735386680763835789423207666416102355444464034512896 * v3 + 115792089237316195423570985008687907853269984665640564039457584007913129639936 * v4) =
      t0 + 18446744073709551616 * t1 + 340282366920938463463374607431768211456 * t2 + 6277101735386680763835789423207666416102355444464034512896 * t3 + 115792089237316195423570985008687907853269984665640564039457584007913129639936 * t4 + (p0 + 18446744073709551616 * p1 + 340282366920938463463374607431768211456 * p2 + 6277101735386680763835789423207666416102355444464034512896 * p3) + m * ell := by
  unfold ell; omega
theorem sr_lt {U T A m : Int} (h : 18446744073709551616 * U = T + A + m * ell) (hT : T < 2 * ell) (hA : A ≤ (ell - 1) * 18446744073709551615) (hm : R m) : U < 2 * ell := by
  unfold R at hm
  unfold ell at *; omega
theorem sr_v4 {y1 y2 y3 v3 v4 : Int} (h : y1 + 18446744073709551616 * y2 + 340282366920938463463374607431768211456 * y3 + 6277101735386680763835789423207666416102355444464034512896 * v3 + 115792089237316195423570985008687907853269984665640564039457584007913129639936 * v4 < 2 * ell) (h1 : R y1) (h2 : R y2) (h3 : R y3) (h4 : R v3) (h5 : 0 ≤ v4) : v4 = 0 := by
  unfold R at *; unfold ell at h; omega
/-- one round -/
theorem round_ok {a0 a1 a2 a3 x t0 t1 t2 t3 t4 : Int} (h0 : R a0) (h1 : R a1) (h2 : R a2) (h3 : R a3) (hx : R x) (k0 : R t0) (k1 : R t1) (k2 : R t2) (k3 : R t3) (k4 : R t4)
    (hA : val [a0, a1, a2, a3] < ell) (hT : val [t0, t1, t2, t3] + 115792089237316195423570985008687907853269984665640564039457584007913129639936 * t4 < 2 * ell) :
    ∃ u0 u1 u2 u3 m : Int, nxt x [a0, a1, a2, a3] [t0, t1, t2, t3, t4] = [u0, u1, u2, u3, 0] ∧ R u0 ∧ R u1 ∧ R u2 ∧ R u3 ∧
      18446744073709551616 * val [u0, u1, u2, u3] = val [t0, t1, t2, t3] + 115792089237316195423570985008687907853269984665640564039457584007913129639936 * t4 + val [a0, a1, a2, a3] * x + m * ell ∧ val [u0, u1, u2, u3] < 2 * ell := by
  have b0 := (mul_bits h0 hx).1
  have b1 := (mul_bits h1 hx).1
  have b2 := (mul_bits h2 hx).1
  have b3 := (mul_bits h3 hx).1
  have hAx : val [a0, a1, a2, a3] * x ≤ (ell - 1) * 18446744073709551615 := by
    have h0 : 0 ≤ val [a0, a1, a2, a3] := by rw [val4]; unfold R at *; omega
    exact (mul_bound h0 (by omega) hx.1 hx.2).2
  have eA : val [a0, a1, a2, a3] * x = a0 * x + 18446744073709551616 * (a1 * x) + 340282366920938463463374607431768211456 * (a2 * x) + 6277101735386680763835789423207666416102355444464034512896 * (a3 * x) := by rw [val4, add_mul4]
  have e1 : mc x [a0, a1, a2, a3] [t0, t1, t2, t3, t4] 1 = (a0 * x + t0 + 0) / 18446744073709551616 := rfl
  have e2 : mc x [a0, a1, a2, a3] [t0, t1, t2, t3, t4] 2 = (a1 * x + t1 + mc x [a0, a1, a2, a3] [t0, t1, t2, t3, t4] 1) / 18446744073709551616 := rfl
  have e3 : mc x [a0, a1, a2, a3] [t0, t1, t2, t3, t4] 3 = (a2 * x + t2 + mc x [a0, a1, a2, a3] [t0, t1, t2, t3, t4] 2) / 18446744073709551616 := rfl
  have e4 : mc x [a0, a1, a2, a3] [t0, t1, t2, t3, t4] 4 = (a3 * x + t3 + mc x [a0, a1, a2, a3] [t0, t1, t2, t3, t4] 3) / 18446744073709551616 := rfl
  have f1 : ml x [a0, a1, a2, a3] [t0, t1, t2, t3, t4] 0 = (a0 * x + t0 + 0) % 18446744073709551616 := rfl
  have f2 : ml x [a0, a1, a2, a3] [t0, t1, t2, t3, t4] 1 = (a1 * x + t1 + mc x [a0, a1, a2, a3] [t0, t1, t2, t3, t4] 1) % 18446744073709551616 := rfl
  have f3 : ml x [a0, a1, a2, a3] [t0, t1, t2, t3, t4] 2 = (a2 * x + t2 + mc x [a0, a1, a2, a3] [t0, t1, t2, t3, t4] 2) % 18446744073709551616 := rfl
  have f4 : ml x [a0, a1, a2, a3] [t0, t1, t2, t3, t4] 3 = (a3 * x + t3 + mc x [a0, a1, a2, a3] [t0, t1, t2, t3, t4] 3) % 18446744073709551616 := rfl
  obtain ⟨g1, n1, r1⟩ := sr_div (sr_nn b0 k0 (Int.le_refl 0))
  rw [← e1, ← f1, Int.add_zero] at g1
  rw [← e1] at n1
  rw [← f1] at r1
  obtain ⟨g2, n2, r2⟩ := sr_div (sr_nn b1 k1 n1)
  rw [← e2, ← f2] at g2
  rw [← e2] at n2
  rw [← f2] at r2
  obtain ⟨g3, n3, r3⟩ := sr_div (sr_nn b2 k2 n2)
  rw [← e3, ← f3] at g3
  rw [← e3] at n3
  rw [← f3] at r3
  obtain ⟨g4, n4, r4⟩ := sr_div (sr_nn b3 k3 n3)
  rw [← e4, ← f4] at g4
  rw [← e4] at n4
  rw [← f4] at r4
  have eQ : qs x [a0, a1, a2, a3] [t0, t1, t2, t3, t4] = [ml x [a0, a1, a2, a3] [t0, t1, t2, t3, t4] 0, ml x [a0, a1, a2, a3] [t0, t1, t2, t3, t4] 1, ml x [a0, a1, a2, a3] [t0, t1, t2, t3, t4] 2, ml x [a0, a1, a2, a3] [t0, t1, t2, t3, t4] 3] := rfl
  have eT : top x [a0, a1, a2, a3] [t0, t1, t2, t3, t4] = t4 + mc x [a0, a1, a2, a3] [t0, t1, t2, t3, t4] 4 := Int.add_zero _
  have eM : mm x [a0, a1, a2, a3] [t0, t1, t2, t3, t4] = ml x [a0, a1, a2, a3] [t0, t1, t2, t3, t4] 0 * 15183074304973897243 % 18446744073709551616 := by
    unfold mm um; rw [wrapU]
  have e2T : top2 x [a0, a1, a2, a3] [t0, t1, t2, t3, t4] = top x [a0, a1, a2, a3] [t0, t1, t2, t3, t4] % 18446744073709551616 + dc (mm x [a0, a1, a2, a3] [t0, t1, t2, t3, t4]) (qs x [a0, a1, a2, a3] [t0, t1, t2, t3, t4]) 4 := Int.add_zero _
  have eN : nxt x [a0, a1, a2, a3] [t0, t1, t2, t3, t4] = [dl (mm x [a0, a1, a2, a3] [t0, t1, t2, t3, t4]) (qs x [a0, a1, a2, a3] [t0, t1, t2, t3, t4]) 1, dl (mm x [a0, a1, a2, a3] [t0, t1, t2, t3, t4]) (qs x [a0, a1, a2, a3] [t0, t1, t2, t3, t4]) 2, dl (mm x [a0, a1, a2, a3] [t0, t1, t2, t3, t4]) (qs x [a0, a1, a2, a3] [t0, t1, t2, t3, t4]) 3,
      top2 x [a0, a1, a2, a3] [t0, t1, t2, t3, t4] % 18446744073709551616, um (top x [a0, a1, a2, a3] [t0, t1, t2, t3, t4] / 18446744073709551616 + top2 x [a0, a1, a2, a3] [t0, t1, t2, t3, t4] / 18446744073709551616)] := rfl
  rw [eN, e2T, eT, eQ]
  clear eN e2T eT eQ e1 e2 e3 e4 f1 f2 f3 f4
  generalize mm x [a0, a1, a2, a3] [t0, t1, t2, t3, t4] = m at *
  generalize ml x [a0, a1, a2, a3] [t0, t1, t2, t3, t4] 0 = q0 at *
  generalize ml x [a0, a1, a2, a3] [t0, t1, t2, t3, t4] 1 = q1 at *
  generalize ml x [a0, a1, a2, a3] [t0, t1, t2, t3, t4] 2 = q2 at *
  generalize ml x [a0, a1, a2, a3] [t0, t1, t2, t3, t4] 3 = q3 at *
  generalize mc x [a0, a1, a2, a3] [t0, t1, t2, t3, t4] 1 = c1 at *
  generalize mc x [a0, a1, a2, a3] [t0, t1, t2, t3, t4] 2 = c2 at *
  generalize mc x [a0, a1, a2, a3] [t0, t1, t2, t3, t4] 3 = c3 at *
  generalize mc x [a0, a1, a2, a3] [t0, t1, t2, t3, t4] 4 = c4 at *
  have d1 : dc m [q0, q1, q2, q3] 1 = (m * 6346243789798364141 + q0 + 0) / 18446744073709551616 := rfl
  have d2 : dc m [q0, q1, q2, q3] 2 = (m * 1503914060200516822 + q1 + dc m [q0, q1, q2, q3] 1) / 18446744073709551616 := rfl
  have d3 : dc m [q0, q1, q2, q3] 3 = (m * 0 + q2 + dc m [q0, q1, q2, q3] 2) / 18446744073709551616 := rfl
  have d4 : dc m [q0, q1, q2, q3] 4 = (m * 1152921504606846976 + q3 + dc m [q0, q1, q2, q3] 3) / 18446744073709551616 := rfl
  have o1 : dl m [q0, q1, q2, q3] 1 = (m * 1503914060200516822 + q1 + dc m [q0, q1, q2, q3] 1) % 18446744073709551616 := rfl
  have o2 : dl m [q0, q1, q2, q3] 2 = (m * 0 + q2 + dc m [q0, q1, q2, q3] 2) % 18446744073709551616 := rfl
  have o3 : dl m [q0, q1, q2, q3] 3 = (m * 1152921504606846976 + q3 + dc m [q0, q1, q2, q3] 3) % 18446744073709551616 := rfl
  generalize dc m [q0, q1, q2, q3] 1 = x1 at *
  generalize dc m [q0, q1, q2, q3] 2 = x2 at *
  generalize dc m [q0, q1, q2, q3] 3 = x3 at *
  generalize dc m [q0, q1, q2, q3] 4 = x4 at *
  generalize dl m [q0, q1, q2, q3] 1 = y1 at *
  generalize dl m [q0, q1, q2, q3] 2 = y2 at *
  generalize dl m [q0, q1, q2, q3] 3 = y3 at *
  obtain ⟨s1, nx1, hmR⟩ := sr_first r1 eM
  rw [← d1] at s1 nx1
  obtain ⟨l1, l2, l3⟩ := sr_m hmR
  obtain ⟨s2, nx2, ry1⟩ := sr_div (sr_nn l1 r2 nx1)
  rw [← d2, ← o1] at s2
  rw [← d2] at nx2
  rw [← o1] at ry1
  obtain ⟨s3, nx3, ry2⟩ := sr_div (sr_nn l2 r3 nx2)
  rw [← d3, ← o2] at s3
  rw [← d3] at nx3
  rw [← o2] at ry2
  obtain ⟨s4, nx4, ry3⟩ := sr_div (sr_nn l3 r4 nx3)
  rw [← d4, ← o3] at s4
  rw [← d4] at nx4
  rw [← o3] at ry3
  obtain ⟨s5, rv3, hv⟩ := sr_top k4 n4 nx4
  unfold um
  rw [wrapU]
  generalize ((t4 + c4) % 18446744073709551616 + x4) % 18446744073709551616 = v3 at *
  generalize (t4 + c4) / 18446744073709551616 + ((t4 + c4) % 18446744073709551616 + x4) / 18446744073709551616 = v4 at *
  have key := sr_key g1 g2 g3 g4 s1 s2 s3 s4 s5
  rw [← eA] at key
  have hlt := sr_lt key (by rw [val4] at hT; exact hT) hAx hmR
  have hv4 := sr_v4 hlt ry1 ry2 ry3 rv3 hv
  subst hv4
  refine ⟨y1, y2, y3, v3, m, rfl, ry1, ry2, ry3, rv3, ?_, ?_⟩
  · rw [val4, val4]
    rw [Int.mul_zero, Int.add_zero] at key
    exact key
  · rw [val4]
    rw [Int.mul_zero, Int.add_zero] at hlt
    exact hlt

/-! ### the contract -/
def rinv : Int := 4458503529701987551646482192314240623644693141688353256590997718326214331684
/-- the product modulo 2^256 -/
def redc (a b : Int) : Int := a * b * rinv % ell
def Tproduct (vs : List V1) (hl : Heap) : Tree (SV × Heap) :=
  match vs, hl with
  | [.g [.ws .u64 4 xs], .g [.ws .u64 4 ys]], [] => Tree.chk (decide (val xs < ell)) (.ret (.one (ws (limbs (redc (val xs) (val ys)))), []))
  | _, _ => .fail
theorem low_mod {t : Int} (ht : 0 ≤ t ∧ t < 2 * ell) : low t = t % ell := by
  unfold low
  unfold ell at *
  split <;> omega
theorem rinv_eq : 115792089237316195423570985008687907853269984665640564039457584007913129639936 * rinv = 1 + ell * 71336056475231800826343715077027849978041630819377026201054086228062141447707 := by rfl
theorem rinv_mul {t : Int} : 115792089237316195423570985008687907853269984665640564039457584007913129639936 * t * rinv = t + ell * (71336056475231800826343715077027849978041630819377026201054086228062141447707 * t) := by
  rw [Int.mul_right_comm, rinv_eq, Int.add_mul, Int.one_mul, Int.mul_assoc]
theorem redc_eq {a b k t : Int} (h1 : (115792089237316195423570985008687907853269984665640564039457584007913129639936 * t) * rinv = (a * b + k * ell) * rinv) (h3 : (a * b + k * ell) * rinv = a * b * rinv + ell * (k * rinv)) :
    a * b * rinv = t + ell * (71336056475231800826343715077027849978041630819377026201054086228062141447707 * t - k * rinv) := by
  rw [Int.mul_sub]
  have h2 := rinv_mul (t := t)
  generalize ell * (71336056475231800826343715077027849978041630819377026201054086228062141447707 * t) = x at *
  rw [h2, h3] at h1
  generalize a * b * rinv = y at *
  generalize ell * (k * rinv) = z at *
  omega
theorem redc_of {a b t k : Int} (h : 115792089237316195423570985008687907853269984665640564039457584007913129639936 * t = a * b + k * ell) (ht : 0 ≤ t ∧ t < 2 * ell) : low t = redc a b := by
  have h3 : (a * b + k * ell) * rinv = a * b * rinv + ell * (k * rinv) := by
    rw [Int.add_mul]; congr 1
    rw [Int.mul_comm k ell, Int.mul_assoc]
  unfold redc
  rw [redc_eq (by rw [h]) h3, Int.add_mul_emod_self_left]
  exact low_mod ht
theorem all_rounds {T1 T2 T3 T4 A b0 b1 b2 b3 m1 m2 m3 m4 : Int} (h1 : 18446744073709551616 * T1 = 0 + A * b0 + m1 * ell) (h2 : 18446744073709551616 * T2 = T1 + A * b1 + m2 * ell) (h3 : 18446744073709551616 * T3 = T2 + A * b2 + m3 * ell) (h4 : 18446744073709551616 * T4 = T3 + A * b3 + m4 * ell) :
    115792089237316195423570985008687907853269984665640564039457584007913129639936 * T4 = A * val [b0, b1, b2, b3] + (m1 + 18446744073709551616 * m2 + 340282366920938463463374607431768211456 * m3 + 6277101735386680763835789423207666416102355444464034512896 * m4) * ell := by
  have e : A * val [b0, b1, b2, b3] = A * b0 + 18446744073709551616 * (A * b1) + 340282366920938463463374607431768211456 * (A * b2) + 6277101735386680763835789423207666416102355444464034512896 * (A * b3) := by
    rw [val4, Int.mul_add, Int.mul_add, Int.mul_add, Int.mul_left_comm, Int.mul_left_comm A, Int.mul_left_comm A]
  rw [e, add_mul4]
  generalize A * b0 = p0 at *
  generalize A * b1 = p1 at *
  generalize A * b2 = p2 at *
  generalize A * b3 = p3 at *
  generalize m1 * ell = q1 at *
  generalize m2 * ell = q2 at *
  generalize m3 * ell = q3 at *
  generalize m4 * ell = q4 at *
  omega
theorem val_zero : val [0, 0, 0, 0] = 0 := rfl
theorem R_zero : R 0 := by unfold R; decide
theorem product_runs {a0 a1 a2 a3 b0 b1 b2 b3 : Int} (h0 : R a0) (h1 : R a1) (h2 : R a2) (h3 : R a3) (k0 : R b0) (k1 : R b1) (k2 : R b2) (k3 : R b3) (hA : val [a0, a1, a2, a3] < ell) :
    Runs Tryd.prog C5 Tryd.f88 0 [.code (cd Tryd.f88)] (sp [a0, a1, a2, a3] [b0, b1, b2, b3]) (.one (ws (limbs (redc (val [a0, a1, a2, a3]) (val [b0, b1, b2, b3]))))) [] := by
  refine Runs.piece okC5 mx (p_start _ _) rfl (by rfl) ?_
  obtain ⟨u0, u1, u2, u3, m1, e1, r0, r1, r2, r3, q1, l1⟩ := round_ok h0 h1 h2 h3 k0 R_zero R_zero R_zero R_zero R_zero hA (by rw [val_zero]; unfold ell; decide)
  obtain ⟨v0, v1, v2, v3, m2, e2, s0, s1, s2, s3, q2, l2⟩ := round_ok h0 h1 h2 h3 k1 r0 r1 r2 r3 R_zero hA (by rw [Int.mul_zero, Int.add_zero]; exact l1)
  obtain ⟨w0, w1, w2, w3, m3, e3, t0, t1, t2, t3, q3, l3⟩ := round_ok h0 h1 h2 h3 k2 s0 s1 s2 s3 R_zero hA (by rw [Int.mul_zero, Int.add_zero]; exact l2)
  obtain ⟨x0, x1, x2, x3, m4, e4, y0, y1, y2, y3, q4, l4⟩ := round_ok h0 h1 h2 h3 k3 t0 t1 t2 t3 R_zero hA (by rw [Int.mul_zero, Int.add_zero]; exact l3)
  rw [val_zero, Int.mul_zero, Int.add_zero] at q1
  rw [Int.mul_zero, Int.add_zero] at q2 q3 q4
  have p1 := p_step a0 a1 a2 a3 [b0, b1, b2, b3] 0 0 0 0 0 0
  rw [show ([b0, b1, b2, b3] : List Int).getD (Int.toNat 0) 0 = b0 from rfl, e1, show IntKind.i64.wrap (0 + 1) = 1 from rfl] at p1
  refine Runs.piece okC5 mx p1 rfl (by rfl) ?_
  have p2 := p_step a0 a1 a2 a3 [b0, b1, b2, b3] u0 u1 u2 u3 0 1
  rw [show ([b0, b1, b2, b3] : List Int).getD (Int.toNat 1) 0 = b1 from rfl, e2, show IntKind.i64.wrap (1 + 1) = 2 from rfl] at p2
  refine Runs.piece okC5 mx p2 rfl (by rfl) ?_
  have p3 := p_step a0 a1 a2 a3 [b0, b1, b2, b3] v0 v1 v2 v3 0 2
  rw [show ([b0, b1, b2, b3] : List Int).getD (Int.toNat 2) 0 = b2 from rfl, e3, show IntKind.i64.wrap (2 + 1) = 3 from rfl] at p3
  refine Runs.piece okC5 mx p3 rfl (by rfl) ?_
  have p4 := p_step a0 a1 a2 a3 [b0, b1, b2, b3] w0 w1 w2 w3 0 3
  rw [show ([b0, b1, b2, b3] : List Int).getD (Int.toNat 3) 0 = b3 from rfl, e4, show IntKind.i64.wrap (3 + 1) = 4 from rfl] at p4
  refine Runs.piece okC5 mx p4 rfl (by rfl) ?_
  have p5 := p_end [a0, a1, a2, a3] [b0, b1, b2, b3] x0 x1 x2 x3 0 4
  have hr := redc_of (all_rounds q1 q2 q3 q4) ⟨by rw [val4]; unfold R at y0 y1 y2 y3; clear q1 q2 q3 q4; omega, l4⟩
  rw [hr] at p5
  exact Runs.last okC5 mx p5 rfl (by rfl)
theorem ok_product : EntryOk Tryd.prog G0 88 Tproduct := by
  refine EntryOk.runs (S := C5) (fn := Tryd.f88) (c := cd Tryd.f88) (by kernel_rfl) (by kernel_rfl) (by kernel_rfl) (fun vs hl r hl' ok h => ?_)
  unfold Tproduct at h
  split at h
  · rename_i xs ys
    obtain ⟨h1, h2⟩ := val_chk h
    have hA := of_decide_eq_true h1
    obtain h3 := val_ret h2
    obtain ⟨rfl, rfl⟩ := Prod.mk.inj h3
    obtain ⟨a, b, c, d, rfl, ha, hb, hc, hd⟩ := okL_get (show okL xs from ok.1.1)
    obtain ⟨a', b', c', d', rfl, ha', hb', hc', hd'⟩ := okL_get (show okL ys from ok.2.1.1)
    exact product_runs ha hb hc hd ha' hb' hc' hd' hA
  · cases h
noncomputable def C6 : Tab := C5.put 88 0 Tproduct
theorem okC6 : SpecOk Tryd.prog C6 := okC5.put ok_product
end Go.Sc

namespace Go.Sc
open Go Go.SX Go.Proofs

theorem mod_bound (n : Int) : 0 ≤ n % ell ∧ n % ell < ell := by unfold ell; omega
theorem val_mod (n : Int) : val (limbs (n % ell)) = n % ell := val_limbs (by have := mod_bound n; unfold ell at *; omega)

def TAdd (vs : List V1) (hl : Heap) : Tree (SV × Heap) :=
  match vs, hl with
  | [.g [.ws .u64 4 xs], .g [.ws .u64 4 ys]], [] => .ret (.one (ws (limbs ((val xs + val ys) % ell))), [])
  | _, _ => .fail
def TSub (vs : List V1) (hl : Heap) : Tree (SV × Heap) :=
  match vs, hl with
  | [.g [.ws .u64 4 xs], .g [.ws .u64 4 ys]], [] => .ret (.one (ws (limbs ((val xs - val ys) % ell))), [])
  | _, _ => .fail
def TMul (vs : List V1) (hl : Heap) : Tree (SV × Heap) :=
  match vs, hl with
  | [.g [.ws .u64 4 xs], .g [.ws .u64 4 ys]], [] => .ret (.one (ws (limbs (val xs * val ys % ell))), [])
  | _, _ => .fail
def TInt (vs : List V1) (hl : Heap) : Tree (SV × Heap) :=
  match vs, hl with
  | [.c (.int _ .u64 n)], [] => .ret (.one (ws [n, 0, 0, 0]), [])
  | _, _ => .fail
def lm (xs : List Int) : List Int := limbs (val xs % ell)
theorem b_Add (xs ys : List Int) : (bodyT C6 Tryd.prog allLoops Tryd.f14 (cd Tryd.f14) [ws xs, ws ys] []).path [] =
    some ([], .one (ws (limbs (low (val (limbs (val (lm xs) + val (lm ys))))))), []) := by kernel_rfl
theorem ok_Add : EntryOk Tryd.prog G0 14 TAdd := by
  refine EntryOk.sub (bodyT_ok okC6 mx (un := allLoops) (fn := Tryd.f14) (c := cd Tryd.f14) (by kernel_rfl) (by kernel_rfl) (by kernel_rfl)) (fun vs hl r ok h => ?_)
  unfold TAdd at h
  split at h
  · rename_i xs ys
    obtain rfl := val_ret h
    have hp := b_Add xs ys
    have e : low (val (limbs (val (lm xs) + val (lm ys)))) = (val xs + val ys) % ell := by
      unfold lm
      rw [val_mod, val_mod]
      have h1 := mod_bound (val xs)
      have h2 := mod_bound (val ys)
      rw [val_limbs (by unfold ell at *; omega), low_mod (by omega), ← Int.add_emod]
    rw [e] at hp
    exact Tree.path_val hp
  · cases h
theorem b_Sub (xs ys : List Int) : (bodyT C6 Tryd.prog allLoops Tryd.f71 (cd Tryd.f71) [ws xs, ws ys] []).path [true] =
    some ([decide (neg1 (val (lm xs) < val (lm ys)) = 0 ∨ neg1 (val (lm xs) < val (lm ys)) = 18446744073709551615)],
      .one (ws (if neg1 (val (lm xs) < val (lm ys)) = 0 then limbs (val (lm xs) - val (lm ys)) else limbs (val (limbs (val (lm xs) - val (lm ys))) + val tab0))), []) := by kernel_rfl
theorem sub_mod {a b : Int} (ha : 0 ≤ a ∧ a < ell) (hb : 0 ≤ b ∧ b < ell) : (if a < b then limbs (val (limbs (a - b)) + ell) else limbs (a - b)) = limbs ((a - b) % ell) := by
  by_cases h : a < b
  · rw [if_pos h]
    have e : (a - b) % ell = a - b + ell := by unfold ell at *; omega
    have e2 : limbs (val (limbs (a - b)) + ell) = limbs (a - b + ell) := by
      rw [val_limbs']
      unfold limbs
      unfold ell at *
      congr 1
      · omega
      congr 1
      · omega
      congr 1
      · omega
      congr 1
      omega
    rw [e, e2]
  · rw [if_neg h]
    have e : (a - b) % ell = a - b := by unfold ell at *; omega
    rw [e]
theorem ok_Sub : EntryOk Tryd.prog G0 71 TSub := by
  refine EntryOk.sub (bodyT_ok okC6 mx (un := allLoops) (fn := Tryd.f71) (c := cd Tryd.f71) (by kernel_rfl) (by kernel_rfl) (by kernel_rfl)) (fun vs hl r ok h => ?_)
  unfold TSub at h
  split at h
  · rename_i xs ys
    obtain rfl := val_ret h
    have hp := b_Sub xs ys
    unfold lm at hp
    rw [neg1_or, neg1_if, val_tab0, val_mod, val_mod, sub_mod (mod_bound _) (mod_bound _), ← Int.sub_emod] at hp
    exact Tree.path_val hp
  · cases h
theorem b_Mul (xs ys : List Int) : (bodyT C6 Tryd.prog allLoops Tryd.f72 (cd Tryd.f72) [ws xs, ws ys] []).path [true, true] =
    some ([decide (val (lm xs) < ell), decide (val (limbs (redc (val (lm xs)) (val (lm ys)))) < ell)], .one (ws (limbs (redc (val (limbs (redc (val (lm xs)) (val (lm ys))))) (val tab2)))), []) := by kernel_rfl
theorem val_tab2 : val tab2 = 1627715501170711445284395025044413883736156588369414752970002579683115011841 := by decide
theorem r2_eq : 1627715501170711445284395025044413883736156588369414752970002579683115011841 * rinv = 115792089237316195423570985008687907853269984665640564039457584007913129639936 + ell * 1002787027006193005169263912116952179000496417731327443473456661383751921972 := by rfl
theorem emod_mul (u c : Int) : u % ell * c % ell = u * c % ell := by rw [Int.mul_emod, Int.emod_emod_of_dvd _ (Int.dvd_refl _), ← Int.mul_emod]
/-- out of the second product -/
theorem redc_twice (x y : Int) : redc (redc x y) 1627715501170711445284395025044413883736156588369414752970002579683115011841 = x * y % ell := by
  unfold redc
  rw [Int.mul_assoc, emod_mul, r2_eq]
  have e : x * y * rinv * (115792089237316195423570985008687907853269984665640564039457584007913129639936 + ell * 1002787027006193005169263912116952179000496417731327443473456661383751921972) = x * y + ell * (x * y * 71336056475231800826343715077027849978041630819377026201054086228062141447707 + x * y * rinv * 1002787027006193005169263912116952179000496417731327443473456661383751921972) := by
    have h1 : x * y * rinv * 115792089237316195423570985008687907853269984665640564039457584007913129639936 = x * y + ell * (x * y * 71336056475231800826343715077027849978041630819377026201054086228062141447707) := by
      rw [Int.mul_assoc, Int.mul_comm rinv, rinv_eq, Int.mul_add, Int.mul_one]
      congr 1
      rw [Int.mul_left_comm]
    rw [Int.mul_add, h1, Int.mul_add, Int.add_assoc]
    congr 2
    rw [Int.mul_left_comm]
  rw [e, Int.add_mul_emod_self_left]
theorem redc_bound (x y : Int) : val (limbs (redc x y)) = redc x y ∧ redc x y < ell := by
  unfold redc
  exact ⟨val_mod _, (mod_bound _).2⟩
theorem ok_Mul : EntryOk Tryd.prog G0 72 TMul := by
  refine EntryOk.sub (bodyT_ok okC6 mx (un := allLoops) (fn := Tryd.f72) (c := cd Tryd.f72) (by kernel_rfl) (by kernel_rfl) (by kernel_rfl)) (fun vs hl r ok h => ?_)
  unfold TMul at h
  split at h
  · rename_i xs ys
    obtain rfl := val_ret h
    have hp := b_Mul xs ys
    unfold lm at hp
    rw [val_mod, val_mod, (redc_bound _ _).1, val_tab2, redc_twice, decide_eq_true (mod_bound _).2, decide_eq_true (redc_bound _ _).2, ← Int.mul_emod] at hp
    exact Tree.path_val hp
  · cases h
theorem b_Int (n : Int) : (bodyT C6 Tryd.prog allLoops Tryd.f15 (cd Tryd.f15) [.c (.int false .u64 n)] []).path [] = some ([], .one (ws [n, 0, 0, 0]), []) := by kernel_rfl
theorem ok_Int : EntryOk Tryd.prog G0 15 TInt := by
  refine EntryOk.sub ((bodyT_ok okC6 mx (un := allLoops) (fn := Tryd.f15) (c := cd Tryd.f15) (by kernel_rfl) (by kernel_rfl) (by kernel_rfl)).unlit) (fun vs hl r ok h => ?_)
  unfold TInt at h
  split at h
  · rename_i l n
    obtain rfl := val_ret h
    exact Tree.path_val (b_Int n)
  · cases h
noncomputable def C7 : Tab := ((((C6.put 14 0 TAdd).put 71 0 TSub).put 72 0 TMul).put 15 0 TInt)
theorem okC7 : SpecOk Tryd.prog C7 := (((okC6.put ok_Add).put ok_Sub).put ok_Mul).put ok_Int
end Go.Sc

namespace Go.Sc
open Go Go.SX Go.Proofs

def TfromBytes (vs : List V1) (hl : Heap) : Tree (SV × Heap) :=
  match vs, hl with
  | [.g [.ws .u8 32 bs]], [] => .ret (.one (ws (limbs (dg 256 bs))), [])
  | _, _ => .fail
theorem b_fromBytes (bs : List Int) : (bodyT C7 Tryd.prog allLoops Tryd.f101 (cd Tryd.f101) [.g [.ws .u8 32 bs]] []).path [] =
    some ([], .one (ws [lb bs 0 8, lb bs 8 8, lb bs 16 8, lb bs 24 8]), []) := by kernel_rfl
theorem ok_fromBytes : EntryOk Tryd.prog G0 101 TfromBytes := by
  refine EntryOk.sub (bodyT_ok okC7 mx (un := allLoops) (fn := Tryd.f101) (c := cd Tryd.f101) (by kernel_rfl) (by kernel_rfl) (by kernel_rfl)) (fun vs hl r ok h => ?_)
  unfold TfromBytes at h
  split at h
  · rename_i bs
    obtain rfl := val_ret h
    have hp := b_fromBytes bs
    rw [limbs_bytes (fun x hx => inB.mp (ok.1.1.2 x hx)) ok.1.1.1] at hp
    exact Tree.path_val hp
  · cases h
noncomputable def C8 : Tab := C7.put 101 0 TfromBytes
theorem okC8 : SpecOk Tryd.prog C8 := okC7.put ok_fromBytes
def TReduce (vs : List V1) (hl : Heap) : Tree (SV × Heap) :=
  match vs, hl with
  | [.g [.ws .u8 32 bs]], [] => .ret (.one (ws (limbs (dg 256 bs % ell))), [])
  | _, _ => .fail
theorem b_Reduce (bs : List Int) : (bodyT C8 Tryd.prog allLoops Tryd.f87 (cd Tryd.f87) [.g [.ws .u8 32 bs]] []).path [] =
    some ([], .one (ws (limbs (val (limbs (dg 256 bs)) % ell))), []) := by kernel_rfl
theorem ok_Reduce : EntryOk Tryd.prog G0 87 TReduce := by
  refine EntryOk.sub (bodyT_ok okC8 mx (un := allLoops) (fn := Tryd.f87) (c := cd Tryd.f87) (by kernel_rfl) (by kernel_rfl) (by kernel_rfl)) (fun vs hl r ok h => ?_)
  unfold TReduce at h
  split at h
  · rename_i bs
    obtain rfl := val_ret h
    have hp := b_Reduce bs
    rw [val_limbs (dg32 (fun x hx => inB.mp (ok.1.1.2 x hx)) ok.1.1.1)] at hp
    exact Tree.path_val hp
  · cases h
noncomputable def C9 : Tab := C8.put 87 0 TReduce
theorem okC9 : SpecOk Tryd.prog C9 := okC8.put ok_Reduce

/-! ### Wide -/
def TWide (vs : List V1) (hl : Heap) : Tree (SV × Heap) :=
  match vs, hl with
  | [.g [.ws .u8 64 bs]], [] => .ret (.one (ws (limbs (dg 256 bs % ell))), [])
  | _, _ => .fail
def cp32 (x : List Int) : List Int := splice (List.replicate 32 0) 0 (x.take (min x.length 32))
theorem cp32_eq {x : List Int} (h : x.length = 32) : cp32 x = x := by
  unfold cp32 splice
  have h1 : x.take (min x.length 32) = x := List.take_of_length_le (by omega)
  have h2 : (List.replicate 32 (0 : Int)).drop (0 + x.length) = [] := List.drop_eq_nil_of_le (by rw [List.length_replicate, h]; decide)
  rw [h1, h2, List.take_zero, List.nil_append, List.append_nil]
theorem b_Wide (bs : List Int) : (bodyT C9 Tryd.prog allLoops Tryd.f65 (cd Tryd.f65) [.g [.ws .u8 64 bs]] []).path [true, true, true, true, true] =
    some ([true, true, true, true, decide (val (limbs (dg 256 (cp32 ((bs.drop 32).take 32)) % ell)) < ell)],
      .one (ws (limbs ((val (limbs (dg 256 (cp32 ((bs.drop 0).take 32)) % ell)) + val (limbs (redc (val (limbs (dg 256 (cp32 ((bs.drop 32).take 32)) % ell))) (val tab2)))) % ell))), []) := by kernel_rfl
theorem redc_r2 (x : Int) : redc x 1627715501170711445284395025044413883736156588369414752970002579683115011841 = x * 115792089237316195423570985008687907853269984665640564039457584007913129639936 % ell := by
  unfold redc
  rw [Int.mul_assoc, r2_eq, Int.mul_add, Int.mul_left_comm, Int.add_mul_emod_self_left]
theorem wide_eq {bs : List Int} (h : bs.length = 64) : (dg 256 (bs.take 32) % ell + redc (dg 256 (bs.drop 32) % ell) 1627715501170711445284395025044413883736156588369414752970002579683115011841) % ell = dg 256 bs % ell := by
  rw [split64 h, redc_r2, emod_mul, ← Int.add_emod, Int.mul_comm (dg 256 (bs.drop 32))]
theorem ok_Wide : EntryOk Tryd.prog G0 65 TWide := by
  refine EntryOk.sub (bodyT_ok okC9 mx (un := allLoops) (fn := Tryd.f65) (c := cd Tryd.f65) (by kernel_rfl) (by kernel_rfl) (by kernel_rfl)) (fun vs hl r ok h => ?_)
  unfold TWide at h
  split at h
  · rename_i bs
    obtain rfl := val_ret h
    have hl : bs.length = 64 := ok.1.1.1
    have hp := b_Wide bs
    have e1 : (bs.drop 0).take 32 = bs.take 32 := by rw [List.drop_zero]
    have e2 : (bs.drop 32).take 32 = bs.drop 32 := List.take_of_length_le (by rw [List.length_drop]; omega)
    rw [e1, e2, cp32_eq (x := bs.drop 32) (by rw [List.length_drop]; omega), cp32_eq (x := bs.take 32) (by rw [List.length_take]; omega), val_mod, val_mod, (redc_bound _ _).1, val_tab2, wide_eq hl, decide_eq_true (mod_bound _).2] at hp
    exact Tree.path_val hp
  · cases h
noncomputable def C10 : Tab := C9.put 65 0 TWide
theorem okC10 : SpecOk Tryd.prog C10 := okC9.put ok_Wide

/-! ### Tape -/
/-- the i-th scalar of a stream -/
def chunk (xs : List Int) (i : Nat) : List Int := limbs (dg 256 ((xs.drop (64 * i)).take 64) % ell)
def tapeL (xs : List Int) (n : Nat) : List (List Int) := (List.range n).map (chunk xs)
def tTape (xs : List Int) (len : Nat) (n : Int) : Tree (SV × Heap) :=
  .br (decide (n < 0 ∨ 4096 < n)) (.ret (.tup [.c .nils, .c (.int true .i64 1)], [])) (.br (decide ((len : Int) < 64 * n)) (.ret (.tup [.c .nils, .c (.int true .i64 5)], []))
    (.ret (.tup [.c (.sl 0 0 n.toNat), .c (.int true .i64 0)], [.arr WS (tapeL xs n.toNat) 0 []])))
def TTape (vs : List V1) (hl : Heap) : Tree (SV × Heap) :=
  match vs, hl with
  | [.c (.ro (.int .u8) xs len), .c (.int _ .i64 n)], [] => Tree.chk (decide (len ≤ 1099511627776)) (tTape xs len n)
  | _, _ => .fail
abbrev B1 : DTy := .int .u8
noncomputable def rT (k : List Item) (s : St) : Tree Out := runK C10 Tryd.prog noLoops 400 k s
noncomputable def sT (xs : List Int) (len : Nat) (n : Int) : St := ⟨enterT Tryd.f45 [.c (.ro B1 xs len), .c (.int false .i64 n)], []⟩
noncomputable def KT : List Item := leftT [true, false, false, true] (rT [.code (cd Tryd.f45)] (sT [] 0 0))
noncomputable def stT (xs : List Int) (len n : Nat) (ys : List (List Int)) (i : Int) : St := ⟨slotsOf 38 [(0, one (.ro B1 xs len)), (6, one (.sl 0 0 n)), (22, one (.int false .i64 n)), (23, one (.int false .i64 i))], [.arr WS ys 0 []]⟩
theorem t_a (xs : List Int) (len : Nat) (n : Int) : endT Tryd.prog Tryd.f45 [] [false] (rT [.code (cd Tryd.f45)] (sT xs len n)) =
    some ([decide (n < 0) == false], .tup [.c .nils, .c (.int true .i64 1)], []) := by kernel_rfl
theorem t_b (xs : List Int) (len : Nat) (n : Int) : endT Tryd.prog Tryd.f45 [] [true, true] (rT [.code (cd Tryd.f45)] (sT xs len n)) =
    some ([decide (n < 0) == false, decide (n > 4096)], .tup [.c .nils, .c (.int true .i64 1)], []) := by kernel_rfl
theorem t_c (xs : List Int) (len : Nat) (n : Int) : endT Tryd.prog Tryd.f45 [] [true, false, true] (rT [.code (cd Tryd.f45)] (sT xs len n)) =
    some ([decide (n < 0) == false, decide (n > 4096), decide ((len : Int) < IntKind.i64.wrap (64 * n))], .tup [.c .nils, .c (.int true .i64 5)], []) := by kernel_rfl
theorem t_d (xs : List Int) (len : Nat) (n : Int) : pieceT [0, 6, 22, 23] [23] [0] [true, false, false, true] (rT [.code (cd Tryd.f45)] (sT xs len n)) =
    some ([decide (n < 0) == false, decide (n > 4096), decide ((len : Int) < IntKind.i64.wrap (64 * n)), decide (0 ≤ n ∧ n ≤ n ∧ n ≤ 281474976710656 ∧ (Tryd.prog.bytesOf 28 : Int) * n ≤ 281474976710656)],
      KT, stT xs len n.toNat (List.replicate n.toNat [0, 0, 0, 0]) (0 : Nat)) := by kernel_rfl
theorem t_e (xs : List Int) (len n : Nat) (ys : List (List Int)) (i : Nat) : pieceT [0, 6, 22, 23] [23] [0] [true, true, true, true] (rT KT (stT xs len n ys i)) =
    some ([decide ((i : Int) < n), decide (0 ≤ IntKind.i64.wrap (64 * (i : Int))) && true && decide ((IntKind.i64.wrap (64 * (i : Int))).toNat ≤ len ∧ len ≤ xs.length), decide (64 ≤ len - (IntKind.i64.wrap (64 * (i : Int))).toNat), decide (0 ≤ (i : Int) ∧ (i : Int) < n)],
      KT, stT xs len n (ys.set (0 + i) (limbs (dg 256 ((xs.drop (IntKind.i64.wrap (64 * (i : Int))).toNat).take 64) % ell))) (IntKind.i64.wrap ((i : Int) + 1))) := by kernel_rfl
theorem t_f (xs : List Int) (len n : Nat) (ys : List (List Int)) (i : Nat) : endT Tryd.prog Tryd.f45 [0] [false] (rT KT (stT xs len n ys i)) =
    some ([decide ((i : Int) < n)], .tup [.c (.sl 0 0 n), .c (.int true .i64 0)], [.arr WS ys 0 []]) := by kernel_rfl
theorem bytes_S : Tryd.prog.bytesOf 28 = 32 := by kernel_rfl
theorem wrap64 {x : Int} (h : -9223372036854775808 ≤ x ∧ x < 9223372036854775808) : IntKind.i64.wrap x = x := by rw [IntKind.wrap_i64]; omega
theorem wsucc {k : Nat} (h : k < 1099511627776) : IntKind.i64.wrap ((k : Int) + 1) = ((k + 1 : Nat) : Int) := by rw [wrap64 (by omega)]; omega
theorem tapeL_succ {xs : List Int} {n k : Nat} {z : List Int} (h : k < n) : (tapeL xs k ++ List.replicate (n - k) z).set k (chunk xs k) = tapeL xs (k + 1) ++ List.replicate (n - (k + 1)) z := by
  have e : n - k = (n - (k + 1)) + 1 := by omega
  have hl : (tapeL xs k).length = k := by unfold tapeL; rw [List.length_map, List.length_range]
  rw [e, List.replicate_succ, List.set_append_right _ _ (by omega), hl, Nat.sub_self]
  unfold tapeL
  rw [List.range_succ, List.map_append, List.append_assoc]; rfl
theorem Tape_runs {xs : List Int} {len : Nat} {n : Int} (hx : len ≤ xs.length) (hb : len ≤ 1099511627776) {r : SV × Heap} (hr : (tTape xs len n).val = some r) : Runs Tryd.prog C10 Tryd.f45 0 [.code (cd Tryd.f45)] (sT xs len n) r.1 r.2 := by
  unfold tTape at hr
  simp only [Tree.val] at hr
  split at hr
  · rename_i h1
    have h1 := of_decide_eq_true h1
    obtain rfl := Option.some.inj hr
    by_cases h0 : n < 0
    · exact Runs.last okC10 mx (t_a xs len n) (by rw [decide_eq_true h0]; rfl) (by rfl)
    · exact Runs.last okC10 mx (t_b xs len n) (by rw [decide_eq_false h0, decide_eq_true (by omega)]; rfl) (by rfl)
  · rename_i h1
    have h1 : ¬ (n < 0 ∨ 4096 < n) := of_decide_eq_false (by simpa using h1)
    split at hr
    · rename_i h2
      have h2 := of_decide_eq_true h2
      obtain rfl := Option.some.inj hr
      exact Runs.last okC10 mx (t_c xs len n) (by rw [wrap64 (by omega), decide_eq_false (by omega), decide_eq_false (by omega), decide_eq_true h2]; rfl) (by rfl)
    · rename_i h2
      have h2 : ¬ ((len : Int) < 64 * n) := of_decide_eq_false (by simpa using h2)
      obtain rfl := Option.some.inj hr
      obtain ⟨m, rfl⟩ : ∃ m : Nat, n = (m : Int) := ⟨n.toNat, by omega⟩
      have hd := t_d xs len m
      rw [wrap64 (by omega), bytes_S, decide_eq_false (by omega), decide_eq_false (by omega), decide_eq_false h2, decide_eq_true (by omega), Int.toNat_natCast] at hd
      refine Runs.piece okC10 mx hd rfl (by rfl) ?_
      rw [Int.toNat_natCast]
      refine loopG (st := fun k (ys : List (List Int)) => stT xs len m ys k) (I := fun k ys => ys = tapeL xs k ++ List.replicate (m - k) [0, 0, 0, 0]) (n := m) (fun k ys hk hI => ⟨ys.set k (chunk xs k), by rw [hI, tapeL_succ hk], fun hr => ?_⟩) (fun ys hI => ?_) m 0 (List.replicate m [0, 0, 0, 0]) (by omega) rfl
      · have he := t_e xs len m ys k
        have e1 : IntKind.i64.wrap (64 * (k : Int)) = ((64 * k : Nat) : Int) := by rw [wrap64 (by omega)]; omega
        rw [e1, Int.toNat_natCast, wsucc (by omega), Nat.zero_add, decide_eq_true (by omega), decide_eq_true (by omega), decide_eq_true (by omega), decide_eq_true (by omega), decide_eq_true (by omega)] at he
        exact Runs.piece okC10 mx he rfl (by rfl) hr
      · have hf := t_f xs len m ys m
        rw [decide_eq_false (by omega)] at hf
        obtain rfl : ys = tapeL xs m := by rw [hI, Nat.sub_self]; exact List.append_nil _
        exact Runs.last okC10 mx hf rfl (by rfl)
theorem lit_int {P : Program} {S : Tab} {fn : Func} {m : Nat} {k : List Item} {s s' : St} {v : SV} {hl : Heap} (l : List Nat) (h : Runs P S fn m k s' v hl) (e : s.unlit l = s') : Runs P S fn m k s v hl := Runs.unlit l (e ▸ h)
set_option maxRecDepth 4000 in
theorem ok_Tape : EntryOk Tryd.prog G0 45 TTape := by
  refine EntryOk.runs (S := C10) (fn := Tryd.f45) (c := cd Tryd.f45) (by kernel_rfl) (by kernel_rfl) (by kernel_rfl) (fun vs hl r hl' ok h => ?_)
  unfold TTape at h
  split at h
  · rename_i xs len l n
    obtain ⟨h1, h2⟩ := val_chk h
    exact lit_int [1] (Tape_runs (xs := xs) ok.1.1 (of_decide_eq_true h1) h2) (by kernel_rfl)
  · cases h
noncomputable def C11 : Tab := C10.put 45 1 TTape
theorem okC11 : SpecOk Tryd.prog C11 := okC10.put ok_Tape
end Go.Sc
