/- Contracts of the program's scalars, part 1: sums, differences, choices. -/
import Derived.Test.YtdblbibjggeikaaGreatDoorD1
import Derived.Test.YtdblbibjggeikaaGreatDoorProg
set_option linter.unusedSectionVars false
set_option linter.unusedVariables false
set_option linter.unusedSimpArgs false
namespace Go.Sc
open Go Go.SX Go.Proofs
variable [Level]
noncomputable def cd (f : Func) : Code := match f.body with | some c => c | none => .skip
theorem mx : Tryz.prog.follows .mixedOrders = true := by kernel_rfl
abbrev WS : DTy := .ws .u64 4
abbrev TB : DTy := .pair WS (.pair WS (.pair WS (.pair WS .unit)))
def tab0 : List Int := [6346243789798364141, 1503914060200516822, 0, 1152921504606846976]
def tab1 : List Int := [15486807595281847581, 14334777244411350896, 18446744073709551614, 1152921504606846975]
def tab2 : List Int := [11819153939886771969, 14991950615390032711, 14910419812499177061, 259310039853996605]
def tab3 : List Int := [6346243789798364139, 1503914060200516822, 0, 1152921504606846976]
def tbl : TB.den := (tab0, tab1, tab2, tab3, ())
def G0 : GlobT := fun g => if g = 0 then some ⟨TB, tbl⟩ else none
noncomputable def C0 : Tab := Tab.empty G0
theorem okC0 : SpecOk Tryz.prog C0 := SpecOk.empty
def TAdd64 (vs : List V1) (hl : Heap) : Tree (SV × Heap) :=
 match vs, hl with
 | [.c (.int _ .u64 x), .c (.int _ .u64 y), .c (.int _ .u64 c)], [] => Tree.chk (decide (c <= 1)) (.ret (.tup [.c (.int false .u64 ((x + y + c) % 18446744073709551616)), .c (.int false .u64 ((x + y + c) / 18446744073709551616))], []))
 | _, _ => .fail
def TSub64 (vs : List V1) (hl : Heap) : Tree (SV × Heap) :=
 match vs, hl with
 | [.c (.int _ .u64 x), .c (.int _ .u64 y), .c (.int _ .u64 c)], [] => Tree.chk (decide (c <= 1)) (.ret (.tup [.c (.int false .u64 ((x - y - c) % 18446744073709551616)), .c (.int false .u64 (if x < y + c then 1 else 0))], []))
 | _, _ => .fail
theorem val_chk {α : Type} {b : Bool} {t : Tree α} {r : α} (h : (Tree.chk b t).val = some r) : b = true /\ t.val = some r := by
 unfold Tree.chk Tree.val at h;cases b with
 | true => exact ⟨rfl, h⟩
 | false => simp [Tree.val] at h
theorem val_ret {α : Type} {a r : α} (h : (Tree.ret a).val = some r) : a = r := smI h
def sub64Entry : Array Value -> Sem Value := fun args => do
 let (x, y, b) ← Extern.MathBitsCarry.three "Sub64" args
 pure (Extern.MathBitsCarry.pair ((x + Extern.MathBitsCarry.m64 - y - b) % Extern.MathBitsCarry.m64) (if x < y + b then 1 else 0))
theorem run_sub64 {P : Program} (x y c : Int) (hx : 0 <= x) (hx' : x < 18446744073709551616) (hy : 0 <= y) (hy' : y < 18446744073709551616) (hc0 : 0 <= c) (hc : c <= 1) (w : World) :
  (sub64Entry #[.int .u64 x, .int .u64 y, .int .u64 c]).run P w =
   .ok (.tuple #[.int .u64 ((x - y - c) % 18446744073709551616), .int .u64 (if x < y + c then 1 else 0)]) w := by
 have key : ∀ k : Nat, k <= 1 -> (sub64Entry #[.int .u64 x, .int .u64 y, .int .u64 (k : Int)]).run P w =
   .ok (Extern.MathBitsCarry.pair ((x.toNat + Extern.MathBitsCarry.m64 - y.toNat - k) % Extern.MathBitsCarry.m64) (if x.toNat < y.toNat + k then 1 else 0)) w := by
  intro k hk;have : k = 0 \/ k = 1 := by omega
  rcases this with rfl | rfl <;> rfl
 obtain ⟨k, rfl⟩ := Int.eq_ofNat_of_zero_le hc0;rw [key k (by omega)]
 obtain ⟨X, rfl⟩ := Int.eq_ofNat_of_zero_le hx;obtain ⟨Y, rfl⟩ := Int.eq_ofNat_of_zero_le hy;simp only [Extern.MathBitsCarry.pair, Extern.MathBitsCarry.m64, Int.toNat_natCast];have e1 : (((X + 2 ^ 64 - Y - k) % 2 ^ 64 : Nat) : Int) = ((X : Int) - Y - k) % 18446744073709551616 := by
  have : (2 : Nat) ^ 64 = 18446744073709551616 := by decide
  rw [this]; omega
 have e2 : ((if X < Y + k then 1 else 0 : Nat) : Int) = if (X : Int) < Y + k then 1 else 0 := by split <;> split <;> omega
 have e1' : Int.ofNat ((X + 2 ^ 64 - Y - k) % 2 ^ 64) = ((X : Int) - Y - k) % 18446744073709551616 := e1
 have e2' : Int.ofNat (if X < Y + k then 1 else 0) = if (X : Int) < Y + k then 1 else 0 := e2
 rw [e1', e2']
theorem b_three {P : Program} (n : String) (us : Array Value) : Blind P (Extern.MathBitsCarry.three n us) := by
 have key : ∀ x y c : Value, Blind P (Extern.MathBitsCarry.three n #[x, y, c]) := fun x y c => by
  unfold Extern.MathBitsCarry.three;refine b_asInt.bind fun c' => ?_
  simp only
  split
  ·exact Blind.bind b_unsup fun _ => b_asInt.bind fun _ => b_asInt.bind fun _ => b_pure _
  ·exact b_asInt.bind fun _ => b_asInt.bind fun _ => b_pure _
 rcases us with ⟨_ | ⟨x, _ | ⟨y, _ | ⟨c, _ | ⟨d, l⟩⟩⟩⟩⟩ <;> first | exact key _ _ _ | exact b_stuck
theorem bl_add64 {P : Program} (us : Array Value) : Blind P (add64Entry us) := Blind.bind (b_three _ us) fun _ => b_pure _
theorem bl_sub64 {P : Program} (us : Array Value) : Blind P (sub64Entry us) := Blind.bind (b_three _ us) fun _ => b_pure _
theorem ok_Add64 {G : GlobT} : EntryOk Tryz.prog G 118 TAdd64 := by
 refine EntryOk.extern (fn := Tryz.f118) (e := add64Entry) (by kernel_rfl) (by kernel_rfl) (by kernel_rfl) (by kernel_rfl) (by kernel_rfl) bl_add64 (fun vs hl r h => ?_) (fun vs r ok h E us w hv => ?_)
 ·unfold TAdd64 at h;split at h
  ·obtain ⟨_, h⟩ := val_chk h;obtain rfl := val_ret h;exact ⟨rfl, rfl⟩
  ·cases h
 ·unfold TAdd64 at h;split at h
  ·rename_i _ x _ y _ c _;obtain ⟨h1, h⟩ := val_chk h;have h1 := ofD h1
   obtain h2 := val_ret h;obtain ⟨rfl, -⟩ := Prod.mk.inj h2;obtain ⟨u0, _, e0, ⟨rfl, _⟩, u1, _, e1, ⟨rfl, _⟩, u2, _, e2, ⟨rfl, _⟩, e3⟩ := hv;subst e3 e2 e1;obtain rfl : us = #[.int .u64 x, .int .u64 y, .int .u64 c] := by cases us; simp_all
   obtain ⟨k0, k1, k2, _⟩ := ok;have k0 := inU.mp k0
   have k1 := inU.mp k1
   have k2 := inU.mp k2
   refine ⟨_, run_add64 x y c k0.1 k1.1 k2.1 h1 w, fun E' => ⟨_, rfl, _, _, rfl, ⟨rfl, inU.mpr (by omega)⟩, _, _, rfl, ⟨rfl, inU.mpr (by omega)⟩, rfl⟩⟩
  ·cases h
theorem ok_Sub64 {G : GlobT} : EntryOk Tryz.prog G 169 TSub64 := by
 refine EntryOk.extern (fn := Tryz.f169) (e := sub64Entry) (by kernel_rfl) (by kernel_rfl) (by kernel_rfl) (by kernel_rfl) (by kernel_rfl) bl_sub64 (fun vs hl r h => ?_) (fun vs r ok h E us w hv => ?_)
 ·unfold TSub64 at h;split at h
  ·obtain ⟨_, h⟩ := val_chk h;obtain rfl := val_ret h;exact ⟨rfl, rfl⟩
  ·cases h
 ·unfold TSub64 at h;split at h
  ·rename_i _ x _ y _ c _;obtain ⟨h1, h⟩ := val_chk h;have h1 := ofD h1
   obtain h2 := val_ret h;obtain ⟨rfl, -⟩ := Prod.mk.inj h2;obtain ⟨u0, _, e0, ⟨rfl, _⟩, u1, _, e1, ⟨rfl, _⟩, u2, _, e2, ⟨rfl, _⟩, e3⟩ := hv;subst e3 e2 e1;obtain rfl : us = #[.int .u64 x, .int .u64 y, .int .u64 c] := by cases us; simp_all
   obtain ⟨k0, k1, k2, _⟩ := ok;have k0 := inU.mp k0
   have k1 := inU.mp k1
   have k2 := inU.mp k2
   refine ⟨_, run_sub64 x y c k0.1 (by omega) k1.1 (by omega) k2.1 h1 w, fun E' => ⟨_, rfl, _, _, rfl, ⟨rfl, inU.mpr (by omega)⟩, _, _, rfl, ⟨rfl, inU.mpr (by split <;> decide)⟩, rfl⟩⟩
  ·cases h
noncomputable def C1 : Tab := (C0.put 118 0 TAdd64).put 169 0 TSub64
theorem okC1 : SpecOk Tryz.prog C1 := (okC0.put ok_Add64).put ok_Sub64
def ws (xs : List Int) : V1 := .g [.ws .u64 4 xs]
def Tplus (vs : List V1) (hl : Heap) : Tree (SV × Heap) :=
 match vs, hl with
 | [.g [.ws .u64 4 xs], .g [.ws .u64 4 ys]], [] => .ret (.tup [ws (limbs (val xs + val ys)), .c (.int false .u64 ((val xs + val ys) / 115792089237316195423570985008687907853269984665640564039457584007913129639936))], [])
 | _, _ => .fail
def Tminus (vs : List V1) (hl : Heap) : Tree (SV × Heap) :=
 match vs, hl with
 | [.g [.ws .u64 4 xs], .g [.ws .u64 4 ys]], [] => .ret (.tup [ws (limbs (val xs - val ys)), .c (.int false .u64 (if val xs < val ys then 1 else 0))], [])
 | _, _ => .fail
theorem b_plus (xs ys : List Int) : (bodyT C1 Tryz.prog allLoops Tryz.f112 (cd Tryz.f112) [ws xs, ws ys] []).path [true, true, true, true] =
  some ([true, decide (cr xs ys 1 <= 1), decide (cr xs ys 2 <= 1), decide (cr xs ys 3 <= 1)], .tup [ws (addL xs ys), .c (.int false .u64 (cr xs ys 4))], []) := by kernel_rfl
theorem b_minus (xs ys : List Int) : (bodyT C1 Tryz.prog allLoops Tryz.f111 (cd Tryz.f111) [ws xs, ws ys] []).path [true, true, true, true] =
  some ([true, decide (bw xs ys 1 <= 1), decide (bw xs ys 2 <= 1), decide (bw xs ys 3 <= 1)], .tup [ws (subL xs ys), .c (.int false .u64 (bw xs ys 4))], []) := by kernel_rfl
theorem ok_plus : EntryOk Tryz.prog G0 112 Tplus := by
 refine EntryOk.sub (bodyT_ok okC1 mx (un := allLoops) (fn := Tryz.f112) (c := cd Tryz.f112) (by kernel_rfl) (by kernel_rfl) (by kernel_rfl)) (fun vs hl r ok h => ?_)
 unfold Tplus at h;split at h
 ·rename_i xs ys;obtain rfl := val_ret h;have hx : okL xs := ok.1.1
  have hy : okL ys := ok.2.1.1
  have hp := b_plus xs ys
  obtain ⟨e1, e2⟩ := addL_eq hx hy;have c1 := cr_le hx hy 1 (by decide)
  have c2 := cr_le hx hy 2 (by decide)
  have c3 := cr_le hx hy 3 (by decide)
  rw [deT c1.2, deT c2.2, deT c3.2, e1, e2] at hp;exact Tree.path_val hp
 ·cases h
theorem ok_minus : EntryOk Tryz.prog G0 111 Tminus := by
 refine EntryOk.sub (bodyT_ok okC1 mx (un := allLoops) (fn := Tryz.f111) (c := cd Tryz.f111) (by kernel_rfl) (by kernel_rfl) (by kernel_rfl)) (fun vs hl r ok h => ?_)
 unfold Tminus at h;split at h
 ·rename_i xs ys;obtain rfl := val_ret h;have hx : okL xs := ok.1.1
  have hy : okL ys := ok.2.1.1
  have hp := b_minus xs ys
  obtain ⟨e1, e2⟩ := subL_eq hx hy;rw [deT (bw_le 1).2, deT (bw_le 2).2, deT (bw_le 3).2, e1, e2] at hp;exact Tree.path_val hp
 ·cases h
def Tchoose (vs : List V1) (hl : Heap) : Tree (SV × Heap) :=
 match vs, hl with
 | [.c (.int _ .u64 m), .g [.ws .u64 4 xs], .g [.ws .u64 4 ys]], [] => Tree.chk (decide (m = 0 \/ m = 18446744073709551615)) (.ret (.one (ws (if m = 0 then ys else xs)), []))
 | _, _ => .fail
def ch (m x y : Int) : Int := bor (band x m) (bandn y m)
theorem b_choose (m a b c d a' b' c' d' : Int) : (bodyT C1 Tryz.prog allLoops Tryz.f113 (cd Tryz.f113) [.c (.int false .u64 m), ws [a, b, c, d], ws [a', b', c', d']] []).path [] =
  some ([], .one (ws [ch m a a', ch m b b', ch m c c', ch m d d']), []) := by kernel_rfl
theorem ch_zero {x y : Int} (hx : R x) (hy : R y) : ch 0 x y = y := by unfold ch; rw [band_zero hx, bandn_zero hy, zero_bor hy]
theorem ch_all {x y : Int} (hx : R x) : ch 18446744073709551615 x y = x := by unfold ch; rw [band_all hx, bandn_all, bor_zero hx]
theorem ok_choose : EntryOk Tryz.prog G0 113 Tchoose := by
 refine EntryOk.sub ((bodyT_ok okC1 mx (un := allLoops) (fn := Tryz.f113) (c := cd Tryz.f113) (by kernel_rfl) (by kernel_rfl) (by kernel_rfl)).unlit) (fun vs hl r ok h => ?_)
 unfold Tchoose at h;split at h
 ·rename_i l m xs ys;obtain ⟨h1, h2⟩ := val_chk h;have hm := ofD h1
  obtain rfl := val_ret h2;obtain ⟨a, b, c, d, rfl, ha, hb, hc, hd⟩ := okL_get (show okL xs from ok.2.1.1)
  obtain ⟨a', b', c', d', rfl, ha', hb', hc', hd'⟩ := okL_get (show okL ys from ok.2.2.1.1)
  have hp := b_choose m a b c d a' b' c' d'
  rcases hm with rfl | rfl
  ·rw [ch_zero ha ha', ch_zero hb hb', ch_zero hc hc', ch_zero hd hd'] at hp;exact Tree.path_val hp
  ·rw [ch_all ha, ch_all hb, ch_all hc, ch_all hd] at hp;exact Tree.path_val hp
 ·cases h
def TMul64 (vs : List V1) (hl : Heap) : Tree (SV × Heap) :=
 match vs, hl with
 | [.c (.int _ .u64 x), .c (.int _ .u64 y)], [] => .ret (.tup [.c (.int false .u64 (mulHi x y)), .c (.int false .u64 (mulLo x y))], [])
 | _, _ => .fail
def mt (x y : Int) : Int := um (um (Int.fdiv x 4294967296 * band y 4294967295) + Int.fdiv (um (band x 4294967295 * band y 4294967295)) 4294967296)
def mv (x y : Int) : Int := um (band (mt x y) 4294967295 + um (band x 4294967295 * Int.fdiv y 4294967296))
theorem b_Mul64 (x y : Int) : (bodyT C1 Tryz.prog allLoops Tryz.f117 (cd Tryz.f117) [.c (.int false .u64 x), .c (.int false .u64 y)] []).path [] =
  some ([], .tup [.c (.int false .u64 (um (um (um (Int.fdiv x 4294967296 * Int.fdiv y 4294967296) + Int.fdiv (mt x y) 4294967296) + Int.fdiv (mv x y) 4294967296))), .c (.int false .u64 (um (x * y)))], []) := by kernel_rfl
theorem ok_Mul64 : EntryOk Tryz.prog G0 117 TMul64 := by
 refine EntryOk.sub ((bodyT_ok okC1 mx (un := allLoops) (fn := Tryz.f117) (c := cd Tryz.f117) (by kernel_rfl) (by kernel_rfl) (by kernel_rfl)).unlit) (fun vs hl r ok h => ?_)
 unfold TMul64 at h;split at h
 ·rename_i l x l' y;obtain rfl := val_ret h;have hx : R x := inU.mp ok.1
  have hy : R y := inU.mp ok.2.1
  have hp := b_Mul64 x y
  have f (x : Int) : Int.fdiv x 4294967296 = x / 4294967296 := fdiv_pos x 32
  have bm {x : Int} (h : R x) : band x 4294967295 = x % 4294967296 := band_mask h 32 (by decide)
  have hmt : mt x y = (x / 4294967296 * (y % 4294967296) % 18446744073709551616 + x % 4294967296 * (y % 4294967296) % 18446744073709551616 / 4294967296) % 18446744073709551616 := by
   unfold mt um;rw [f, f, bm hx, bm hy, wrapU, wrapU, wrapU]
  have hR : R (mt x y) := by rw [hmt]; unfold R; omega
  have hmv : mv x y = (mt x y % 4294967296 + x % 4294967296 * (y / 4294967296) % 18446744073709551616) % 18446744073709551616 := by
   unfold mv um;rw [f, bm hx, bm hR, wrapU, wrapU]
  rw [f, f, f, f] at hp;unfold um at hp;rw [wrapU, wrapU, wrapU, wrapU] at hp;obtain ⟨e1, e2⟩ := mul64 hx hy rfl rfl rfl rfl rfl hmt rfl rfl hmv rfl rfl;rw [e1, e2] at hp;exact Tree.path_val hp
 ·cases h
noncomputable def C2 : Tab := ((((C1.put 112 0 Tplus).put 111 0 Tminus).put 113 0 Tchoose).put 117 0 TMul64)
theorem okC2 : SpecOk Tryz.prog C2 := (((okC1.put ok_plus).put ok_minus).put ok_choose).put ok_Mul64
theorem val_tab0 : val tab0 = ell := by decide
def low (n : Int) : Int := if n < ell then n else n - ell
def Tlower (vs : List V1) (hl : Heap) : Tree (SV × Heap) :=
 match vs, hl with
 | [.g [.ws .u64 4 xs]], [] => .ret (.one (ws (limbs (low (val xs)))), [])
 | _, _ => .fail
def neg1 (p : Prop) [Decidable p] : Int := um (0 - if p then 1 else 0)
theorem neg1_yes {p : Prop} [Decidable p] (h : p) : neg1 p = 18446744073709551615 := by unfold neg1; rw [if_pos h]; rfl
theorem neg1_no {p : Prop} [Decidable p] (h : ¬ p) : neg1 p = 0 := by unfold neg1; rw [if_neg h]; rfl
theorem neg1_or {p : Prop} [Decidable p] : decide (neg1 p = 0 \/ neg1 p = 18446744073709551615) = true := by
 by_cases h : p
 ·rw [neg1_yes h]; decide
 ·rw [neg1_no h]; decide
theorem neg1_if {α : Type} {p : Prop} [Decidable p] (a b : α) : (if neg1 p = 0 then a else b) = if p then b else a := by
 by_cases h : p
 ·rw [neg1_yes h, if_pos h, if_neg (by decide)]
 ·rw [neg1_no h, if_neg h, if_pos rfl]
theorem b_lower (xs : List Int) : (bodyT C2 Tryz.prog allLoops Tryz.f116 (cd Tryz.f116) [ws xs] []).path [true] =
  some ([decide (neg1 (val xs < val tab0) = 0 \/ neg1 (val xs < val tab0) = 18446744073709551615)], .one (ws (if neg1 (val xs < val tab0) = 0 then limbs (val xs - val tab0) else xs)), []) := by kernel_rfl
theorem ok_lower : EntryOk Tryz.prog G0 116 Tlower := by
 refine EntryOk.sub (bodyT_ok okC2 mx (un := allLoops) (fn := Tryz.f116) (c := cd Tryz.f116) (by kernel_rfl) (by kernel_rfl) (by kernel_rfl)) (fun vs hl r ok h => ?_)
 unfold Tlower at h;split at h
 ·rename_i xs;obtain rfl := val_ret h;have hx : okL xs := ok.1.1
  have hp := b_lower xs
  rw [neg1_or, neg1_if, val_tab0] at hp;have e : (if val xs < ell then xs else limbs (val xs - ell)) = limbs (low (val xs)) := by
   unfold low;by_cases h : val xs < ell
   ·rw [if_pos h, if_pos h, limbs_val hx]
   ·rw [if_neg h, if_neg h]
  rw [e] at hp;exact Tree.path_val hp
 ·cases h
noncomputable def C3 : Tab := C2.put 116 0 Tlower
theorem okC3 : SpecOk Tryz.prog C3 := okC2.put ok_lower
def TLeast (vs : List V1) (hl : Heap) : Tree (SV × Heap) :=
 match vs, hl with
 | [.g [.ws .u64 4 xs]], [] => .ret (.one (ws (limbs (val xs % ell))), [])
 | _, _ => .fail
def lq (d : Int) : Int := Int.fdiv d 1152921504606846976
def lc1 (q : Int) : Int := (mulLo q 1503914060200516822 + mulHi q 6346243789798364141 + 0) % 18446744073709551616
def lc2 (q : Int) : Int := um (mulHi q 1503914060200516822 + (mulLo q 1503914060200516822 + mulHi q 6346243789798364141 + 0) / 18446744073709551616)
def lc (q : Int) : List Int := [mulLo q 6346243789798364141, lc1 q, lc2 q, 0]
def la (a b c d : Int) : List Int := [a, b, c, band d 1152921504606846975]
def ld (a b c d : Int) : List Int := limbs (val (la a b c d) - val (lc (lq d)))
def le (a b c d : Int) : List Int := limbs (val (ld a b c d) + val tab0)
theorem b_Least1 (a b c d : Int) : (bodyT C3 Tryz.prog allLoops Tryz.f60 (cd Tryz.f60) [ws [a, b, c, d]] []).path [true] =
  some ([decide (d < 1152921504606846976)], .one (ws [a, b, c, d]), []) := by kernel_rfl
theorem b_Least2 (a b c d : Int) : (bodyT C3 Tryz.prog allLoops Tryz.f60 (cd Tryz.f60) [ws [a, b, c, d]] []).path [false, true, true] =
  some ([decide (d < 1152921504606846976), true, decide (neg1 (val (la a b c d) < val (lc (lq d))) = 0 \/ neg1 (val (la a b c d) < val (lc (lq d))) = 18446744073709551615)],
   .one (ws (limbs (low (val (if neg1 (val (la a b c d) < val (lc (lq d))) = 0 then ld a b c d else le a b c d))))), []) := by kernel_rfl
theorem least_low {a b c d : Int} (ha : R a) (hb : R b) (hc : R c) (hd : R d) (h : d < 1152921504606846976) : [a, b, c, d] = limbs (val [a, b, c, d] % ell) := by
 have e : val [a, b, c, d] % ell = val [a, b, c, d] := by
  rw [val4]; unfold R at *; unfold ell; omega
 rw [e, limbs_val];refine ⟨rfl, fun x hx => inU.mpr ?_⟩
 simp only [List.mem_cons, List.not_mem_nil, or_false] at hx;rcases hx with rfl | rfl | rfl | rfl <;> assumption
theorem val_lc {q : Int} (h : 0 <= q /\ q <= 15) : val (lc q) = q * 27742317777372353535851937790883648493 := by
 unfold lc lc1 lc2 um mulHi mulLo;rw [val4, wrapU];omega
theorem val_la {a b c d : Int} (ha : R a) (hb : R b) (hc : R c) (hd : R d) : val (la a b c d) = val [a, b, c, d] - 7237005577332262213973186563042994240829374041602535252466099000494570602496 * (d / 1152921504606846976) := by
 have e : band d 1152921504606846975 = d % 1152921504606846976 := band_mask hd 60 (by decide)
 unfold la;rw [val4, val4, e]; omega
theorem least_high {a b c d : Int} (ha : R a) (hb : R b) (hc : R c) (hd : R d) (h : ¬ d < 1152921504606846976) :
  low (val (if val (la a b c d) < val (lc (lq d)) then le a b c d else ld a b c d)) = val [a, b, c, d] % ell := by
 have eq : lq d = d / 1152921504606846976 := fdiv_pos d 60
 have hq : 0 <= d / 1152921504606846976 /\ d / 1152921504606846976 <= 15 := by unfold R at hd; omega
 have h1 := val_la ha hb hc hd
 have h2 := val_lc hq
 have hb : val [a, b, c, d] = a + 18446744073709551616 * b + 340282366920938463463374607431768211456 * c + 6277101735386680763835789423207666416102355444464034512896 * d := rfl
 unfold R at *;have h3 : 0 <= val (la a b c d) /\ val (la a b c d) < 7237005577332262213973186563042994240829374041602535252466099000494570602496 := by omega
 rw [eq];rw [<- eq] at h2;by_cases hlt : val (la a b c d) < val (lc (lq d))
 ·rw [<- eq, if_pos hlt];unfold le;have e3 : val (limbs (val (ld a b c d) + val tab0)) = val (la a b c d) - val (lc (lq d)) + ell := by
   rw [val_limbs', val_tab0];unfold ld;rw [val_limbs'];rw [h2, eq] at *;unfold ell;omega
  rw [e3];unfold low;rw [h2, eq] at *;rw [if_pos (by omega), h1]
  unfold ell;omega
 ·rw [<- eq, if_neg hlt];unfold ld;rw [val_limbs (by rw [h2, eq] at *; omega)]
  unfold low;rw [h2, eq] at *;rw [h1];split <;> unfold ell at * <;> omega
theorem ok_Least : EntryOk Tryz.prog G0 60 TLeast := by
 refine EntryOk.sub (bodyT_ok okC3 mx (un := allLoops) (fn := Tryz.f60) (c := cd Tryz.f60) (by kernel_rfl) (by kernel_rfl) (by kernel_rfl)) (fun vs hl r ok h => ?_)
 unfold TLeast at h;split at h
 ·rename_i xs;obtain rfl := val_ret h;obtain ⟨a, b, c, d, rfl, ha, hb, hc, hd⟩ := okL_get (show okL xs from ok.1.1)
  by_cases hlt : d < 1152921504606846976
  ·have hp := b_Least1 a b c d
   rw [deT hlt] at hp;rw [<- least_low ha hb hc hd hlt];exact Tree.path_val hp
  ·have hp := b_Least2 a b c d
   rw [deF hlt, neg1_or, neg1_if, least_high ha hb hc hd hlt] at hp;exact Tree.path_val hp
 ·cases h
noncomputable def C4 : Tab := C3.put 60 0 TLeast
theorem okC4 : SpecOk Tryz.prog C4 := okC3.put ok_Least
end Go.Sc
