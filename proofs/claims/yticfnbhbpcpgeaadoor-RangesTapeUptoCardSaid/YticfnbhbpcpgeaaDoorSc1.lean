/-
  Contracts of the program's scalars, part 1: sums, differences, choices.
-/
import Derived.Test.YticfnbhbpcpgeaaDoorAr
import Derived.Test.YticfnbhbpcpgeaaDoorProg
namespace Go.Sc
open Go Go.SX Go.Proofs

noncomputable def cd (f : Func) : Code := match f.body with | some c => c | none => .skip
theorem mx : Tryd.prog.follows .mixedOrders = true := by kernel_rfl

abbrev WS : DTy := .ws .u64 4
abbrev TB : DTy := .pair WS (.pair WS (.pair WS (.pair WS .unit)))
def tab0 : List Int := [6346243789798364141, 1503914060200516822, 0, 1152921504606846976]
def tab1 : List Int := [15486807595281847581, 14334777244411350896, 18446744073709551614, 1152921504606846975]
def tab2 : List Int := [11819153939886771969, 14991950615390032711, 14910419812499177061, 259310039853996605]
def tab3 : List Int := [6346243789798364139, 1503914060200516822, 0, 1152921504606846976]
def tbl : TB.den := (tab0, tab1, tab2, tab3, ())
def G0 : GlobT := fun g => if g = 0 then some ⟨TB, tbl⟩ else none
noncomputable def C0 : Tab := Tab.empty G0
theorem okC0 : SpecOk Tryd.prog C0 := SpecOk.empty

/-! ### the carries -/
def TAdd64 (vs : List V1) (hl : Heap) : Tree (SV × Heap) :=
  match vs, hl with
  | [.c (.int _ .u64 x), .c (.int _ .u64 y), .c (.int _ .u64 c)], [] => Tree.chk (decide (c ≤ 1)) (.ret (.tup [.c (.int false .u64 ((x + y + c) % 18446744073709551616)), .c (.int false .u64 ((x + y + c) / 18446744073709551616))], []))
  | _, _ => .fail
def TSub64 (vs : List V1) (hl : Heap) : Tree (SV × Heap) :=
  match vs, hl with
  | [.c (.int _ .u64 x), .c (.int _ .u64 y), .c (.int _ .u64 c)], [] => Tree.chk (decide (c ≤ 1)) (.ret (.tup [.c (.int false .u64 ((x - y - c) % 18446744073709551616)), .c (.int false .u64 (if x < y + c then 1 else 0))], []))
  | _, _ => .fail

theorem val_chk {α : Type} {b : Bool} {t : Tree α} {r : α} (h : (Tree.chk b t).val = some r) : b = true ∧ t.val = some r := by
  unfold Tree.chk Tree.val at h
  cases b with
  | true => exact ⟨rfl, h⟩
  | false => simp [Tree.val] at h
theorem val_ret {α : Type} {a r : α} (h : (Tree.ret a).val = some r) : a = r := Option.some.inj h

def sub64Entry : Array Value → Sem Value := fun args => do
  let (x, y, b) ← Extern.MathBitsCarry.three "Sub64" args
  pure (Extern.MathBitsCarry.pair ((x + Extern.MathBitsCarry.m64 - y - b) % Extern.MathBitsCarry.m64) (if x < y + b then 1 else 0))
theorem run_sub64 {P : Program} (x y c : Int) (hx : 0 ≤ x) (hx' : x < 18446744073709551616) (hy : 0 ≤ y) (hy' : y < 18446744073709551616) (hc0 : 0 ≤ c) (hc : c ≤ 1) (w : World) :
    (sub64Entry #[.int .u64 x, .int .u64 y, .int .u64 c]).run P w =
      .ok (.tuple #[.int .u64 ((x - y - c) % 18446744073709551616), .int .u64 (if x < y + c then 1 else 0)]) w := by
  have key : ∀ k : Nat, k ≤ 1 → (sub64Entry #[.int .u64 x, .int .u64 y, .int .u64 (k : Int)]).run P w =
      .ok (Extern.MathBitsCarry.pair ((x.toNat + Extern.MathBitsCarry.m64 - y.toNat - k) % Extern.MathBitsCarry.m64) (if x.toNat < y.toNat + k then 1 else 0)) w := by
    intro k hk
    have : k = 0 ∨ k = 1 := by omega
    rcases this with rfl | rfl <;> rfl
  obtain ⟨k, rfl⟩ := Int.eq_ofNat_of_zero_le hc0
  rw [key k (by omega)]
  obtain ⟨X, rfl⟩ := Int.eq_ofNat_of_zero_le hx
  obtain ⟨Y, rfl⟩ := Int.eq_ofNat_of_zero_le hy
  simp only [Extern.MathBitsCarry.pair, Extern.MathBitsCarry.m64, Int.toNat_natCast]
  have e1 : (((X + 2 ^ 64 - Y - k) % 2 ^ 64 : Nat) : Int) = ((X : Int) - Y - k) % 18446744073709551616 := by
    have : (2 : Nat) ^ 64 = 18446744073709551616 := by decide
    rw [this]; omega
  have e2 : ((if X < Y + k then 1 else 0 : Nat) : Int) = if (X : Int) < Y + k then 1 else 0 := by split <;> split <;> omega
  have e1' : Int.ofNat ((X + 2 ^ 64 - Y - k) % 2 ^ 64) = ((X : Int) - Y - k) % 18446744073709551616 := e1
  have e2' : Int.ofNat (if X < Y + k then 1 else 0) = if (X : Int) < Y + k then 1 else 0 := e2
  rw [e1', e2']

theorem ok_Add64 {G : GlobT} : EntryOk Tryd.prog G 55 TAdd64 := by
  refine EntryOk.extern (fn := Tryd.f55) (e := add64Entry) (by kernel_rfl) (by kernel_rfl) (by kernel_rfl) (by kernel_rfl) (by kernel_rfl) (fun vs hl r h => ?_) (fun vs r ok h E us w hv => ?_)
  · unfold TAdd64 at h
    split at h
    · obtain ⟨_, h⟩ := val_chk h
      obtain rfl := val_ret h
      exact ⟨rfl, rfl⟩
    · cases h
  · unfold TAdd64 at h
    split at h
    · rename_i _ x _ y _ c _
      obtain ⟨h1, h⟩ := val_chk h
      have h1 := of_decide_eq_true h1
      obtain h2 := val_ret h
      obtain ⟨rfl, -⟩ := Prod.mk.inj h2
      obtain ⟨u0, _, e0, ⟨rfl, _⟩, u1, _, e1, ⟨rfl, _⟩, u2, _, e2, ⟨rfl, _⟩, e3⟩ := hv
      subst e3 e2 e1
      obtain rfl : us = #[.int .u64 x, .int .u64 y, .int .u64 c] := by cases us; simp_all
      obtain ⟨k0, k1, k2, _⟩ := ok
      have k0 := inU.mp k0
      have k1 := inU.mp k1
      have k2 := inU.mp k2
      refine ⟨_, run_add64 x y c k0.1 k1.1 k2.1 h1 w, fun E' => ⟨_, rfl, _, _, rfl, ⟨rfl, inU.mpr (by omega)⟩, _, _, rfl, ⟨rfl, inU.mpr (by omega)⟩, rfl⟩⟩
    · cases h
theorem ok_Sub64 {G : GlobT} : EntryOk Tryd.prog G 79 TSub64 := by
  refine EntryOk.extern (fn := Tryd.f79) (e := sub64Entry) (by kernel_rfl) (by kernel_rfl) (by kernel_rfl) (by kernel_rfl) (by kernel_rfl) (fun vs hl r h => ?_) (fun vs r ok h E us w hv => ?_)
  · unfold TSub64 at h
    split at h
    · obtain ⟨_, h⟩ := val_chk h
      obtain rfl := val_ret h
      exact ⟨rfl, rfl⟩
    · cases h
  · unfold TSub64 at h
    split at h
    · rename_i _ x _ y _ c _
      obtain ⟨h1, h⟩ := val_chk h
      have h1 := of_decide_eq_true h1
      obtain h2 := val_ret h
      obtain ⟨rfl, -⟩ := Prod.mk.inj h2
      obtain ⟨u0, _, e0, ⟨rfl, _⟩, u1, _, e1, ⟨rfl, _⟩, u2, _, e2, ⟨rfl, _⟩, e3⟩ := hv
      subst e3 e2 e1
      obtain rfl : us = #[.int .u64 x, .int .u64 y, .int .u64 c] := by cases us; simp_all
      obtain ⟨k0, k1, k2, _⟩ := ok
      have k0 := inU.mp k0
      have k1 := inU.mp k1
      have k2 := inU.mp k2
      refine ⟨_, run_sub64 x y c k0.1 (by omega) k1.1 (by omega) k2.1 h1 w, fun E' => ⟨_, rfl, _, _, rfl, ⟨rfl, inU.mpr (by omega)⟩, _, _, rfl, ⟨rfl, inU.mpr (by split <;> decide)⟩, rfl⟩⟩
    · cases h
noncomputable def C1 : Tab := (C0.put 55 0 TAdd64).put 79 0 TSub64
theorem okC1 : SpecOk Tryd.prog C1 := (okC0.put ok_Add64).put ok_Sub64

/-! ### plus, minus, choose -/
def ws (xs : List Int) : V1 := .g [.ws .u64 4 xs]
def Tplus (vs : List V1) (hl : Heap) : Tree (SV × Heap) :=
  match vs, hl with
  | [.g [.ws .u64 4 xs], .g [.ws .u64 4 ys]], [] => .ret (.tup [ws (limbs (val xs + val ys)), .c (.int false .u64 ((val xs + val ys) / 115792089237316195423570985008687907853269984665640564039457584007913129639936))], [])
  | _, _ => .fail
def Tminus (vs : List V1) (hl : Heap) : Tree (SV × Heap) :=
  match vs, hl with
  | [.g [.ws .u64 4 xs], .g [.ws .u64 4 ys]], [] => .ret (.tup [ws (limbs (val xs - val ys)), .c (.int false .u64 (if val xs < val ys then 1 else 0))], [])
  | _, _ => .fail
end Go.Sc
