/- The buckets' body behind the crowd: the windows' sums, all together. -/
import Derived.Test.YtdblbibjggeikaaGreatDoorE3
import Derived.Test.YtdblbibjggeikaaGreatDoorE4
set_option linter.unusedSectionVars false
set_option linter.unusedVariables false
set_option linter.unusedSimpArgs false
namespace Go.Sc
open Go Go.SX Go.Proofs
variable [Level]
noncomputable def zR (k : List Item) (s : St) : Tree Out := runK L6 Tryz.prog noLoops 400 k s
noncomputable def bwZ (w : Int) (N : Nat) (S : List PL.den) (x y : Int) : St :=
 ⟨slotsOf 59 [(2, pt 0), (4, pt 1), (5, pt 2), (6, pt 3), (7, pt 5), (9, one (.int false .i64 N)), (10, pt 7)],
  [.vals [.c (.int false .i64 w)], .vals [.ws .u64 4 zL], .vals [.c (.int false .i64 0), .c (.int false .i64 0)], .vals [.ws .u64 4 zL], mB x y, .vals [.c (.ptr 4 0 0 0 0 0)], .arr PL S 0 [], .vals [.c (.sl 6 0 N)]]⟩
noncomputable def zK : List Item := leftT [] (zR bwKf.tail (bwZ 0 0 [] 0 0))
noncomputable def zT (w i : Int) (N : Nat) (o : List Int) (S : List PL.den) (x y : Int) : St :=
 ⟨slotsOf 59 [(2, pt 0), (4, pt 1), (5, pt 2), (6, pt 3), (7, pt 5), (10, pt 7), (13, one (.int false .i64 i))],
  [.vals [.c (.int false .i64 w)], .vals [.ws .u64 4 zL], .vals [.c (.int false .i64 0), .c (.int false .i64 0)], .vals [.ws .u64 4 o], mB x y, .vals [.c (.ptr 4 0 0 0 0 0)], .arr PL S 0 [], .vals [.c (.sl 6 0 N)]]⟩
noncomputable def zK2 : List Item := leftT [true] (zR zK (zT 0 0 0 [] [] 0 0))
noncomputable def zU (w i j : Int) (N : Nat) (o : List Int) (S : List PL.den) (x y : Int) : St :=
 ⟨slotsOf 59 [(2, pt 0), (4, pt 1), (5, pt 2), (6, pt 3), (7, pt 5), (10, pt 7), (13, one (.int false .i64 i)), (42, one (.int false .i64 w)), (43, one (.int false .i64 j))],
  [.vals [.c (.int false .i64 w)], .vals [.ws .u64 4 zL], .vals [.c (.int false .i64 0), .c (.int false .i64 0)], .vals [.ws .u64 4 o], mB x y, .vals [.c (.ptr 4 0 0 0 0 0)], .arr PL S 0 [], .vals [.c (.sl 6 0 N)]]⟩
theorem z_a (w : Int) (N : Nat) (S : List PL.den) (x y : Int) : pieceT [2, 4, 5, 6, 7, 10, 13] [13] (List.range 8) [] (zR bwKf.tail (bwZ w N S x y)) = some ([], zK, zT w (iw ((N : Int) - 1)) N zL S x y) := by kernel_rfl
theorem z_b (w i : Int) (N : Nat) (o : List Int) (S : List PL.den) (x y : Int) : pieceT [2, 4, 5, 6, 7, 10, 13, 42, 43] [13, 43] (List.range 8) [true] (zR zK (zT w i N o S x y)) = some ([decide (i >= 0)], zK2, zU w i (0 : Nat) N o S x y) := by kernel_rfl
theorem z_c (w i : Int) (j N : Nat) (o : List Int) (S : List PL.den) (x y : Int) : pieceT [2, 4, 5, 6, 7, 10, 13, 42, 43] [13, 43] (List.range 8) [true] (zR zK2 (zU w i j N o S x y)) = some ([decide ((j : Int) < w)], zK2, zU w i (iw ((j : Int) + 1)) N (limbs ((val o + val o) % ell)) S x (iw (y + 1))) := by kernel_rfl
theorem z_d (w : Int) (i j N : Nat) (o : List Int) (S : List PL.den) (x y : Int) : pieceT [2, 4, 5, 6, 7, 10, 13] [13] (List.range 8) [false, true] (zR zK2 (zU w i j N o S x y)) =
  some ([decide ((j : Int) < w), decide (0 <= (i : Int) /\ (i : Int) < N)], zK, zT w (iw ((i : Int) - 1)) N (limbs ((val o + val (S.getD (0 + i) PL.dflt).1) % ell)) S (iw (x + 1)) y) := by kernel_rfl
theorem z_e (w i : Int) (N : Nat) (o : List Int) (S : List PL.den) (x y : Int) : endT Tryz.prog Tryz.f204 [] [false] (zR zK (zT w i N o S x y)) = some ([decide (i >= 0)], .tup [ws o, .g [.c (.int false .i64 x), .c (.int false .i64 y)]], []) := by kernel_rfl
theorem Runs.weak {P : Program} {S : Tab} {fn : Func} {m : Nat} {k : List Item} {s : St} {v v' : SV} {hl : Heap} (hw : ∀ E u, RelS E v u -> RelS E v' u) (h : Runs P S fn m k s v hl) : Runs P S fn m k s v' hl :=
 fun E0 E a x hm hs => (h E0 E a x hm hs).mono fun _ _ ⟨q1, q⟩ => ⟨q1, fun w₁ g => let ⟨u, q2, β', R', q3, q4, q5⟩ := q w₁ g; ⟨u, q2, β', R', q3, q4, hw _ _ q5⟩⟩
def hornU (s : Nat -> Int) (w N : Nat) : Nat -> Int
 | 0 => 0
 | m + 1 => 2 ^ w * hornU s w N m + s (N - 1 - m)
def sumR (s : Nat -> Int) (N : Nat) : List PL.den := (List.range N).map fun i => mkP (limbs (s i % ell))
theorem sumR_get {s : Nat -> Int} {N i : Nat} (h : i < N) : (sumR s N).getD i PL.dflt = mkP (limbs (s i % ell)) := map_range_getD (fun i => mkP (limbs (s i % ell))) N i _ h
abbrev RZ (k : List Item) (s : St) (X : Int) : Prop := Runs Tryz.prog L6 Tryz.f204 0 k s (.tup [ws (limbs (X % ell)), .g [.c .any, .c .any]]) []
theorem dbl_mod (x : Int) : (x % ell + x % ell) % ell = 2 * x % ell := by rw [<- Int.add_emod]; congr 1; omega
def upY (y : Int) : Nat -> Int
 | 0 => y
 | j + 1 => iw (upY y j + 1)
theorem z_in {w i N : Nat} {S : List PL.den} {x : Int} (hw : w <= 12) (hi : i < N) (hN : N <= 300) (o y X : Int) (hr : RZ zK (zT w (iw ((i : Int) - 1)) N (limbs ((2 ^ w * o % ell + val (S.getD i PL.dflt).1) % ell)) S (iw (x + 1)) (upY y w)) X) : RZ zK2 (zU w i (0 : Nat) N (limbs (o % ell)) S x y) X := by
 refine loopG (st := fun j (a : List Int × Int) => zU w i j N a.1 S x a.2) (I := fun j a => a = (limbs (2 ^ j * o % ell), upY y j)) (n := w) (fun j a hj hI => ?_) (fun a hI => ?_) w 0 (limbs (o % ell), y) (by omega) (by rw [Int.pow_zero, Int.one_mul]; rfl)
 ·subst hI;refine ⟨_, rfl, fun hr' => ?_⟩
  have h := z_c w i j N (limbs (2 ^ j * o % ell)) S x (upY y j)
  rw [val_mod, dbl_mod, iwk (by omega), deT (by omega)] at h
  rw [show (2 : Int) ^ (j + 1) * o = 2 * (2 ^ j * o) from by rw [Int.pow_succ, Int.mul_comm (2 ^ j) 2, Int.mul_assoc]] at hr'
  exact Runs.piece okL6 mx h rfl (by rfl) hr'
 ·have hI : a = _ := hI
  subst hI;have h := z_d w i w N (limbs (2 ^ w * o % ell)) S x (upY y w)
  rw [val_mod, Nat.zero_add, deF (by omega), deT (by omega)] at h
  exact Runs.piece okL6 mx h rfl (by rfl) hr
theorem z_runs {w N : Nat} {s : Nat -> Int} {x y : Int} (hw : w <= 12) (hN : 1 <= N /\ N <= 300) : RZ bwKf.tail (bwZ w N (sumR s N) x y) (hornU s w N N) := by
 have ha := z_a w N (sumR s N) x y
 rw [show iw ((N : Int) - 1) = (N : Int) - 1 - ((0 : Nat) : Int) from by unfold iw; rw [IntKind.wrap_i64]; omega] at ha
 refine Runs.piece okL6 mx ha rfl (by rfl) ?_
 refine loopG (st := fun m (a : List Int × Int × Int) => zT w ((N : Int) - 1 - m) N a.1 (sumR s N) a.2.1 a.2.2) (I := fun m a => a.1 = limbs (hornU s w N m % ell)) (n := N) (fun m a hm hI => ?_) (fun a hI => ?_) N 0 (zL, x, y) (by omega) (by rfl)
 ·obtain ⟨a1, a2, a3⟩ := a;have hI : a1 = _ := hI
  subst hI;have ei : (N : Int) - 1 - m = ((N - 1 - m : Nat) : Int) := by omega
  have h := z_b w ((N : Int) - 1 - m) N (limbs (hornU s w N m % ell)) (sumR s N) a2 a3
  rw [deT (by omega), ei] at h
  rw [ei];refine ⟨(limbs (hornU s w N (m + 1) % ell), iw (a2 + 1), upY a3 w), rfl, fun hr => Runs.piece okL6 mx h rfl (by rfl) ?_⟩
  refine z_in hw (by omega) hN.2 _ _ _ ?_
  rw [sumR_get (by omega), mkP_1, val_mod, <- Int.add_emod, show iw (((N - 1 - m : Nat) : Int) - 1) = (N : Int) - 1 - ((m + 1 : Nat) : Int) from by unfold iw; rw [IntKind.wrap_i64]; omega]
  exact hr
 ·obtain ⟨a1, a2, a3⟩ := a;have hI : a1 = _ := hI
  subst hI;refine Runs.weak (v := .tup [ws (limbs (hornU s w N N % ell)), .g [.c (.int false .i64 a2), .c (.int false .i64 a3)]]) (fun E u h => ?_) (Runs.last okL6 mx (z_e w _ N _ (sumR s N) a2 a3) (by rw [deF (by omega)]) (by rfl))
  obtain ⟨us, rfl, u0, r0, e0, h0, u1, r1, e1, ⟨cs, rfl, q1, q2, e2, ⟨v2, e3, h3⟩, q3, q4, e4, ⟨v4, e5, h5⟩, e6⟩, h1⟩ := h;exact ⟨us, rfl, u0, r0, e0, h0, _, r1, e1, ⟨cs, rfl, q1, q2, e2, ⟨v2, e3, by rw [h3.1]; trivial⟩, q3, q4, e4, ⟨v4, e5, by rw [h5.1]; trivial⟩, e6⟩, h1⟩
end Go.Sc
namespace Go.Sc
open Go Go.SX Go.Proofs Go.Conc
variable [Level]
theorem bw_h8 (s : St) : (runHold L3 Tryz.prog ops8 s).path [] = some ([], ⟨s.t, s.h ++ []⟩) := by kernel_rfl
theorem sz8 : (hdOps bwKa).size - 1 = 0 := by kernel_rfl
theorem bwN_eq {w : Nat} (hw : 1 <= w /\ w <= 12) : bwN w = ((255 / w + 1 : Nat) : Int) /\ 255 / w + 1 <= 300 /\ (bwN w).toNat = 255 / w + 1 := by
 have h1 : 255 / w <= 255 := Nat.div_le_self _ _
 have e : (255 : Int).tdiv w = ((255 / w : Nat) : Int) := by rw [Int.tdiv_eq_ediv_of_nonneg (by omega)]; rfl
 have e2 : bwN w = ((255 / w + 1 : Nat) : Int) := by
  unfold bwN;rw [e]
  generalize 255 / w = q at h1
  unfold iw;rw [IntKind.wrap_i64, IntKind.wrap_i64];omega
 refine ⟨e2, by omega, by rw [e2]; rfl⟩
theorem vals_of {G : GlobT} {E : Env} (h : RepH G E) {b : Nat} {fs : List FCell} (hb : getB E.H b = .vals fs) : ∃ k c e, E.β b = some k /\ E.w.heap[k]? = some (.cells c e (0, 0)) /\ RelFs E fs c.toList := by
 obtain ⟨k, c, e, fz, g1, g2, g3, g4⟩ := h.vals hb;have hz : fz = (0, 0) := g3.2
 subst hz;exact ⟨k, c, e, g1, g2, g4⟩
theorem arr_of {G : GlobT} {E : Env} (h : RepH G E) {b : Nat} {t : DTy} {xs : List t.den} {lo : Nat} {par : List Nat} (hb : getB E.H b = .arr t xs lo par) (hx : xs ≠ []) : ∃ k c e fz, E.β b = some k /\ E.w.heap[k]? = some (.cells c e fz) /\ NoFzT t fz c.size /\ SX.Rows t.size (RoT E t) xs 0 c := by
 have := h.blk b
 rw [hb] at this;rcases this.2.2 with ⟨_, h0⟩ | h1
 ·exact absurd h0 hx
 ·exact h1
theorem ptr_slot {G : GlobT} {E : Env} {s : St} {a : Act} {ds : List Deferred} (hs : Rp G E s a ds) {d i k : Nat} {fs : List FCell} (ht : getT s.t d = pt i) (hb : getB E.H i = .vals fs) (hk : E.β i = some k) : a.tmps.toList.getD d undef = .pointer (some ⟨k, 0, none⟩) := by
 have := relTs_get (u := d) hs.t
 rw [ht] at this;obtain ⟨_, hp⟩ : RelC E (.ptr i 0 0 0 0 0) _ := this;unfold RelPtr at hp;rw [hb] at hp;obtain ⟨⟨kb, h1, h2⟩, _⟩ := hp;rw [hk] at h1;obtain rfl := smI h1;exact h2
theorem one_cell {E : Env} {x : Cell} {c : Array Value} (h : RelFs E [.c x] c.toList) : ∃ v, c.toList = [v] /\ RelC E x v := by
 obtain ⟨v1, v2, e1, ⟨v, e2, h1⟩, e3⟩ := h;have e3 : v2 = [] := e3
 exact ⟨v, by rw [e1, e2, e3]; rfl, h1⟩
theorem own_ro {E E' : Env} {t : DTy} {xs : List t.den} {lo len k : Nat} {par : List Nat} {b : Nat} {v : Value} {c : Array Value} {e : TypeId} {fz fz' : Nat × Nat} (hf : t.rf = false) (ht : 0 < t.size) (hb : getB E.H b = .arr t xs lo par) (hk : E.β b = some k) (hc : E.w.heap[k]? = some (.cells c e fz)) (hr : SX.Rows t.size (RoT E t) xs 0 c)
  (hv : RelC E (.sl b 0 len) v) (hl : 0 < len) (hs : SubF E E') (hR : E'.R k) (hc' : E'.w.heap[k]? = some (.cells c e fz')) (hfit : xs.length * t.size <= c.size) : RoSl E' t.size (RoT E' t) xs len v := by
 obtain ⟨_, hv⟩ := hv;unfold RelSl at hv;rw [hb] at hv;obtain ⟨a, cap, h1, h2, h3, h4, h5⟩ := hv;rcases h5 with ⟨h5, h6⟩ | ⟨k', c', e', f', h5, h6, h7, h8⟩
 ·omega
 rw [hk] at h5;obtain rfl := smI h5;rw [hc] at h7;simp only [Option.some.injEq, Obj.cells.injEq] at h7;obtain ⟨rfl, _, _⟩ := h7;have hcap : xs.length <= cap := by
  have : xs.length * t.size <= cap * t.size := by rw [Nat.zero_add] at h8; rw [h8]; exact hfit
  exact Nat.le_of_mul_le_mul_right this ht
 refine ⟨a, cap, h1, by omega, hcap, h3, ht, fun _ => ⟨k, 0, c, e, fz', ?_, hR, hc', hr.mono fun a us h => RoT.subF hs _ _ _ hf h⟩⟩
 rcases h6 with h6 | h6
 ·omega
 ·rw [h6, Nat.zero_mul]
end Go.Sc
