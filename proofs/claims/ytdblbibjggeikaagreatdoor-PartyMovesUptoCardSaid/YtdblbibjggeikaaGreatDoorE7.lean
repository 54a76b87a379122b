/- The sum by tables of each term's multiples (Straus): its pieces. -/
import Derived.Test.YtdblbibjggeikaaGreatDoorE6
set_option linter.unusedSectionVars false
set_option linter.unusedVariables false
set_option linter.unusedSimpArgs false
namespace Go.Sc
open Go Go.SX Go.Proofs
variable [Level]
def dgOk (w i : Nat) (b : List Int) : Bool := decide ((0 <= (w : Int) /\ (w : Int) <= 12) /\ (0 <= (i : Int) /\ (i : Int) <= 300) /\ ∀ x ∈ b, 0 <= x /\ x <= 255)
def kL (ts : MoT) (k : Nat) : List Int := (ts.getD k TM.dflt).1
def pL (ts : MoT) (k : Nat) : List Int := (ts.getD k TM.dflt).2.1.1
abbrev TBL := List (List PL.den × Nat)
noncomputable def uqR (k : List Item) (s : St) : Tree Out := runK L6 Tryz.prog noLoops 400 k s
noncomputable def uqS (w : Int) (ts : MoT) (n : Nat) : St := ⟨enterT Tryz.f203 [.c (.int false .i64 w), .c (.ro TM ts n)], []⟩
noncomputable def uqHp (o : List Int) (l1 l2 : Bool) (x y : Int) (bs : List (List Int)) (X : TBL) : Heap := [.vals [.ws .u64 4 zL], .vals [.c (.int true .i64 0), .c (.int true .i64 0)], .vals [.ws .u64 4 o], .vals [.c (.int l1 .i64 x), .c (.int l2 .i64 y)], .arr B32 bs 0 [], .arr (.sl PL) X 0 []]
def uqSl (w : Int) (ts : MoT) (n : Nat) : List (Nat × SV) := [(0, one (.int false .i64 w)), (1, one (.ro TM ts n)), (4, pt 0), (5, pt 1), (6, one (.int true .i64 0)), (7, pt 2), (8, pt 3), (9, one (.sl 4 0 n)), (10, one (.sl 5 0 n))]
noncomputable def uqT (w : Int) (ts : MoT) (n : Nat) (i : Int) (l1 l2 : Bool) (x y : Int) (bs : List (List Int)) (X : TBL) : St := ⟨slotsOf 120 (uqSl w ts n ++ [(43, one (.ro TM ts n)), (44, one (.int false .i64 n)), (45, one (.int false .i64 i))]), uqHp zL l1 l2 x y bs X⟩
noncomputable def uqU (w : Int) (ts : MoT) (n : Nat) (i d : Int) (L : Nat) (l1 l2 : Bool) (x y : Int) (bs : List (List Int)) (X : TBL) (k p : List Int) (tb : List PL.den) : St :=
 ⟨slotsOf 120 (uqSl w ts n ++ [(11, one (.int false .i64 i)), (12, pt 6), (13, one (.sl 7 0 L)), (14, one (.int false .i64 d)), (43, one (.ro TM ts n)), (44, one (.int false .i64 n)), (45, one (.int false .i64 i))]), uqHp zL l1 l2 x y bs X ++ [.vals [.ws .u64 4 k, .ws .u64 4 p], .arr PL tb 0 []]⟩
noncomputable def uqV (w : Int) (ts : MoT) (n : Nat) (i : Int) (o : List Int) (l1 l2 : Bool) (x y : Int) (bs : List (List Int)) (X : TBL) : St := ⟨slotsOf 120 (uqSl w ts n ++ [(15, one (.int false .i64 i))]), uqHp o l1 l2 x y bs X⟩
noncomputable def uqW (w : Int) (ts : MoT) (n : Nat) (i j : Int) (o : List Int) (l1 l2 : Bool) (x y : Int) (bs : List (List Int)) (X : TBL) : St := ⟨slotsOf 120 (uqSl w ts n ++ [(15, one (.int false .i64 i)), (86, one (.int false .i64 w)), (87, one (.int false .i64 j))]), uqHp o l1 l2 x y bs X⟩
noncomputable def uqX (w : Int) (ts : MoT) (n : Nat) (i k : Int) (o : List Int) (l1 l2 : Bool) (x y : Int) (bs : List (List Int)) (X : TBL) : St := ⟨slotsOf 120 (uqSl w ts n ++ [(15, one (.int false .i64 i)), (94, one (.int false .i64 n)), (95, one (.int false .i64 k))]), uqHp o l1 l2 x y bs X⟩
noncomputable def uqK1 : List Item := leftT [true, false, false, false, true, true] (uqR [.code (cd Tryz.f203)] (uqS 0 [] 0))
noncomputable def uqK2 : List Item := leftT [true, true, true, true, true] (uqR uqK1 (uqT 0 [] 0 0 true true 0 0 [] []))
noncomputable def uqK3 : List Item := leftT [false, true] (uqR uqK1 (uqT 0 [] 0 0 true true 0 0 [] []))
noncomputable def uqK4 : List Item := leftT [true] (uqR uqK3 (uqV 0 [] 0 0 [] false false 0 0 [] []))
noncomputable def uqK5 : List Item := leftT [false] (uqR uqK4 (uqW 0 [] 0 0 0 [] true true 0 0 [] []))
theorem uq_a (w : Int) (ts : MoT) (n : Nat) : pieceT [0, 1, 4, 5, 6, 7, 8, 9, 10, 43, 44, 45] [45] (List.range 6) [true, false, false, false, true, true] (uqR [.code (cd Tryz.f203)] (uqS w ts n)) =
  some ([decide (w < 1) == false, decide (w > 8), decide ((n : Int) > 8192), ((n : Nat) : Int) == 0, decide (n <= 1048576), decide (0 <= (n : Int) /\ (n : Int) <= n /\ (n : Int) <= 281474976710656 /\ ((Tryz.prog.bytesOf 36 : Nat) : Int) * n <= 281474976710656)], uqK1, uqT w ts n (0 : Nat) true true 0 0 (encA ts n) (List.replicate n ([], 0))) := by kernel_rfl
section
variable (w : Int) (ts : MoT) (n i j k d L : Nat) (o p q : List Int) (l1 l2 : Bool) (x y : Int) (bs : List (List Int)) (X : TBL) (tb : List PL.den)
theorem uq_b : pieceT [0, 1, 4, 5, 6, 7, 8, 9, 10, 11, 12, 13, 14, 43, 44, 45] [14] (List.range 8) [true, true, true, true, true] (uqR uqK1 (uqT w ts n i l1 l2 x y bs X)) =
  some ([decide ((i : Int) < n), decide (0 <= (i : Int) /\ (i : Int) < n), decide (0 <= w), moB w (Tryz.prog.bytesOf 35 : Nat), decide ((0 : Int) <= 1 /\ (1 : Int) < (moL w : Nat))], uqK2,
   uqU w ts n i (2 : Nat) (moL w) l1 l2 x y bs X (kL ts i) (pL ts i) ((List.replicate (moL w) (mkP zL)).set 1 (mkP (pL ts i)))) := by kernel_rfl
theorem uq_c : pieceT [0, 1, 4, 5, 6, 7, 8, 9, 10, 11, 12, 13, 14, 43, 44, 45] [14] (List.range 8) [true, true, true] (uqR uqK2 (uqU w ts n i d L l1 l2 x y bs X p q tb)) =
  some ([decide ((d : Int) < L), decide (0 <= iw ((d : Int) - 1) /\ iw ((d : Int) - 1) < L), decide (0 <= (d : Int) /\ (d : Int) < L)], uqK2,
   uqU w ts n i (iw ((d : Int) + 1)) L false false (iw (x + 1)) y bs X p q (tb.set (0 + d) (mkP (limbs ((val (tb.getD (0 + (iw ((d : Int) - 1)).toNat) PL.dflt).1 + val q) % ell))))) := by kernel_rfl
theorem uq_d : pieceT [0, 1, 4, 5, 6, 7, 8, 9, 10, 43, 44, 45] [45] (List.range 6) [false, true] (uqR uqK2 (uqU w ts n i d L l1 l2 x y bs X p q tb)) =
  some ([decide ((d : Int) < L), decide (0 <= (i : Int) /\ (i : Int) < n)], uqK1, uqT w ts n (iw ((i : Int) + 1)) l1 l2 x y bs (X.set (0 + i) (tb, L))) := by kernel_rfl
theorem uq_e : pieceT [0, 1, 4, 5, 6, 7, 8, 9, 10, 15] [15] (List.range 6) [false, true] (uqR uqK1 (uqT w ts n i l1 l2 x y bs X)) =
  some ([decide ((i : Int) < n), decide (w ≠ 0)], uqK3, uqV w ts n (iw (Int.tdiv 255 w)) zL l1 l2 x y bs X) := by kernel_rfl
theorem uq_f (i : Int) : pieceT [0, 1, 4, 5, 6, 7, 8, 9, 10, 15, 86, 87] [87] (List.range 6) [true] (uqR uqK3 (uqV w ts n i o l1 l2 x y bs X)) =
  some ([decide (i >= 0)], uqK4, uqW w ts n i (0 : Nat) o l1 l2 x y bs X) := by kernel_rfl
theorem uq_g (i : Int) : pieceT [0, 1, 4, 5, 6, 7, 8, 9, 10, 15, 86, 87] [87] (List.range 6) [true] (uqR uqK4 (uqW w ts n i j o l1 l2 x y bs X)) =
  some ([decide ((j : Int) < w)], uqK4, uqW w ts n i (iw ((j : Int) + 1)) (limbs ((val o + val o) % ell)) false false x (iw (y + 1)) bs X) := by kernel_rfl
theorem uq_h (i : Int) : pieceT [0, 1, 4, 5, 6, 7, 8, 9, 10, 15, 94, 95] [95] (List.range 6) [false] (uqR uqK4 (uqW w ts n i j o l1 l2 x y bs X)) =
  some ([decide ((j : Int) < w)], uqK5, uqX w ts n i (0 : Nat) o l1 l2 x y bs X) := by kernel_rfl
theorem uq_i (w : Nat) : pieceT [0, 1, 4, 5, 6, 7, 8, 9, 10, 15, 94, 95] [95] (List.range 6) [true, true, true, true, true, true] (uqR uqK5 (uqX w ts n i k o l1 l2 x y bs X)) =
  some ([decide ((k : Int) < n), decide (0 <= (k : Int) /\ (k : Int) < n), dgOk w i (bs.getD (0 + k) z32), decide (dK bs w i (0 + k) > 0),
   decide (0 <= (k : Int) /\ (k : Int) < n), decide (0 <= dK bs w i (0 + k) /\ dK bs w i (0 + k) < ((X.getD (0 + k) ([], 0)).2 : Nat))], uqK5,
   uqX w ts n i (iw ((k : Int) + 1)) (limbs ((val o + val ((X.getD (0 + k) ([], 0)).1.getD (dK bs w i (0 + k)).toNat PL.dflt).1) % ell)) false false (iw (x + 1)) y bs X) := by kernel_rfl
theorem uq_j (w : Nat) : pieceT [0, 1, 4, 5, 6, 7, 8, 9, 10, 15, 94, 95] [95] (List.range 6) [true, true, true, false] (uqR uqK5 (uqX w ts n i k o l1 l2 x y bs X)) =
  some ([decide ((k : Int) < n), decide (0 <= (k : Int) /\ (k : Int) < n), dgOk w i (bs.getD (0 + k) z32), decide (dK bs w i (0 + k) > 0)], uqK5,
   uqX w ts n i (iw ((k : Int) + 1)) o l1 l2 x y bs X) := by kernel_rfl
theorem uq_k (i : Int) : pieceT [0, 1, 4, 5, 6, 7, 8, 9, 10, 15] [15] (List.range 6) [false] (uqR uqK5 (uqX w ts n i k o l1 l2 x y bs X)) =
  some ([decide ((k : Int) < n)], uqK3, uqV w ts n (iw (i - 1)) o l1 l2 x y bs X) := by kernel_rfl
theorem uq_z (i : Int) : endT Tryz.prog Tryz.f203 [] [false] (uqR uqK3 (uqV w ts n i o false false x y bs X)) = some ([decide (i >= 0)], .tup [ws o, .g [.c (.int false .i64 x), .c (.int false .i64 y)], .c (.int true .i64 0)], []) := by kernel_rfl
end
def tabE (p : List Int) (d : Nat) : PL.den := mkP (if d = 1 then p else limbs ((d : Int) * val p % ell))
def tabP (p : List Int) (L m : Nat) : List PL.den := (List.range L).map fun d => if d < m then tabE p d else mkP zL
theorem tabU0 (p : List Int) (L : Nat) : (List.replicate L (mkP zL)).set 1 (mkP p) = tabP p L 2 := by
 rw [<- map_range_const, map_range_set];refine List.map_congr_left fun d _ => ?_
 by_cases h1 : d = 1
 ·subst h1; rfl
 ·by_cases h0 : d = 0
  ·subst h0;rw [if_neg (by decide), if_pos (by decide)]
   unfold tabE;rw [if_neg (by decide), show ((0 : Nat) : Int) * val p % ell = 0 from by simp]
   rfl
  ·rw [if_neg h1, if_neg (by omega)]
theorem tabE_mod (p : List Int) (d : Nat) : val (tabE p d).1 % ell = d * val p % ell := by
 unfold tabE;rw [mkP_1];split
 ·rename_i h; subst h; simp
 ·rw [val_mod, Int.emod_emod_of_dvd _ (Int.dvd_refl _)]
theorem tab_get {p : List Int} {L m d : Nat} (h : d < L) (hm : d < m) : (tabP p L m).getD d PL.dflt = tabE p d := by
 rw [tabP, map_range_getD _ _ _ _ h, if_pos hm]
theorem tab_next {p : List Int} {L d : Nat} (h2 : 2 <= d) (h : d < L) : (tabP p L d).set d (mkP (limbs ((val ((tabP p L d).getD (d - 1) PL.dflt).1 + val p) % ell))) = tabP p L (d + 1) := by
 rw [tab_get (by omega) (by omega)]
 unfold tabP;rw [map_range_set];refine List.map_congr_left fun e _ => ?_
 have key : (val (tabE p (d - 1)).1 + val p) % ell = (d : Int) * val p % ell := by
  rw [Int.add_emod, tabE_mod, <- Int.add_emod]
  congr 1
  have : (d : Int) = ((d - 1 : Nat) : Int) + 1 := by omega
  rw [this, Int.add_mul, Int.one_mul]
 by_cases he : e = d
 ·subst he;rw [if_pos rfl, if_pos (by omega), key]
  unfold tabE;rw [if_neg (by omega)]
 ·rw [if_neg he];by_cases hl : e < d
  ·rw [if_pos hl, if_pos (by omega)]
  ·rw [if_neg hl, if_neg (by omega)]
def tabX (ts : MoT) (w n i : Nat) : TBL := (List.range n).map fun k => if k < i then (tabP (pL ts k) (2 ^ w) (2 ^ w), 2 ^ w) else ([], 0)
theorem tabX_0 (ts : MoT) (w n : Nat) : List.replicate n ([], 0) = tabX ts w n 0 := by
 rw [<- map_range_const];exact List.map_congr_left fun k _ => rfl
theorem tabX_next (ts : MoT) {w n i : Nat} : (tabX ts w n i).set i (tabP (pL ts i) (2 ^ w) (2 ^ w), 2 ^ w) = tabX ts w n (i + 1) := by
 unfold tabX;rw [map_range_set];refine List.map_congr_left fun e _ => ?_
 by_cases he : e = i
 ·subst he;rw [if_pos rfl, if_pos (by omega)]
 ·rw [if_neg he];by_cases hl : e < i
  ·rw [if_pos hl, if_pos (by omega)]
  ·rw [if_neg hl, if_neg (by omega)]
theorem tabX_get {ts : MoT} {w n k : Nat} (h : k < n) : (tabX ts w n n).getD k ([], 0) = (tabP (pL ts k) (2 ^ w) (2 ^ w), 2 ^ w) := by
 rw [tabX, map_range_getD _ _ _ _ h, if_pos h]
abbrev RU (k : List Item) (s : St) (X : Int) : Prop := Runs Tryz.prog L6 Tryz.f203 0 k s (.tup [ws (limbs (X % ell)), .g [.c .any, .c .any], .c (.int true .i64 0)]) []
theorem two_le_pow {w : Nat} (h : 1 <= w) : 2 <= 2 ^ w := Nat.le_trans (by decide) (Nat.pow_le_pow_right (n := 2) (by decide) h)
section
variable {w n i : Nat} {ts : MoT} {bs : List (List Int)} {X : TBL} {V y : Int}
theorem uq_tab (hw : 1 <= w /\ w <= 8) (hi : i < n) (hn : n <= 1048576) {x : Int} {l1 l2 : Bool} (hr : ∀ l1 l2 x, RU uqK1 (uqT w ts n (i + 1 : Nat) l1 l2 x y bs (X.set i (tabP (pL ts i) (2 ^ w) (2 ^ w), 2 ^ w))) V) : RU uqK1 (uqT w ts n i l1 l2 x y bs X) V := by
 have h2 := two_le_pow hw.1
 obtain ⟨hm1, hm2, hm3⟩ := moL_eq (show w <= 12 by omega)
 have hb := uq_b w ts n i l1 l2 x y bs X
 rw [show Tryz.prog.bytesOf 35 = 32 from by kernel_rfl, moB_eq (by omega) (by decide), hm2, tabU0, deT (show (i : Int) < n by omega), deT (show 0 <= (i : Int) /\ (i : Int) < n by omega), deT (show 0 <= (w : Int) by omega), deT (show (0 : Int) <= 1 /\ (1 : Int) < ((2 ^ w : Nat) : Int) by omega)] at hb
 refine Runs.piece okL6 mx hb rfl (by rfl) ?_
 refine loopG (st := fun m (a : Bool × Bool × Int) => uqU w ts n i ((m + 2 : Nat) : Int) (2 ^ w) a.1 a.2.1 a.2.2 y bs X (kL ts i) (pL ts i) (tabP (pL ts i) (2 ^ w) (m + 2))) (I := fun m a => True) (n := 2 ^ w - 2) (fun m a hm hI => ?_) (fun a hI => ?_) (2 ^ w - 2) 0 (l1, l2, x) (by omega) trivial
 ·obtain ⟨a1, a2, a3⟩ := a;refine ⟨(false, false, iw (a3 + 1)), trivial, fun hr' => ?_⟩
  have h := uq_c w ts n i (m + 2) (2 ^ w) (kL ts i) (pL ts i) a1 a2 a3 y bs X (tabP (pL ts i) (2 ^ w) (m + 2))
  have e1 : iw (((m + 2 : Nat) : Int) - 1) = ((m + 1 : Nat) : Int) := by unfold iw; rw [IntKind.wrap_i64]; omega
  rw [e1, iwk (by omega), deT (by omega), deT (by omega), deT (by omega), Nat.zero_add, Nat.zero_add, Int.toNat_natCast] at h
  have e2 := tab_next (p := pL ts i) (L := 2 ^ w) (d := m + 2) (by omega) (by omega)
  rw [show m + 2 - 1 = m + 1 from rfl] at e2
  rw [e2] at h;exact Runs.piece okL6 mx h rfl (by rfl) hr'
 ·obtain ⟨a1, a2, a3⟩ := a;have h := uq_d w ts n i (2 ^ w) (2 ^ w) (kL ts i) (pL ts i) a1 a2 a3 y bs X (tabP (pL ts i) (2 ^ w) (2 ^ w))
  rw [deF (by omega), deT (by omega), iwk (by omega), Nat.zero_add] at h
  show RU uqK2 (uqU w ts n i ((2 ^ w - 2 + 2 : Nat) : Int) (2 ^ w) a1 a2 a3 y bs X (kL ts i) (pL ts i) (tabP (pL ts i) (2 ^ w) (2 ^ w - 2 + 2))) V
  rw [show 2 ^ w - 2 + 2 = 2 ^ w by omega]
  exact Runs.piece okL6 mx h rfl (by rfl) (hr a1 a2 a3)
theorem uq_win (hw : 1 <= w /\ w <= 8) (hi : i <= 300) (hn : n <= 1048576) (A : Int) {x : Int} (hr : ∀ x, RU uqK3 (uqV w ts n (iw ((i : Int) - 1)) (limbs ((A + oneV (encA ts n) ts w i n) % ell)) false false x y (encA ts n) (tabX ts w n n)) V) :
  RU uqK5 (uqX w ts n i (0 : Nat) (limbs (A % ell)) false false x y (encA ts n) (tabX ts w n n)) V := by
 refine loopG (st := fun k (a : List Int × Int) => uqX w ts n i k a.1 false false a.2 y (encA ts n) (tabX ts w n n)) (I := fun k a => a.1 = limbs ((A + sumN (fun k => (dsN (encA ts n) w i k : Int) * pT ts k) k) % ell)) (n := n) (fun k a hk hI => ?_) (fun a hI => ?_) n 0 (limbs (A % ell), x) (by omega) (by show limbs (A % ell) = limbs ((A + 0) % ell); rw [Int.add_zero])
 ·obtain ⟨a1, a2⟩ := a;have hI : a1 = _ := hI
  subst hI;have hok : dgOk w i ((encA ts n).getD (0 + k) z32) = true := by
   rw [Nat.zero_add, encA_get hk];exact deT ⟨by omega, by omega, (encL_bd _).2⟩
  obtain ⟨d1, d2⟩ := dK_eq (bss := encA ts n) (w := w) (i := i) k;rcases Nat.eq_zero_or_pos (dsN (encA ts n) w i k) with hd | hd
  ·have h := uq_j ts n i k (limbs ((A + sumN (fun k => (dsN (encA ts n) w i k : Int) * pT ts k) k) % ell)) false false a2 y (encA ts n) (tabX ts w n n) w
   rw [hok, Nat.zero_add, d1, deT (by omega), deT (by omega), deF (by omega), iwk (by omega)] at h
   refine ⟨(_, a2), congrArg (fun z => limbs ((A + z) % ell)) ?_, fun hr' => Runs.piece okL6 mx h rfl (by rfl) hr'⟩
   show sumN (fun k => (dsN (encA ts n) w i k : Int) * pT ts k) k = sumN (fun k => (dsN (encA ts n) w i k : Int) * pT ts k) k + (dsN (encA ts n) w i k : Int) * pT ts k
   rw [hd];simp
  ·have h := uq_i ts n i k (limbs ((A + sumN (fun k => (dsN (encA ts n) w i k : Int) * pT ts k) k) % ell)) false false a2 y (encA ts n) (tabX ts w n n) w
   rw [hok, Nat.zero_add, d1, tabX_get hk, deT (by omega), deT (by omega), deT (by omega), deT (show 0 <= (dsN (encA ts n) w i k : Int) /\ (dsN (encA ts n) w i k : Int) < ((2 ^ w : Nat) : Int) by omega), iwk (by omega), Int.toNat_natCast, tab_get d2 d2, val_mod] at h
   refine ⟨(_, iw (a2 + 1)), ?_, fun hr' => Runs.piece okL6 mx h rfl (by rfl) hr'⟩
   show _ = limbs ((A + (_ + _)) % ell)
   rw [Int.add_emod, tabE_mod, Int.emod_emod_of_dvd _ (Int.dvd_refl _), <- Int.add_emod, Int.add_assoc];rfl
 ·obtain ⟨a1, a2⟩ := a;have hI : a1 = _ := hI
  subst hI;have h := uq_k w ts n n (limbs ((A + sumN (fun k => (dsN (encA ts n) w i k : Int) * pT ts k) n) % ell)) false false a2 y (encA ts n) (tabX ts w n n) i
  rw [deF (by omega)] at h
  exact Runs.piece okL6 mx h rfl (by rfl) (hr a2)
theorem uq_dbl (hw : 1 <= w /\ w <= 8) (hi : i <= 300) (B : Int) {x : Int} {l1 l2 : Bool} (hr : ∀ y, RU uqK5 (uqX w ts n i (0 : Nat) (limbs (2 ^ w * B % ell)) false false x y bs X) V) : RU uqK3 (uqV w ts n i (limbs (B % ell)) l1 l2 x y bs X) V := by
 have h := uq_f w ts n (limbs (B % ell)) l1 l2 x y bs X i
 rw [deT (by omega)] at h
 refine Runs.piece okL6 mx h rfl (by rfl) ?_
 refine loopG (st := fun j (a : List Int × Bool × Bool × Int) => uqW w ts n i j a.1 a.2.1 a.2.2.1 x a.2.2.2 bs X) (I := fun j a => a.1 = limbs (2 ^ j * B % ell) /\ (0 < j -> a.2.1 = false /\ a.2.2.1 = false)) (n := w) (fun j a hj hI => ?_) (fun a hI => ?_) w 0 (limbs (B % ell), l1, l2, y) (by omega) ⟨by rw [Int.pow_zero, Int.one_mul], fun h => absurd h (Nat.lt_irrefl 0)⟩
 ·obtain ⟨a1, a2, a3, a4⟩ := a;have hI : a1 = _ := hI.1
  subst hI;refine ⟨(limbs (2 ^ (j + 1) * B % ell), false, false, iw (a4 + 1)), ⟨rfl, fun _ => ⟨rfl, rfl⟩⟩, fun hr' => ?_⟩
  have h := uq_g w ts n j (limbs (2 ^ j * B % ell)) a2 a3 x a4 bs X i
  rw [val_mod, dbl_mod, iwk (by omega), deT (by omega), <- Int.mul_assoc, Int.mul_comm 2, <- Int.pow_succ] at h
  exact Runs.piece okL6 mx h rfl (by rfl) hr'
 ·obtain ⟨a1, a2, a3, a4⟩ := a;obtain ⟨hI, hf⟩ := hI;have hI : a1 = _ := hI
  subst hI;obtain ⟨g1, g2⟩ := hf (by omega)
  have g1 : a2 = false := g1
  have g2 : a3 = false := g2
  subst g1 g2;have h := uq_h w ts n w (limbs (2 ^ w * B % ell)) false false x a4 bs X i
  rw [deF (by omega)] at h
  exact Runs.piece okL6 mx h rfl (by rfl) (hr a4)
end
theorem uq_tabs {w n : Nat} {ts : MoT} {bs : List (List Int)} {V y : Int} (hw : 1 <= w /\ w <= 8) (hn : n <= 1048576) (hr : ∀ l1 l2 x, RU uqK1 (uqT w ts n n l1 l2 x y bs (tabX ts w n n)) V) : ∀ d i, i + d = n -> ∀ l1 l2 x, RU uqK1 (uqT w ts n i l1 l2 x y bs (tabX ts w n i)) V
 | 0, i, h, l1, l2, x => by
  obtain rfl : i = n := by omega
  exact hr l1 l2 x
 | d + 1, i, h, l1, l2, x => uq_tab hw (by omega) hn fun l1 l2 x => by
  rw [tabX_next];exact uq_tabs hw hn hr d (i + 1) (by omega) l1 l2 x
theorem uq_main {w n N : Nat} {ts : MoT} {V : Int} (hw : 1 <= w /\ w <= 8) (hN : N <= 255) (hn : n <= 1048576) (hr : ∀ x y, RU uqK3 (uqV w ts n (-1) (limbs (hornU (winS ts w n) w (N + 1) (N + 1) % ell)) false false x y (encA ts n) (tabX ts w n n)) V) :
  ∀ d m, m + d = N + 1 -> ∀ l1 l2 x y, (0 < m -> l1 = false /\ l2 = false) -> RU uqK3 (uqV w ts n ((N : Int) - m) (limbs (hornU (winS ts w n) w (N + 1) m % ell)) l1 l2 x y (encA ts n) (tabX ts w n n)) V
 | 0, m, h, l1, l2, x, y, hf => by
  obtain ⟨rfl, rfl⟩ := hf (by omega)
  obtain rfl : m = N + 1 := by omega
  rw [show (N : Int) - ((N + 1 : Nat) : Int) = -1 from by omega]
  exact hr x y
 | d + 1, m, h, l1, l2, x, y, hf => by
  rw [show (N : Int) - (m : Int) = ((N - m : Nat) : Int) from by omega]
  refine uq_dbl hw (by omega) _ fun y => uq_win hw (by omega) hn _ fun x => ?_
  have := uq_main hw hN hn hr d (m + 1) (by omega) false false x y (fun _ => ⟨rfl, rfl⟩)
  rw [show iw (((N - m : Nat) : Int) - 1) = (N : Int) - ((m + 1 : Nat) : Int) from by unfold iw; rw [IntKind.wrap_i64]; omega]
  exact this
theorem uq_runs {w n : Nat} {ts : MoT} (hw : 1 <= w /\ w <= 8) (hn : 1 <= n /\ n <= 8192) : RU [.code (cd Tryz.f203)] (uqS w ts n) (bwV w ts n) := by
 have ha := uq_a w ts n
 rw [tabX_0 ts w n, deF (show ¬ ((w : Int) < 1) by omega), deF (show ¬ ((w : Int) > 8) by omega), deF (show ¬ ((n : Int) > 8192) by omega), show (((n : Nat) : Int) == 0) = false from beq_false_of_ne (by omega), deT (show n <= 1048576 by omega), show Tryz.prog.bytesOf 36 = 24 from by kernel_rfl, deT (by omega)] at ha
 refine Runs.piece okL6 mx ha rfl (by rfl) ?_
 refine uq_tabs hw (by omega) (fun a1 a2 a3 => ?_) n 0 (by omega) true true 0
 ·have h := uq_e w ts n n a1 a2 a3 0 (encA ts n) (tabX ts w n n)
  have h255 : iw (Int.tdiv 255 w) = ((255 / w : Nat) : Int) := by
   have h1 : 255 / w <= 255 := Nat.div_le_self _ _
   rw [Int.tdiv_eq_ediv_of_nonneg (by omega), show ((255 : Int) / (w : Int)) = ((255 / w : Nat) : Int) from rfl]
   generalize 255 / w = q at h1
   unfold iw;rw [IntKind.wrap_i64];omega
  rw [deF (by omega), deT (show (w : Int) ≠ 0 by omega), h255] at h
  refine Runs.piece okL6 mx h rfl (by rfl) ?_
  have h1 : 255 / w <= 255 := Nat.div_le_self _ _
  unfold bwV
  generalize 255 / w = N at *
  have hm := uq_main (w := w) (n := n) (ts := ts) (N := N) (V := hornU (winS ts w n) w (N + 1) (N + 1)) hw (by omega) (by omega) (fun x y => ?_) (N + 1) 0 (by omega) a1 a2 a3 0 (fun h => absurd h (Nat.lt_irrefl 0))
  ·rw [show (N : Int) - ((0 : Nat) : Int) = (N : Int) from by omega] at hm
   exact hm
  ·skip
   refine Runs.weak (v := .tup [ws (limbs (hornU (winS ts w n) w (N + 1) (N + 1) % ell)), .g [.c (.int false .i64 x), .c (.int false .i64 y)], .c (.int true .i64 0)]) (fun E u h => ?_) (Runs.last okL6 mx (uq_z w ts n _ x y (encA ts n) (tabX ts w n n) _) (by rw [deF (by omega)]) (by rfl))
   obtain ⟨us, rfl, u0, r0, e0, h0, u1, r1, e1, ⟨cs, rfl, q1, q2, e2, ⟨v2, e3, h3⟩, q3, q4, e4, ⟨v4, e5, h5⟩, e6⟩, h1⟩ := h;exact ⟨us, rfl, u0, r0, e0, h0, _, r1, e1, ⟨cs, rfl, q1, q2, e2, ⟨v2, e3, by rw [h3.1]; trivial⟩, q3, q4, e4, ⟨v4, e5, by rw [h5.1]; trivial⟩, e6⟩, h1⟩
theorem sumN_congr {f g : Nat -> Int} : ∀ {n : Nat}, (∀ k, k < n -> f k = g k) -> sumN f n = sumN g n
 | 0, _ => rfl
 | n + 1, h => by
  show sumN f n + f n = sumN g n + g n
  rw [sumN_congr fun k hk => h k (by omega), h n (by omega)]
theorem sumN_front (f : Nat -> Int) : ∀ n, sumN f (n + 1) = f 0 + sumN (fun k => f (k + 1)) n
 | 0 => by show 0 + f 0 = f 0 + 0; omega
 | n + 1 => by
  show sumN f (n + 1) + f (n + 1) = f 0 + (sumN (fun k => f (k + 1)) n + f (n + 1))
  rw [sumN_front f n]; omega
theorem sumN_mul (c : Int) (f : Nat -> Int) : ∀ n, c * sumN f n = sumN (fun k => c * f k) n
 | 0 => by show c * 0 = 0; omega
 | n + 1 => by
  show c * (sumN f n + f n) = sumN (fun k => c * f k) n + c * f n
  rw [Int.mul_add, sumN_mul c f n]
theorem sumN_add (f g : Nat -> Int) : ∀ n, sumN (fun k => f k + g k) n = sumN f n + sumN g n
 | 0 => rfl
 | n + 1 => by
  show sumN (fun k => f k + g k) n + (f n + g n) = sumN f n + f n + (sumN g n + g n)
  rw [sumN_add f g n]; omega
theorem sumN_zero : ∀ n, sumN (fun _ => 0) n = 0
 | 0 => rfl
 | n + 1 => by show sumN _ n + 0 = 0; rw [sumN_zero n]; rfl
theorem sumN_mulr (c : Int) (f : Nat -> Int) (n : Nat) : sumN f n * c = sumN (fun k => f k * c) n := by
 rw [Int.mul_comm, sumN_mul];exact sumN_congr fun k _ => Int.mul_comm _ _
theorem sumN_swap (f : Nat -> Nat -> Int) (n : Nat) : ∀ m, sumN (fun t => sumN (fun k => f t k) n) m = sumN (fun k => sumN (fun t => f t k) m) n
 | 0 => (sumN_zero n).symm
 | m + 1 => by
  show sumN (fun t => sumN (fun k => f t k) n) m + sumN (fun k => f m k) n = sumN (fun k => sumN (fun t => f t k) m + f m k) n
  rw [sumN_swap f n m, <- sumN_add]
theorem sumN_mod {f g : Nat -> Int} : ∀ {n : Nat}, (∀ k, k < n -> f k % ell = g k % ell) -> sumN f n % ell = sumN g n % ell
 | 0, _ => rfl
 | n + 1, h => by
  show (sumN f n + f n) % ell = (sumN g n + g n) % ell
  rw [Int.add_emod, sumN_mod fun k hk => h k (by omega), h n (by omega), <- Int.add_emod]
theorem hornU_sum (s : Nat -> Int) (w N : Nat) : ∀ m, m <= N -> hornU s w N m = sumN (fun t => 2 ^ (w * t) * s (N - m + t)) m
 | 0, _ => rfl
 | m + 1, h => by
  rw [sumN_front]
  show 2 ^ w * hornU s w N m + s (N - 1 - m) = _
  rw [hornU_sum s w N m (by omega), sumN_mul, Nat.mul_zero, Int.pow_zero, Int.one_mul, Int.add_comm, show N - 1 - m = N - (m + 1) + 0 by omega]
  congr 1
  refine sumN_congr fun t ht => ?_
  rw [<- Int.mul_assoc, <- Int.pow_add, show w + w * t = w * (t + 1) by rw [Nat.mul_add, Nat.mul_one, Nat.add_comm], show N - m + t = N - (m + 1) + (t + 1) by omega]
theorem dgt_add (bs : List Int) (o m : Nat) : ∀ k, dgt bs o (m + k) = dgt bs o m + 2 ^ m * dgt bs (o + m) k
 | 0 => by show dgt bs o m = dgt bs o m + 2 ^ m * 0; omega
 | k + 1 => by
  show dgt bs o (m + k) + wbit bs (o + (m + k)) * 2 ^ (m + k) = dgt bs o m + 2 ^ m * (dgt bs (o + m) k + wbit bs (o + m + k) * 2 ^ k)
  rw [dgt_add bs o m k, Int.mul_add, Int.pow_add, <- Nat.add_assoc o m k]
  generalize wbit bs (o + m + k) = b
  rw [Int.mul_left_comm];omega
theorem dgt_wins (bs : List Int) (w : Nat) : ∀ N, sumN (fun t => 2 ^ (w * t) * dgt bs (w * t) w) N = dgt bs 0 (w * N)
 | 0 => rfl
 | N + 1 => by
  show sumN _ N + 2 ^ (w * N) * dgt bs (w * N) w = _
  rw [dgt_wins bs w N, Nat.mul_add, Nat.mul_one, dgt_add, Nat.zero_add]
theorem dgt_high (bs : List Int) (o : Nat) (ho : 256 <= o) : ∀ k, dgt bs o k = 0
 | 0 => rfl
 | k + 1 => by
  show dgt bs o k + wbit bs (o + k) * 2 ^ k = 0
  rw [dgt_high bs o ho k, show wbit bs (o + k) = 0 from if_neg (by omega)]
  omega
theorem byte_bits {b : Int} (h : 0 <= b /\ b <= 255) : b % 2 + b / 2 % 2 * 2 + b / 4 % 2 * 4 + b / 8 % 2 * 8 + b / 16 % 2 * 16 + b / 32 % 2 * 32 + b / 64 % 2 * 64 + b / 128 % 2 * 128 = b := by omega
theorem dgt_byte {bs : List Int} {q : Nat} (hq : q < 32) (hb : 0 <= bs.getD q 0 /\ bs.getD q 0 <= 255) : dgt bs (8 * q) 8 = bs.getD q 0 := by
 have hw : ∀ j, j < 8 -> wbit bs (8 * q + j) = bs.getD q 0 / 2 ^ j % 2 := fun j hj => by
  unfold wbit;rw [if_pos (by omega), show (8 * q + j) / 8 = q by omega, show (8 * q + j) % 8 = j by omega]
 simp only [dgt];rw [hw 0 (by decide), hw 1 (by decide), hw 2 (by decide), hw 3 (by decide), hw 4 (by decide), hw 5 (by decide), hw 6 (by decide), hw 7 (by decide)]
 have := byte_bits hb
 generalize bs.getD q 0 = b at *
 simp only [show (2 : Int) ^ 0 = 1 from rfl, show (2 : Int) ^ 1 = 2 from rfl, show (2 : Int) ^ 2 = 4 from rfl, show (2 : Int) ^ 3 = 8 from rfl, show (2 : Int) ^ 4 = 16 from rfl, show (2 : Int) ^ 5 = 32 from rfl, show (2 : Int) ^ 6 = 64 from rfl, show (2 : Int) ^ 7 = 128 from rfl, Int.mul_one, Int.ediv_one]
 omega
theorem dgt_dg {bs : List Int} (hb : ∀ x ∈ bs, 0 <= x /\ x <= 255) (hl : bs.length = 32) : ∀ q, q <= 32 -> dgt bs 0 (8 * q) = dg 256 (bs.take q)
 | 0, _ => rfl
 | q + 1, h => by
  have hB : 0 <= bs.getD q 0 /\ bs.getD q 0 <= 255 := by
   rw [List.getD_eq_getElem?_getD, List.getElem?_eq_getElem (by omega)]
   exact hb _ (List.getElem_mem _)
  rw [show 8 * (q + 1) = 8 * q + 8 by omega, dgt_add, Nat.zero_add, dgt_byte (by omega) hB, dgt_dg hb hl q (by omega), dg_take_succ 256 (by omega), show (256 : Int) = 2 ^ 8 from rfl, <- Int.pow_mul]
theorem fd (x : Int) (k : Nat) : x.fdiv (2 ^ k) = x / 2 ^ k := Int.fdiv_eq_ediv_of_nonneg _ (Int.le_of_lt (Int.pow_pos (by decide)))
theorem dg_encL {xs : List Int} (h : okL xs) : dg 256 (encL xs) = val xs := by
 obtain ⟨a, b, c, d, rfl, ha, hb, hc, hd⟩ := okL_get h;have e8 : ∀ x : Int, 0 <= x /\ x <= 18446744073709551615 -> x % 256 + 256 * (x / 256 % 256 + 256 * (x / 65536 % 256 + 256 * (x / 16777216 % 256 + 256 * (x / 4294967296 % 256 + 256 * (x / 1099511627776 % 256 + 256 * (x / 281474976710656 % 256 + 256 * (x / 72057594037927936 % 256))))))) = x := fun x hx => by omega
 have hA := e8 a ha
 have hB := e8 b hb
 have hC := e8 c hc
 have hD := e8 d hd
 have hl : ∀ x : Int, (List.range 8).map (fun j => IntKind.u8.wrap (x.fdiv (2 ^ (8 * j)))) = [x % 256, x / 256 % 256, x / 65536 % 256, x / 16777216 % 256, x / 4294967296 % 256, x / 1099511627776 % 256, x / 281474976710656 % 256, x / 72057594037927936 % 256] := fun x => by
  rw [show List.range 8 = [0, 1, 2, 3, 4, 5, 6, 7] from rfl]
  simp [fd, u8wrap]
 have hs : encL [a, b, c, d] = (List.range 8).map (fun j => IntKind.u8.wrap (a.fdiv (2 ^ (8 * j)))) ++ ((List.range 8).map (fun j => IntKind.u8.wrap (b.fdiv (2 ^ (8 * j)))) ++ ((List.range 8).map (fun j => IntKind.u8.wrap (c.fdiv (2 ^ (8 * j)))) ++ (List.range 8).map (fun j => IntKind.u8.wrap (d.fdiv (2 ^ (8 * j)))))) := rfl
 have h8 : ∀ x : Int, 0 <= x /\ x <= 18446744073709551615 -> dg 256 ((List.range 8).map (fun j => IntKind.u8.wrap (x.fdiv (2 ^ (8 * j))))) = x := fun x hx => by
  rw [hl];simp only [dg, Int.mul_zero, Int.add_zero];exact e8 x hx
 rw [hs, dg_append, dg_append, dg_append, h8 a ha, h8 b hb, h8 c hc, h8 d hd, val4];simp only [List.length_map, List.length_range, show (256 : Int) ^ 8 = 18446744073709551616 from rfl]
 omega
def kT (ts : MoT) (k : Nat) : Int := val (ts.getD k TM.dflt).1
theorem dgt_encK (ts : MoT) (k : Nat) {m : Nat} (hm : 256 <= m) : dgt (encK ts k) 0 m = kT ts k % ell := by
 have h1 := encL_bd (limbs (kT ts k % ell))
 rw [show m = 256 + (m - 256) by omega, dgt_add, dgt_high (encK ts k) (0 + 256) (by decide), Int.mul_zero, Int.add_zero]
 have h2 := dgt_dg (bs := encK ts k) h1.2 h1.1 32 (by decide)
 rw [show encK ts k = encL (limbs (kT ts k % ell)) from rfl] at *
 rw [show 8 * 32 = 256 from rfl] at h2
 rw [h2, List.take_of_length_le (by rw [h1.1]; decide), dg_encL (okL_limbs _), val_mod]
def mulS (ts : MoT) (n : Nat) : Int := sumN (fun k => kT ts k * pT ts k) n
theorem bwV_mul {w n : Nat} (ts : MoT) (hw : 1 <= w) : bwV w ts n % ell = mulS ts n % ell := by
 have hN : 256 <= w * (255 / w + 1) := by
  have := Nat.lt_mul_div_succ 255 hw
  omega
 have e : bwV w ts n = sumN (fun k => dgt (encK ts k) 0 (w * (255 / w + 1)) * pT ts k) n := by
  unfold bwV;rw [hornU_sum _ _ _ _ (Nat.le_refl _)]
  generalize 255 / w + 1 = N
  have h1 : sumN (fun t => 2 ^ (w * t) * winS ts w n (N - N + t)) N = sumN (fun t => sumN (fun k => 2 ^ (w * t) * dgt (encK ts k) (w * t) w * pT ts k) n) N := by
   refine sumN_congr fun t _ => ?_
   rw [Nat.sub_self, Nat.zero_add];unfold winS oneV;rw [sumN_mul];refine sumN_congr fun k hk => ?_
   rw [<- (dK_eq (bss := encA ts n) (w := w) (i := t) k).1, dK, encA_get hk, Int.mul_assoc]
  rw [h1, sumN_swap];refine sumN_congr fun k _ => ?_
  rw [<- sumN_mulr, dgt_wins]
 rw [e];refine sumN_mod fun k _ => ?_
 rw [dgt_encK ts k hN, Int.mul_emod, Int.emod_emod_of_dvd _ (Int.dvd_refl _), <- Int.mul_emod]
end Go.Sc
