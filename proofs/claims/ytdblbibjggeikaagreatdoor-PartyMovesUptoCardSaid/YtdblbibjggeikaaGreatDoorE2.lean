/- Contract of a window's sum by buckets, where many count. -/
import Derived.Test.YtdblbibjggeikaaGreatDoorE1
set_option linter.unusedSectionVars false
set_option linter.unusedVariables false
set_option linter.unusedSimpArgs false
namespace Go.Sc
open Go Go.SX Go.Proofs
variable [Level]
abbrev MoT := List (TM.den)
noncomputable def moR (mt : Nat) (k : List Item) (s : St) : Tree Out := runK (K3 mt) Tryz.prog noLoops 400 k s
noncomputable def moS (mt : Nat) (w i : Int) (ts : MoT) (n : Nat) (bss : List (List Int)) (m : Nat) : St := ⟨enterT Tryz.f238 [.c (.vptr ⟨mt, 0, none⟩), .c (.int false .i64 w), .c (.int false .i64 i), .c (.ro TM ts n), .c (.ro B32 bss m)], []⟩
noncomputable def moK (mt : Nat) : List Item := leftT [true, true, true, true] (moR mt [.code (cd Tryz.f238)] (moS mt 0 0 [] 0 [] 0))
noncomputable def moT (mt : Nat) (w i : Int) (ts : MoT) (n : Nat) (bss : List (List Int)) (m L : Nat) (bk : List PL.den) (fu : List Int) (k : Int) : St :=
 ⟨slotsOf 84 [(0, one (.vptr ⟨mt, 0, none⟩)), (1, one (.int false .i64 w)), (2, one (.int false .i64 i)), (4, one (.ro B32 bss m)), (10, pt 0), (11, one (.sl 1 0 L)), (12, one (.sl 2 0 L)), (26, one (.ro TM ts n)), (27, one (.int false .i64 n)), (28, one (.int false .i64 k))],
  [.vals [.ws .u64 4 [0, 0, 0, 0]], .arr PL bk 0 [], .arr (.int .i64) fu 0 []]⟩
noncomputable def moK2 (mt : Nat) : List Item := leftT [false] (moR mt (moK mt) (moT mt 0 0 [] 0 [] 0 0 [] [] 0))
noncomputable def moU (mt L : Nat) (bk : List PL.den) (fu : List Int) (ru su : List Int) (b : Bool) (d : Int) : St :=
 ⟨slotsOf 84 [(0, one (.vptr ⟨mt, 0, none⟩)), (10, pt 0), (11, one (.sl 1 0 L)), (12, one (.sl 2 0 L)), (16, pt 3), (17, pt 4), (18, one (.bool false b)), (19, one (.int false .i64 d))],
  [.vals [.ws .u64 4 [0, 0, 0, 0]], .arr PL bk 0 [], .arr (.int .i64) fu 0 [], .vals [.ws .u64 4 ru], .vals [.ws .u64 4 su]]⟩
def mkP (x : List Int) : PL.den := (x, ())
def z32 : List Int := List.replicate 32 0
def moL (w : Int) : Nat := (iw (1 * 2 ^ (min w.toNat 64))).toNat
def moB (w : Int) (e : Int) : Bool := decide (0 <= iw (1 * 2 ^ (min w.toNat 64)) /\ iw (1 * 2 ^ (min w.toNat 64)) <= iw (1 * 2 ^ (min w.toNat 64)) /\ iw (1 * 2 ^ (min w.toNat 64)) <= 281474976710656 /\ e * iw (1 * 2 ^ (min w.toNat 64)) <= 281474976710656)
def pT (ts : MoT) (k : Nat) : Int := val (ts.getD k TM.dflt).2.1.1
def dK (bss : List (List Int)) (w i k : Nat) : Int := dgt (bss.getD k z32) (w * i) w
theorem mo_a (mt : Nat) (w i : Int) (ts : MoT) (n : Nat) (bss : List (List Int)) (m : Nat) : pieceT [0, 1, 2, 4, 10, 11, 12, 26, 27, 28] [28] [0, 1, 2] [true, true, true, true] (moR mt [.code (cd Tryz.f238)] (moS mt w i ts n bss m)) =
  some ([decide (0 <= w), moB w (Tryz.prog.bytesOf 35 : Nat), decide (0 <= w), moB w (Tryz.prog.bytesOf 3 : Nat)], moK mt, moT mt w i ts n bss m (moL w) (List.replicate (moL w) (mkP [0, 0, 0, 0])) (List.replicate (moL w) 0) (0 : Nat)) := by kernel_rfl
theorem mo_b (mt w i : Nat) (ts : MoT) (n : Nat) (bss : List (List Int)) (m L : Nat) (bk : List PL.den) (fu : List Int) (k : Nat) : pieceT [0, 1, 2, 4, 10, 11, 12, 26, 27, 28] [28] [0, 1, 2] [true, true, true, true, false] (moR mt (moK mt) (moT mt w i ts n bss m L bk fu k)) =
  some ([decide ((k : Int) < n), decide (0 <= (k : Int) /\ (k : Int) < n), decide (0 <= (k : Int) /\ (k : Int) < m), decide ((0 <= (w : Int) /\ (w : Int) <= 12) /\ (0 <= (i : Int) /\ (i : Int) <= 300) /\ ∀ x ∈ bss.getD k z32, 0 <= x /\ x <= 255), decide (dK bss w i k > 0)], moK mt, moT mt w i ts n bss m L bk fu (iw ((k : Int) + 1))) := by kernel_rfl
theorem mo_c (mt w i : Nat) (ts : MoT) (n : Nat) (bss : List (List Int)) (m L : Nat) (bk : List PL.den) (fu : List Int) (k : Nat) : pieceT [0, 1, 2, 4, 10, 11, 12, 26, 27, 28] [28] [0, 1, 2] [true, true, true, true, true, true, true, true, true, true] (moR mt (moK mt) (moT mt w i ts n bss m L bk fu k)) =
  some ([decide ((k : Int) < n), decide (0 <= (k : Int) /\ (k : Int) < n), decide (0 <= (k : Int) /\ (k : Int) < m), decide ((0 <= (w : Int) /\ (w : Int) <= 12) /\ (0 <= (i : Int) /\ (i : Int) <= 300) /\ ∀ x ∈ bss.getD k z32, 0 <= x /\ x <= 255), decide (dK bss w i k > 0),
   decide (0 <= dK bss w i k /\ dK bss w i k < L), decide ((⟨mt, 0, none⟩ : Addr) = ⟨mt, 0, none⟩), decide (0 <= dK bss w i k /\ dK bss w i k < L), decide (0 <= dK bss w i k /\ dK bss w i k < L), decide (0 <= dK bss w i k /\ dK bss w i k < L)], moK mt,
   moT mt w i ts n bss m L (bk.set (0 + (dK bss w i k).toNat) (mkP (limbs ((val (bk.getD (0 + (dK bss w i k).toNat) PL.dflt).1 + pT ts k) % ell)))) (fu.set (0 + (dK bss w i k).toNat) (iw (fu.getD (0 + (dK bss w i k).toNat) 0 + 1))) (iw ((k : Int) + 1))) := by kernel_rfl
theorem mo_d (mt w i : Nat) (ts : MoT) (n : Nat) (bss : List (List Int)) (m L : Nat) (bk : List PL.den) (fu : List Int) (k : Nat) : pieceT [0, 10, 11, 12, 16, 17, 18, 19] [18, 19] [0, 1, 2, 3, 4] [false] (moR mt (moK mt) (moT mt w i ts n bss m L bk fu k)) =
  some ([decide ((k : Int) < n)], moK2 mt, moU mt L bk fu [0, 0, 0, 0] [0, 0, 0, 0] false (iw ((L : Int) - 1))) := by kernel_rfl
theorem mo_e (mt L : Nat) (bk : List PL.den) (fu : List Int) (ru su : List Int) (b : Bool) (d : Nat) : pieceT [0, 10, 11, 12, 16, 17, 18, 19] [18, 19] [0, 1, 2, 3, 4] [true, true, false, false] (moR mt (moK2 mt) (moU mt L bk fu ru su b d)) =
  some ([decide ((d : Int) > 0), decide (0 <= (d : Int) /\ (d : Int) < L), decide (fu.getD (0 + d) 0 > 0), b], moK2 mt, moU mt L bk fu ru su b (iw ((d : Int) - 1))) := by kernel_rfl
theorem mo_f (mt L : Nat) (bk : List PL.den) (fu : List Int) (ru su : List Int) (b : Bool) (d : Nat) : pieceT [0, 10, 11, 12, 16, 17, 18, 19] [18, 19] [0, 1, 2, 3, 4] [true, true, false, true, true] (moR mt (moK2 mt) (moU mt L bk fu ru su b d)) =
  some ([decide ((d : Int) > 0), decide (0 <= (d : Int) /\ (d : Int) < L), decide (fu.getD (0 + d) 0 > 0), b, decide ((⟨mt, 0, none⟩ : Addr) = ⟨mt, 0, none⟩)], moK2 mt, moU mt L bk fu ru (limbs ((val su + val ru) % ell)) b (iw ((d : Int) - 1))) := by kernel_rfl
theorem mo_g (mt L : Nat) (bk : List PL.den) (fu : List Int) (ru su : List Int) (b : Bool) (d : Nat) : pieceT [0, 10, 11, 12, 16, 17, 18, 19] [18, 19] [0, 1, 2, 3, 4] [true, true, true, true, true, true] (moR mt (moK2 mt) (moU mt L bk fu ru su b d)) =
  some ([decide ((d : Int) > 0), decide (0 <= (d : Int) /\ (d : Int) < L), decide (fu.getD (0 + d) 0 > 0), decide (0 <= (d : Int) /\ (d : Int) < L), decide ((⟨mt, 0, none⟩ : Addr) = ⟨mt, 0, none⟩), decide ((⟨mt, 0, none⟩ : Addr) = ⟨mt, 0, none⟩)], moK2 mt,
   moU mt L bk fu (limbs ((val ru + val (bk.getD (0 + d) PL.dflt).1) % ell)) (limbs ((val su + val (limbs ((val ru + val (bk.getD (0 + d) PL.dflt).1) % ell))) % ell)) true (iw ((d : Int) - 1))) := by kernel_rfl
theorem mo_h (mt L : Nat) (bk : List PL.den) (fu : List Int) (ru su : List Int) (b : Bool) (d : Nat) : endT Tryz.prog Tryz.f238 [] [false] (moR mt (moK2 mt) (moU mt L bk fu ru su b d)) =
  some ([decide ((d : Int) > 0)], .one (ws su), []) := by kernel_rfl
theorem moL_eq {w : Nat} (hw : w <= 12) : iw (1 * 2 ^ (min (w : Int).toNat 64)) = ((2 ^ w : Nat) : Int) /\ moL w = 2 ^ w /\ (2 : Nat) ^ w <= 4096 := by
 have hp : (2 : Nat) ^ w <= 4096 := Nat.pow_le_pow_right (n := 2) (by decide) hw
 have e : iw (1 * 2 ^ (min (w : Int).toNat 64)) = ((2 ^ w : Nat) : Int) := by
  rw [Int.toNat_natCast, Nat.min_eq_left (by omega), Int.one_mul, show (2 : Int) ^ w = ((2 ^ w : Nat) : Int) from by simp]
  generalize 2 ^ w = q at hp ⊢
  unfold iw; rw [IntKind.wrap_i64]; omega
 refine ⟨e, ?_, hp⟩
 unfold moL;rw [e, Int.toNat_natCast]
theorem moB_eq {w : Nat} (hw : w <= 12) {e : Nat} (he : e <= 1000) : moB w e = true := by
 obtain ⟨h1, _, h3⟩ := moL_eq hw;unfold moB;rw [h1];have : e * 2 ^ w <= 1000 * 4096 := Nat.mul_le_mul he h3
 generalize 2 ^ w = q at *
 exact deT ⟨by omega, Int.le_refl _, by omega, by rw [<- Int.natCast_mul]; omega⟩
theorem map_range_const {α : Type} (n : Nat) (v : α) : ((List.range n).map fun _ => v) = List.replicate n v := by
 rw [List.map_const', List.length_range]
section
variable (bss : List (List Int)) (ts : MoT) (w i : Nat)
def dsN (k : Nat) : Nat := (dK bss w i k).toNat
def moBK (L k : Nat) : List PL.den := (List.range L).map fun d => mkP (limbs (bkS (dsN bss w i) (pT ts) d k % ell))
def moFU (L k : Nat) : List Int := (List.range L).map fun d => (bkF (dsN bss w i) d k : Int)
end
variable {bss : List (List Int)} {ts : MoT} {w i mt : Nat}
theorem dK_eq (k : Nat) : dK bss w i k = (dsN bss w i k : Int) /\ dsN bss w i k < 2 ^ w := by
 obtain ⟨h1, h2⟩ := dgt_le (bss.getD k z32) (w * i) w;have e : dK bss w i k = (dsN bss w i k : Int) := (Int.toNat_of_nonneg (show 0 <= dK bss w i k from h1)).symm
 refine ⟨e, ?_⟩
 have h2 : dK bss w i k < 2 ^ w := h2
 rw [e, show (2 : Int) ^ w = ((2 ^ w : Nat) : Int) from by simp] at h2
 omega
theorem moBK_get {L k d : Nat} (h : d < L) : (moBK bss ts w i L k).getD d PL.dflt = mkP (limbs (bkS (dsN bss w i) (pT ts) d k % ell)) := map_range_getD (fun d => mkP (limbs (bkS (dsN bss w i) (pT ts) d k % ell))) L d _ h
theorem mkP_1 (x : List Int) : (mkP x).1 = x := rfl
theorem moBK_next {L k : Nat} (h : 0 < dsN bss w i k) (hL : dsN bss w i k < L) : (moBK bss ts w i L k).set (dsN bss w i k) (mkP (limbs ((val ((moBK bss ts w i L k).getD (dsN bss w i k) PL.dflt).1 + pT ts k) % ell))) = moBK bss ts w i L (k + 1) := by
 rw [moBK_get hL, mkP_1, val_mod, mod_add2];refine (map_range_set (fun d => mkP (limbs (bkS (dsN bss w i) (pT ts) d k % ell))) L _ _).trans ?_
 refine List.map_congr_left fun d _ => ?_
 simp only [bkS];by_cases hd : d = dsN bss w i k
 ·subst hd; rw [if_pos rfl, if_pos ⟨rfl, h⟩]
 ·rw [if_neg hd, if_neg (fun q => hd q.1.symm), Int.add_zero]
theorem moFU_next {L k : Nat} (h : 0 < dsN bss w i k) (hL : dsN bss w i k < L) (hk : k < 1099511627776) : (moFU bss w i L k).set (dsN bss w i k) (iw ((moFU bss w i L k).getD (dsN bss w i k) 0 + 1)) = moFU bss w i L (k + 1) := by
 unfold moFU;have hb := bkF_le (ds := dsN bss w i) (d := dsN bss w i k) (k := k)
 rw [map_range_getD _ _ _ _ hL, iwk (by omega), map_range_set]
 refine List.map_congr_left fun d _ => ?_
 simp only [bkF];by_cases hd : d = dsN bss w i k
 ·subst hd; rw [if_pos rfl, if_pos ⟨rfl, h⟩]
 ·rw [if_neg hd, if_neg (fun q => hd q.1.symm), Nat.add_zero]
theorem mo_same {L k : Nat} (h : dsN bss w i k = 0) : moBK bss ts w i L (k + 1) = moBK bss ts w i L k /\ moFU bss w i L (k + 1) = moFU bss w i L k := by
 constructor
 ·unfold moBK;refine List.map_congr_left fun d _ => ?_
  simp only [bkS];rw [if_neg (by omega), Int.add_zero]
 ·unfold moFU;refine List.map_congr_left fun d _ => ?_
  simp only [bkF];rw [if_neg (by omega), Nat.add_zero]
def oneV (bss : List (List Int)) (ts : MoT) (w i n : Nat) : Int := sumN (fun k => (dsN bss w i k : Int) * pT ts k) n
abbrev RMo (mt : Nat) (k : List Item) (s : St) (x : Int) : Prop := Runs Tryz.prog (K3 mt) Tryz.f238 0 k s (.one (ws (limbs (x % ell)))) []
theorem mo_down (hv : VolAt mt) {n : Nat} (hL : 2 ^ w <= 4096) (hL0 : 0 < 2 ^ w) :
  RMo mt (moK2 mt) (moU mt (2 ^ w) (moBK bss ts w i (2 ^ w) n) (moFU bss w i (2 ^ w) n) [0, 0, 0, 0] [0, 0, 0, 0] false ((2 ^ w - 1 : Nat) : Int)) (oneV bss ts w i n) := by
 have hfin : auX (fun d => bkS (dsN bss w i) (pT ts) d n) (2 ^ w) (2 ^ w - 1) = oneV bss ts w i n := auX_all fun j _ => (dK_eq j).2
 rw [<- hfin]
 generalize hLe : 2 ^ w = L at *
 let S : Nat -> Int := fun d => bkS (dsN bss w i) (pT ts) d n
 let F : Nat -> Nat := fun d => bkF (dsN bss w i) d n
 have hSF : ∀ d, F d = 0 -> S d = 0 := fun d h => bkS_none h
 have hB : ∀ d, d < L -> ((moBK bss ts w i L n).getD (0 + d) PL.dflt).1 = limbs (S d % ell) := fun d hd => by rw [Nat.zero_add, moBK_get hd, mkP_1]
 have hF : ∀ d, d < L -> (moFU bss w i L n).getD (0 + d) 0 = (F d : Int) := fun d hd => by rw [Nat.zero_add]; unfold moFU; rw [map_range_getD _ _ _ _ hd]
 refine loopG (st := fun m (a : List Int × List Int × Bool) => moU mt L (moBK bss ts w i L n) (moFU bss w i L n) a.1 a.2.1 a.2.2 ((L - 1 - m : Nat) : Int)) (I := fun m a => a = (limbs (ruX S L m % ell), limbs (auX S L m % ell), guX F L m)) (n := L - 1) (fun m a hm hI => ?_) (fun a hI => ?_) (L - 1) 0 ([0, 0, 0, 0], [0, 0, 0, 0], false) (by omega) (by rfl)
 ·subst hI;refine ⟨_, rfl, fun hr => ?_⟩
  have hd : L - 1 - m < L := by omega
  have hdp : 0 < L - 1 - m := by omega
  have hw1 : iw (((L - 1 - m : Nat) : Int) - 1) = ((L - 1 - (m + 1) : Nat) : Int) := by unfold iw; rw [IntKind.wrap_i64]; omega
  have c1 : decide (((L - 1 - m : Nat) : Int) > 0) = true := deT (by omega)
  have c2 : decide (0 <= ((L - 1 - m : Nat) : Int) /\ ((L - 1 - m : Nat) : Int) < L) = true := deT (by omega)
  by_cases hf : 0 < F (L - 1 - m)
  ·have h := mo_g mt L (moBK bss ts w i L n) (moFU bss w i L n) (limbs (ruX S L m % ell)) (limbs (auX S L m % ell)) (guX F L m) (L - 1 - m)
   rw [hw1, hF _ hd, hB _ hd, val_mod, val_mod, val_mod, <- Int.add_emod, val_mod, <- Int.add_emod, c1, c2, deT (show ((F (L - 1 - m) : Nat) : Int) > 0 by omega), deT rfl] at h
   have e : guX F L (m + 1) = true := by simp [guX, hf]
   simp only [e] at hr;exact Runs.piece (okK3 hv) mx h rfl (by rfl) hr
  ·have hS0 := hSF _ (show F (L - 1 - m) = 0 by omega)
   have er : ruX S L (m + 1) = ruX S L m := by simp only [ruX]; rw [hS0, Int.add_zero]
   have eg : guX F L (m + 1) = guX F L m := by simp [guX, hf]
   cases hg : guX F L m with
   | false =>
    obtain ⟨z1, z2⟩ := guX_no hSF hg;have ea : auX S L (m + 1) = auX S L m := by simp only [auX]; rw [er, z1, Int.add_zero]
    have h := mo_e mt L (moBK bss ts w i L n) (moFU bss w i L n) (limbs (ruX S L m % ell)) (limbs (auX S L m % ell)) false (L - 1 - m)
    rw [hw1, hF _ hd, c1, c2, deF (show ¬ ((F (L - 1 - m) : Nat) : Int) > 0 by omega)] at h
    simp only [er, ea, eg, hg] at hr;exact Runs.piece (okK3 hv) mx h rfl (by rfl) hr
   | true =>
    have ea : auX S L (m + 1) = auX S L m + ruX S L m := by simp only [auX]; rw [er]
    have h := mo_f mt L (moBK bss ts w i L n) (moFU bss w i L n) (limbs (ruX S L m % ell)) (limbs (auX S L m % ell)) true (L - 1 - m)
    rw [hw1, hF _ hd, val_mod, val_mod, <- Int.add_emod, c1, c2, deF (show ¬ ((F (L - 1 - m) : Nat) : Int) > 0 by omega), deT rfl] at h
    simp only [er, ea, eg, hg] at hr;exact Runs.piece (okK3 hv) mx h rfl (by rfl) hr
 ·have hI : a = _ := hI
  subst hI;refine Runs.last (okK3 hv) mx (mo_h mt L (moBK bss ts w i L n) (moFU bss w i L n) (limbs (ruX S L (L - 1) % ell)) (limbs (auX S L (L - 1) % ell)) (guX F L (L - 1)) (L - 1 - (L - 1))) (by rw [deF (by omega)]) (by rfl)
theorem mo_runs (hv : VolAt mt) {n m : Nat} (hw : 1 <= w /\ w <= 12) (hi : i <= 300) (hn : n <= m) (hm : m = bss.length) (hn1 : n <= 1048576) (hb : ∀ bs ∈ bss, ∀ x ∈ bs, 0 <= x /\ x <= 255) :
  RMo mt [.code (cd Tryz.f238)] (moS mt w i ts n bss m) (oneV bss ts w i n) := by
 obtain ⟨h1, h2, h3⟩ := moL_eq hw.2;have hL0 : 0 < 2 ^ w := Nat.pow_pos (by decide)
 have ha := mo_a mt w i ts n bss m
 rw [moB_eq hw.2 (show Tryz.prog.bytesOf 35 <= 1000 from by rw [show Tryz.prog.bytesOf 35 = 32 from by kernel_rfl]; decide), moB_eq hw.2 (show Tryz.prog.bytesOf 3 <= 1000 from by rw [show Tryz.prog.bytesOf 3 = 8 from by kernel_rfl]; decide), deT (show (0 : Int) <= w by omega), h2] at ha
 refine Runs.piece (okK3 hv) mx ha rfl (by rfl) ?_
 have e0 : List.replicate (2 ^ w) (mkP [0, 0, 0, 0]) = moBK bss ts w i (2 ^ w) 0 := (map_range_const (2 ^ w) (mkP [0, 0, 0, 0])).symm
 have e1 : List.replicate (2 ^ w) (0 : Int) = moFU bss w i (2 ^ w) 0 := (map_range_const (2 ^ w) (0 : Int)).symm
 rw [e0, e1];refine loopG (st := fun k (a : List PL.den × List Int) => moT mt w i ts n bss m (2 ^ w) a.1 a.2 k) (I := fun k a => a = (moBK bss ts w i (2 ^ w) k, moFU bss w i (2 ^ w) k)) (n := n) (fun k a hk hI => ?_) (fun a hI => ?_) n 0 _ (by omega) rfl
 ·subst hI;refine ⟨_, rfl, fun hr => ?_⟩
  have c1 : decide ((k : Int) < n) = true := deT (by omega)
  have c2 : decide (0 <= (k : Int) /\ (k : Int) < n) = true := deT (by omega)
  have c3 : decide (0 <= (k : Int) /\ (k : Int) < m) = true := deT (by omega)
  have c4 : decide ((0 <= (w : Int) /\ (w : Int) <= 12) /\ (0 <= (i : Int) /\ (i : Int) <= 300) /\ ∀ x ∈ bss.getD k z32, 0 <= x /\ x <= 255) = true := deT ⟨by omega, by omega, fun x hx => by
   rw [List.getD_eq_getElem?_getD, List.getElem?_eq_getElem (by omega)] at hx
   exact hb _ (List.getElem_mem _) x hx⟩
  obtain ⟨hd1, hd2⟩ := dK_eq (bss := bss) (w := w) (i := i) k;by_cases hd : 0 < dsN bss w i k
  ·have h := mo_c mt w i ts n bss m (2 ^ w) (moBK bss ts w i (2 ^ w) k) (moFU bss w i (2 ^ w) k) k
   have c5 : decide (0 <= ((dsN bss w i k : Nat) : Int) /\ ((dsN bss w i k : Nat) : Int) < ((2 ^ w : Nat) : Int)) = true := deT ⟨by omega, by omega⟩
   rw [c1, c2, c3, c4, hd1, c5, deT (show ((dsN bss w i k : Nat) : Int) > 0 by omega), deT rfl, Int.toNat_natCast, Nat.zero_add, moBK_next hd hd2, moFU_next hd hd2 (by omega), iwk (by omega)] at h
   exact Runs.piece (okK3 hv) mx h rfl (by rfl) hr
  ·have h := mo_b mt w i ts n bss m (2 ^ w) (moBK bss ts w i (2 ^ w) k) (moFU bss w i (2 ^ w) k) k
   rw [c1, c2, c3, c4, hd1, deF (show ¬ ((dsN bss w i k : Nat) : Int) > 0 by omega), iwk (by omega)] at h
   obtain ⟨z1, z2⟩ := mo_same (bss := bss) (ts := ts) (w := w) (i := i) (L := 2 ^ w) (k := k) (by omega)
   simp only [z1, z2] at hr;exact Runs.piece (okK3 hv) mx h rfl (by rfl) hr
 ·have hI : a = _ := hI
  subst hI;have h := mo_d mt w i ts n bss m (2 ^ w) (moBK bss ts w i (2 ^ w) n) (moFU bss w i (2 ^ w) n) n
  have hw1 : iw (((2 ^ w : Nat) : Int) - 1) = ((2 ^ w - 1 : Nat) : Int) := by generalize 2 ^ w = q at *; unfold iw; rw [IntKind.wrap_i64]; omega
  rw [deF (by omega), hw1] at h
  exact Runs.piece (okK3 hv) mx h rfl (by rfl) (mo_down hv h3 hL0)
def TmoneV (mt : Nat) (vs : List V1) (hl : Heap) : Tree (SV × Heap) :=
 match vs, hl with
 | [.c (.vptr a), .c (.int _ .i64 w), .c (.int _ .i64 i), .c (.ro (.pair (.ws .u64 4) (.pair (.pair (.ws .u64 4) .unit) .unit)) ts n), .c (.ro (.ws .u8 32) bss m)], [] =>
  Tree.chk (decide (a = ⟨mt, 0, none⟩ /\ (1 <= w /\ w <= 12) /\ (0 <= i /\ i <= 300) /\ n <= m /\ m = List.length (α := List Int) bss /\ n <= 1048576 /\ ∀ bs ∈ (show List (List Int) from bss), ∀ x ∈ bs, 0 <= x /\ x <= 255))
   (.ret (.one (ws (limbs (oneV bss ts w.toNat i.toNat n % ell))), []))
 | _, _ => .fail
theorem ok_moneV (hv : VolAt mt) : EntryOk Tryz.prog G0 238 (TmoneV mt) := by
 refine EntryOk.runs (S := K3 mt) (fn := Tryz.f238) (c := cd Tryz.f238) (by kernel_rfl) (by kernel_rfl) (by kernel_rfl) (fun vs hl r hl' ok h => ?_)
 unfold TmoneV at h;split at h
 ·rename_i a l w l' i ts n bss m;obtain ⟨h1, h2⟩ := val_chk h;obtain ⟨rfl, ⟨w0, w1⟩, ⟨i0, i1⟩, hn, hm, hn1, hb⟩ := ofD h1;obtain ⟨rfl, rfl⟩ := Prod.mk.inj (val_ret h2);obtain ⟨W, rfl⟩ := Int.eq_ofNat_of_zero_le (show 0 <= w by omega)
  obtain ⟨I, rfl⟩ := Int.eq_ofNat_of_zero_le i0;exact lit_int [1, 2] (mo_runs hv ⟨by omega, by omega⟩ (by omega) hn hm hn1 hb) (by kernel_rfl)
 ·cases h
noncomputable def K4 (mt : Nat) : Tab := (K3 mt).put 238 0 (TmoneV mt)
theorem okK4 (hv : VolAt mt) : SpecOk Tryz.prog (K4 mt) := (okK3 hv).put (ok_moneV hv)
end Go.Sc
namespace Go.Sc
open Go Go.SX Go.Proofs
variable [Level]
noncomputable def ecR (k : List Item) (s : St) : Tree Out := runK L2 Tryz.prog noLoops 400 k s
noncomputable def ecS (ts : MoT) (n : Nat) : St := ⟨enterT Tryz.f230 [.c (.ro TM ts n)], []⟩
noncomputable def ecK : List Item := leftT [true] (ecR [.code (cd Tryz.f230)] (ecS [] 0))
noncomputable def ecT (ts : MoT) (n : Nat) (bs : List (List Int)) (i : Int) : St := ⟨slotsOf 24 [(3, one (.sl 0 0 n)), (9, one (.ro TM ts n)), (10, one (.int false .i64 n)), (11, one (.int false .i64 i))], [.arr B32 bs 0 []]⟩
def encK (ts : MoT) (k : Nat) : List Int := encL (limbs (val (ts.getD k TM.dflt).1 % ell))
theorem ec_a (ts : MoT) (n : Nat) : pieceT [3, 9, 10, 11] [11] [0] [true] (ecR [.code (cd Tryz.f230)] (ecS ts n)) =
  some ([decide (0 <= (n : Int) /\ (n : Int) <= n /\ (n : Int) <= 281474976710656 /\ ((Tryz.prog.bytesOf 132 : Nat) : Int) * n <= 281474976710656)], ecK, ecT ts n (List.replicate n z32) (0 : Nat)) := by kernel_rfl
theorem ec_b (ts : MoT) (n : Nat) (bs : List (List Int)) (i : Nat) : pieceT [3, 9, 10, 11] [11] [0] [true, true, true] (ecR ecK (ecT ts n bs i)) =
  some ([decide ((i : Int) < n), decide (0 <= (i : Int) /\ (i : Int) < n), decide (0 <= (i : Int) /\ (i : Int) < n)], ecK, ecT ts n (bs.set (0 + i) (encK ts i)) (iw ((i : Int) + 1))) := by kernel_rfl
theorem ec_c (ts : MoT) (n : Nat) (bs : List (List Int)) (i : Nat) : endT Tryz.prog Tryz.f230 [0] [false] (ecR ecK (ecT ts n bs i)) =
  some ([decide ((i : Int) < n)], .one (.c (.sl 0 0 n)), [.arr B32 bs 0 []]) := by kernel_rfl
def encA (ts : MoT) (n : Nat) : List (List Int) := (List.range n).map (encK ts)
theorem encA_get {ts : MoT} {n k : Nat} (h : k < n) : (encA ts n).getD k z32 = encK ts k := map_range_getD _ _ _ _ h
theorem encA_len (ts : MoT) (n : Nat) : (encA ts n).length = n := by simp [encA]
theorem encA_bd (ts : MoT) (n : Nat) : ∀ bs ∈ encA ts n, ∀ x ∈ bs, 0 <= x /\ x <= 255 := fun bs hb x hx => by
 obtain ⟨k, _, rfl⟩ := List.mem_map.1 hb;exact (encL_bd _).2 x hx
theorem ec_runs {ts : MoT} {n : Nat} (hn : n <= 1048576) : Runs Tryz.prog L2 Tryz.f230 0 [.code (cd Tryz.f230)] (ecS ts n) (.one (.c (.sl 0 0 n))) [.arr B32 (encA ts n) 0 []] := by
 refine Runs.piece okL2 mx (ec_a ts n) (by rw [show Tryz.prog.bytesOf 132 = 32 from by kernel_rfl, deT (by omega)]) (by rfl) ?_
 rw [<- map_range_const n z32];refine loopG (st := fun k (a : List (List Int)) => ecT ts n a k) (I := fun k a => a = (List.range n).map fun d => if d < k then encK ts d else z32) (n := n) (fun k a hk hI => ?_) (fun a hI => ?_) n 0 _ (by omega) (by simp)
 ·refine ⟨_, rfl, fun hr => ?_⟩
  have hb := ec_b ts n a k
  have e : a.set k (encK ts k) = (List.range n).map fun d => if d < k + 1 then encK ts d else z32 := by
   rw [hI, map_range_set];refine List.map_congr_left fun d _ => ?_
   by_cases h1 : d = k
   ·subst h1; rw [if_pos rfl, if_pos (by omega)]
   ·rw [if_neg h1];by_cases h2 : d < k
    ·rw [if_pos h2, if_pos (by omega)]
    ·rw [if_neg h2, if_neg (by omega)]
  rw [Nat.zero_add, e, iwk (by omega), deT (by omega), deT (by omega)] at hb
  exact Runs.piece okL2 mx hb rfl (by rfl) hr
 ·have hI : a = (List.range n).map fun d => if d < n then encK ts d else z32 := hI
  have e : a = encA ts n := by
   rw [hI];exact List.map_congr_left fun d hd => if_pos (List.mem_range.1 hd)
  subst e;exact Runs.last okL2 mx (ec_c ts n _ n) (by rw [deF (by omega)]) (by rfl)
def Tencoded (vs : List V1) (hl : Heap) : Tree (SV × Heap) :=
 match vs, hl with
 | [.c (.ro (.pair (.ws .u64 4) (.pair (.pair (.ws .u64 4) .unit) .unit)) ts n)], [] => Tree.chk (decide (n <= 1048576)) (.ret (.one (.c (.sl 0 0 n)), [.arr B32 (encA ts n) 0 []]))
 | _, _ => .fail
theorem ok_encoded : EntryOk Tryz.prog G0 230 Tencoded := by
 refine EntryOk.runs (S := L2) (fn := Tryz.f230) (c := cd Tryz.f230) (by kernel_rfl) (by kernel_rfl) (by kernel_rfl) (fun vs hl r hl' ok h => ?_)
 unfold Tencoded at h;split at h
 ·rename_i ts n;obtain ⟨h1, h2⟩ := val_chk h;obtain ⟨rfl, rfl⟩ := Prod.mk.inj (val_ret h2);exact ec_runs (ofD h1)
 ·cases h
noncomputable def L3 : Tab := L2.put 230 1 Tencoded
theorem okL3 : SpecOk Tryz.prog L3 := okL2.put ok_encoded
end Go.Sc
