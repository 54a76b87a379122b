/- Contracts of layer 7's lines: sums, doubles, multiples. -/
import Derived.Test.YtdblbibjggeikaaGreatDoorD6
import Derived.Test.YtdblbibjggeikaaGreatDoorD1
import Derived.Conc.AtomicLaws2
set_option linter.unusedSectionVars false
set_option linter.unusedVariables false
set_option linter.unusedSimpArgs false
namespace Go.Sc
open Go Go.SX Go.Proofs
variable [Level]
abbrev PL : DTy := .pair WS .unit
abbrev TM : DTy := .pair WS (.pair PL .unit)
def TLAdd (vs : List V1) (hl : Heap) : Tree (SV × Heap) :=
 match vs, hl with
 | [.g [.ws .u64 4 xs], .g [.ws .u64 4 ys]], [] => .ret (.one (ws (limbs ((val xs + val ys) % ell))), [])
 | _, _ => .fail
def TLDouble (vs : List V1) (hl : Heap) : Tree (SV × Heap) :=
 match vs, hl with
 | [.g [.ws .u64 4 xs]], [] => .ret (.one (ws (limbs ((val xs + val xs) % ell))), [])
 | _, _ => .fail
def TLTimes (vs : List V1) (hl : Heap) : Tree (SV × Heap) :=
 match vs, hl with
 | [.g [.ws .u64 4 xs], .g [.ws .u64 4 ys]], [] => .ret (.one (ws (limbs (val xs * val ys % ell))), [])
 | _, _ => .fail
theorem la_b (xs ys : List Int) : (bodyT E13 Tryz.prog allLoops Tryz.f299 (cd Tryz.f299) [ws xs, ws ys] []).path [] = some ([], .one (ws (limbs ((val xs + val ys) % ell))), []) := by kernel_rfl
theorem ld_b (xs : List Int) : (bodyT E13 Tryz.prog allLoops Tryz.f300 (cd Tryz.f300) [ws xs] []).path [] = some ([], .one (ws (limbs ((val xs + val xs) % ell))), []) := by kernel_rfl
theorem lt_b (xs ys : List Int) : (bodyT E13 Tryz.prog allLoops Tryz.f301 (cd Tryz.f301) [ws xs, ws ys] []).path [] = some ([], .one (ws (limbs (val xs * val ys % ell))), []) := by kernel_rfl
theorem ok_LAdd : EntryOk Tryz.prog G0 299 TLAdd := by
 refine EntryOk.sub (bodyT_ok okE13 mx (un := allLoops) (fn := Tryz.f299) (c := cd Tryz.f299) (by kernel_rfl) (by kernel_rfl) (by kernel_rfl)) (fun vs hl r ok h => ?_)
 unfold TLAdd at h;split at h
 ·rename_i xs ys;obtain rfl := val_ret h;exact Tree.path_val (la_b xs ys)
 ·cases h
theorem ok_LDouble : EntryOk Tryz.prog G0 300 TLDouble := by
 refine EntryOk.sub (bodyT_ok okE13 mx (un := allLoops) (fn := Tryz.f300) (c := cd Tryz.f300) (by kernel_rfl) (by kernel_rfl) (by kernel_rfl)) (fun vs hl r ok h => ?_)
 unfold TLDouble at h;split at h
 ·rename_i xs;obtain rfl := val_ret h;exact Tree.path_val (ld_b xs)
 ·cases h
theorem ok_LTimes : EntryOk Tryz.prog G0 301 TLTimes := by
 refine EntryOk.sub (bodyT_ok okE13 mx (un := allLoops) (fn := Tryz.f301) (c := cd Tryz.f301) (by kernel_rfl) (by kernel_rfl) (by kernel_rfl)) (fun vs hl r ok h => ?_)
 unfold TLTimes at h;split at h
 ·rename_i xs ys;obtain rfl := val_ret h;exact Tree.path_val (lt_b xs ys)
 ·cases h
noncomputable def L1 : Tab := ((E13.put 299 0 TLAdd).put 300 0 TLDouble).put 301 0 TLTimes
theorem okL1 : SpecOk Tryz.prog L1 := ((okE13.put ok_LAdd).put ok_LDouble).put ok_LTimes
abbrev B32 : DTy := .ws .u8 32
def wbit (bs : List Int) (n : Nat) : Int := if n < 256 then bs.getD (n / 8) 0 / 2 ^ (n % 8) % 2 else 0
def dgt (bs : List Int) (o : Nat) : Nat -> Int
 | 0 => 0
 | k + 1 => dgt bs o k + wbit bs (o + k) * 2 ^ k
theorem wbit_le (bs : List Int) (n : Nat) : 0 <= wbit bs n /\ wbit bs n <= 1 := by
 unfold wbit;split <;> omega
theorem dgt_le (bs : List Int) (o : Nat) : ∀ k, 0 <= dgt bs o k /\ dgt bs o k < 2 ^ k
 | 0 => by simp [dgt]
 | k + 1 => by
  have h := dgt_le bs o k
  have hb := wbit_le bs (o + k)
  have hp : (0 : Int) < 2 ^ k := by exact Int.pow_pos (by decide)
  rw [show (2 : Int) ^ (k + 1) = 2 ^ k + 2 ^ k from by rw [Int.pow_succ]; omega]
  simp only [dgt];have : wbit bs (o + k) = 0 \/ wbit bs (o + k) = 1 := by omega
  rcases this with e | e <;> rw [e] <;> omega
theorem u8bit {x : Int} (h : 0 <= x /\ x <= 255) : IntKind.u8.wrap ((BitVec.ofInt 8 x &&& BitVec.ofInt 8 1).toNat : Int) = x % 2 := by
 obtain ⟨n, rfl, hn⟩ : ∃ n : Nat, x = n /\ n < 256 := ⟨x.toNat, by omega, by omega⟩
 have e1 : BitVec.ofInt 8 (n : Int) = BitVec.ofNat 8 n := by simp
 rw [e1, show BitVec.ofInt 8 1 = BitVec.ofNat 8 1 from rfl, BitVec.toNat_and, BitVec.toNat_ofNat, BitVec.toNat_ofNat, Nat.mod_eq_of_lt (show n < 2 ^ 8 from hn), show (1 % 2 ^ 8 : Nat) = 1 from rfl, Nat.and_one_is_mod]
 have e : ∀ x : Int, IntKind.u8.wrap x = x % 256 := fun x => by simp [IntKind.wrap, IntKind.bits, IntKind.signed]
 rw [e];omega
theorem ior_add {D e : Nat} {k : Nat} (hD : D < 2 ^ k) (he : e <= 1) (hk : k <= 12) : iw ((BitVec.ofInt 64 (D : Int) ||| BitVec.ofInt 64 (((e * 2 ^ k : Nat)) : Int)).toNat : Int) = ((D + e * 2 ^ k : Nat) : Int) := by
 have hp : 2 ^ k <= 4096 := Nat.pow_le_pow_right (n := 2) (by decide) hk
 have h2 : e * 2 ^ k <= 4096 := Nat.le_trans (Nat.mul_le_mul he (Nat.le_refl _)) (by omega)
 have hor : D ||| e * 2 ^ k = D + e * 2 ^ k := by
  rw [Nat.or_comm, Nat.mul_comm e, <- Nat.two_pow_add_eq_or_of_lt hD e, Nat.add_comm]
 rw [ofInt_nat, ofInt_nat, BitVec.toNat_or, toNat_of (by omega), toNat_of (by omega), hor]
 generalize e * 2 ^ k = m at h2 ⊢
 generalize 2 ^ k = q at hD hp
 unfold iw;rw [IntKind.wrap_i64];omega
noncomputable def wnR (k : List Item) (s : St) : Tree Out := runK L1 Tryz.prog noLoops 400 k s
noncomputable def wnS (p : Cell) (h : Heap) (w i : Int) : St := ⟨enterT Tryz.f233 [.c p, .c (.int false .i64 w), .c (.int false .i64 i)], h⟩
noncomputable def wnK : List Item := leftT [] (wnR [.code (cd Tryz.f233)] (wnS .nilp [] 0 0))
noncomputable def wnT (p : Cell) (h : Heap) (w i d k : Int) : St := ⟨slotsOf 38 [(0, one p), (1, one (.int false .i64 w)), (2, one (.int false .i64 i)), (7, one (.int false .i64 d)), (10, one (.int false .i64 w)), (11, one (.int false .i64 k))], h⟩
def wnA (w i k : Int) : Int := iw (iw (w * i) + k)
def wnX (bs : List Int) (w i d k : Int) : Int := iw ((BitVec.ofInt 64 d ||| BitVec.ofInt 64 (iw (iw (IntKind.u8.wrap ((BitVec.ofInt 8 ((bs.getD (iw ((wnA w i k).tdiv 8)).toNat 0).fdiv (2 ^ min ((wnA w i k).tmod 8).toNat 8)) &&& BitVec.ofInt 8 1).toNat : Int)) * 2 ^ min k.toNat 64))).toNat : Int)
inductive WnP : Cell -> Heap -> List Int -> Prop
 | ro (bs : List Int) : WnP (.rptr B32 bs 0 0) [] bs
 | own (bss : List (List Int)) (j : Nat) : WnP (.ptr 0 j 32 0 0 0) [.arr B32 bss 0 []] (bss.getD j (List.replicate 32 0))
theorem wn_ids (p : Cell) (h : Heap) (bs : List Int) (hp : WnP p h bs) : idsOk h.length (List.range h.length) = true := by cases hp <;> rfl
theorem wn_a {p : Cell} {h : Heap} {bs : List Int} (hp : WnP p h bs) (w i : Int) : pieceT [0, 1, 2, 7, 10, 11] [7, 11] (List.range h.length) [] (wnR [.code (cd Tryz.f233)] (wnS p h w i)) = some ([], wnK, wnT p h w i 0 (0 : Nat)) := by
 cases hp <;> kernel_rfl
theorem wn_b {p : Cell} {h : Heap} {bs : List Int} (hp : WnP p h bs) (w i d : Int) (k : Nat) : pieceT [0, 1, 2, 7, 10, 11] [7, 11] (List.range h.length) [true, true, true, true, true] (wnR wnK (wnT p h w i d k)) =
  some ([decide ((k : Int) < w), decide (wnA w i k < 256), decide (0 <= iw ((wnA w i k).tdiv 8) /\ iw ((wnA w i k).tdiv 8) < 32), decide (0 <= (wnA w i k).tmod 8), decide (0 <= (k : Int))], wnK, wnT p h w i (wnX bs w i d k) (iw ((k : Int) + 1))) := by
 cases hp <;> kernel_rfl
theorem wn_c {p : Cell} {h : Heap} {bs : List Int} (hp : WnP p h bs) (w i d : Int) (k : Nat) : pieceT [0, 1, 2, 7, 10, 11] [7, 11] (List.range h.length) [true, false] (wnR wnK (wnT p h w i d k)) =
  some ([decide ((k : Int) < w), decide (wnA w i k < 256)], wnK, wnT p h w i d (iw ((k : Int) + 1))) := by
 cases hp <;> kernel_rfl
theorem wn_d {p : Cell} {h : Heap} {bs : List Int} (hp : WnP p h bs) (w i d : Int) (k : Nat) : endT Tryz.prog Tryz.f233 (List.range h.length) [false] (wnR wnK (wnT p h w i d k)) = some ([decide ((k : Int) < w)], .one (.c (.int false .i64 d)), h) := by
 cases hp <;> kernel_rfl
theorem wnA_eq {w i k : Nat} (hw : w <= 12) (hi : i <= 300) (hk : k <= 12) : wnA w i k = ((w * i + k : Nat) : Int) := by
 have : w * i <= 12 * 300 := Nat.mul_le_mul hw hi
 unfold wnA iw;rw [<- Int.natCast_mul]
 generalize w * i = m at this ⊢
 rw [IntKind.wrap_i64, IntKind.wrap_i64];omega
theorem wnX_eq {bs : List Int} {w i k : Nat} (hb : ∀ x ∈ bs, 0 <= x /\ x <= 255) (hw : w <= 12) (hi : i <= 300) (hk : k <= 12) (hn : w * i + k < 256) : wnX bs w i (dgt bs (w * i) k) k = dgt bs (w * i) (k + 1) := by
 unfold wnX;rw [wnA_eq hw hi hk]
 generalize w * i = m at hn ⊢
 have e1 : (iw (((m + k : Nat) : Int).tdiv 8)).toNat = (m + k) / 8 := by unfold iw; rw [IntKind.wrap_i64, Int.tdiv_eq_ediv_of_nonneg (by omega)]; omega
 have e2 : (((m + k : Nat) : Int).tmod 8).toNat = (m + k) % 8 := by rw [Int.tmod_eq_emod_of_nonneg (by omega)]; omega
 rw [e1, e2, Int.toNat_natCast, Nat.min_eq_left (show (m + k) % 8 <= 8 by omega), Nat.min_eq_left (show k <= 64 by omega)]
 have hB : 0 <= bs.getD ((m + k) / 8) 0 /\ bs.getD ((m + k) / 8) 0 <= 255 := by
  rw [List.getD_eq_getElem?_getD]
  cases hq : bs[(m + k) / 8]? with
  | none => simp
  | some x => exact hb x (List.mem_of_getElem? hq)
 generalize hBe : bs.getD ((m + k) / 8) 0 = B at hB
 have hd : B.fdiv (2 ^ ((m + k) % 8)) = B / 2 ^ ((m + k) % 8) := Int.fdiv_eq_ediv_of_nonneg _ (Int.le_of_lt (Int.pow_pos (by decide)))
 have hp1 : (1 : Int) <= 2 ^ ((m + k) % 8) := by have : (0 : Int) < 2 ^ ((m + k) % 8) := Int.pow_pos (by decide); omega
 have hq0 : 0 <= B / 2 ^ ((m + k) % 8) := Int.ediv_nonneg hB.1 (by omega)
 have hq1 : B / 2 ^ ((m + k) % 8) <= 255 := Int.le_trans (Int.ediv_le_self _ hB.1) hB.2
 rw [hd, u8bit ⟨hq0, hq1⟩];have hw1 : wbit bs (m + k) = B / 2 ^ ((m + k) % 8) % 2 := by unfold wbit; rw [if_pos hn, hBe]
 rw [<- hw1];obtain ⟨h0, h1⟩ := wbit_le bs (m + k);obtain ⟨g0, g1⟩ := dgt_le bs m k;obtain ⟨e, he⟩ := Int.eq_ofNat_of_zero_le h0;obtain ⟨D, hD⟩ := Int.eq_ofNat_of_zero_le g0;simp only [dgt];rw [he, hD];rw [hD] at g1;rw [he] at h1;have hp : (2 : Nat) ^ k <= 4096 := Nat.pow_le_pow_right (n := 2) (by decide) hk
 have hcast : ((2 : Int) ^ k) = ((2 ^ k : Nat) : Int) := by simp
 rw [hcast] at g1 ⊢;have he1 : e <= 1 := by omega
 have e3 : iw (iw (e : Int) * ((2 ^ k : Nat) : Int)) = ((e * 2 ^ k : Nat) : Int) := by
  have h2 : e * 2 ^ k <= 4096 := Nat.le_trans (Nat.mul_le_mul he1 (Nat.le_refl _)) (by omega)
  have e4 : iw (e : Int) = e := by unfold iw; rw [IntKind.wrap_i64]; omega
  rw [e4, <- Int.natCast_mul];unfold iw;rw [IntKind.wrap_i64];omega
 rw [e3, ior_add (by omega) he1 hk]
 simp
theorem wn_runs {p : Cell} {h : Heap} {bs : List Int} (hp : WnP p h bs) {w i : Nat} (hb : ∀ x ∈ bs, 0 <= x /\ x <= 255) (hw : w <= 12) (hi : i <= 300) : Runs Tryz.prog L1 Tryz.f233 h.length [.code (cd Tryz.f233)] (wnS p h w i) (.one (.c (.int false .i64 (dgt bs (w * i) w)))) h := by
 have hids := wn_ids p h bs hp
 refine Runs.piece okL1 mx (wn_a hp w i) rfl hids ?_
 refine loopG (st := fun k (d : Int) => wnT p h w i d k) (I := fun k d => d = dgt bs (w * i) k) (n := w) (fun k d hk hI => ?_) (fun d hI => ?_) w 0 0 (by omega) rfl
 ·subst hI;refine ⟨_, rfl, fun hr => ?_⟩
  by_cases hn : w * i + k < 256
  ·have hb' := wn_b hp w i (dgt bs (w * i) k) k
   rw [wnX_eq hb hw hi (by omega) hn, wnA_eq hw hi (by omega), iwk (by omega)] at hb'
   have e1 : iw (((w * i + k : Nat) : Int).tdiv 8) = (((w * i + k) / 8 : Nat) : Int) := by
    generalize w * i = m at hn
    unfold iw; rw [IntKind.wrap_i64, Int.tdiv_eq_ediv_of_nonneg (by omega)]; omega
   have e2 : 0 <= (((w * i + k : Nat) : Int).tmod 8) := by
    generalize w * i = m at hn
    rw [Int.tmod_eq_emod_of_nonneg (by omega)]; omega
   rw [e1, deT (show (k : Int) < w by omega), deT (show ((w * i + k : Nat) : Int) < 256 by generalize w * i = m at hn; omega), deT (show (0 : Int) <= ((w * i + k) / 8 : Nat) /\ (((w * i + k) / 8 : Nat) : Int) < 32 by generalize w * i = m at hn; omega), deT e2, deT (show (0 : Int) <= k by omega)] at hb'
   exact Runs.piece okL1 mx hb' rfl hids hr
  ·have hb' := wn_c hp w i (dgt bs (w * i) k) k
   have e : dgt bs (w * i) (k + 1) = dgt bs (w * i) k := by
    simp only [dgt];have : wbit bs (w * i + k) = 0 := by unfold wbit; rw [if_neg hn]
    rw [this]; omega
   rw [wnA_eq hw hi (by omega), iwk (by omega), deT (show (k : Int) < w by omega), deF (show ¬ ((w * i + k : Nat) : Int) < 256 by generalize w * i = m at hn; omega)] at hb'
   rw [e] at hr;exact Runs.piece okL1 mx hb' rfl hids hr
 ·subst hI;exact Runs.last okL1 mx (wn_d hp w i _ w) (by rw [deF (by omega)]) hids
def Twindow (vs : List V1) (hl : Heap) : Tree (SV × Heap) :=
 match vs, hl with
 | [.c (.rptr (.ws .u8 32) bs 0 0), .c (.int _ .i64 w), .c (.int _ .i64 i)], [] =>
  Tree.chk (decide ((0 <= w /\ w <= 12) /\ (0 <= i /\ i <= 300) /\ ∀ x ∈ (show List Int from bs), 0 <= x /\ x <= 255)) (.ret (.one (.c (.int false .i64 (dgt bs (w.toNat * i.toNat) w.toNat))), []))
 | [.c (.ptr 0 j 32 0 0 0), .c (.int _ .i64 w), .c (.int _ .i64 i)], [.arr (.ws .u8 32) bss 0 []] =>
  Tree.chk (decide ((0 <= w /\ w <= 12) /\ (0 <= i /\ i <= 300) /\ ∀ x ∈ List.getD (α := List Int) bss j (List.replicate 32 0), 0 <= x /\ x <= 255))
   (.ret (.one (.c (.int false .i64 (dgt (List.getD (α := List Int) bss j (List.replicate 32 0)) (w.toNat * i.toNat) w.toNat))), [.arr B32 bss 0 []]))
 | _, _ => .fail
theorem ok_window : EntryOk Tryz.prog G0 233 Twindow := by
 refine EntryOk.runs (S := L1) (fn := Tryz.f233) (c := cd Tryz.f233) (by kernel_rfl) (by kernel_rfl) (by kernel_rfl) (fun vs hl r hl' ok h => ?_)
 unfold Twindow at h;split at h
 ·rename_i bs l w l' i;obtain ⟨h1, h2⟩ := val_chk h;obtain ⟨⟨w0, w1⟩, ⟨i0, i1⟩, hb⟩ := ofD h1;obtain ⟨rfl, rfl⟩ := Prod.mk.inj (val_ret h2);obtain ⟨W, rfl⟩ := Int.eq_ofNat_of_zero_le w0;obtain ⟨I, rfl⟩ := Int.eq_ofNat_of_zero_le i0;exact lit_int [1, 2] (wn_runs (.ro bs) hb (by omega) (by omega)) (by kernel_rfl)
 ·rename_i j l w l' i bss;obtain ⟨h1, h2⟩ := val_chk h;obtain ⟨⟨w0, w1⟩, ⟨i0, i1⟩, hb⟩ := ofD h1;obtain ⟨rfl, rfl⟩ := Prod.mk.inj (val_ret h2);obtain ⟨W, rfl⟩ := Int.eq_ofNat_of_zero_le w0;obtain ⟨I, rfl⟩ := Int.eq_ofNat_of_zero_le i0;exact lit_int [1, 2] (wn_runs (.own bss j) hb (by omega) (by omega)) (by kernel_rfl)
 ·cases h
def encL (xs : List Int) : List Int := (List.range 32).map fun i => IntKind.u8.wrap ((xs.getD (i / 8) 0).fdiv (2 ^ (8 * (i % 8))))
def TEncode (vs : List V1) (hl : Heap) : Tree (SV × Heap) :=
 match vs, hl with
 | [.g [.ws .u64 4 xs]], [] => .ret (.one (.g [.ws .u8 32 (encL (limbs (val xs % ell)))]), [])
 | _, _ => .fail
theorem enc_b (xs : List Int) : (bodyT L1 Tryz.prog allLoops Tryz.f252 (cd Tryz.f252) [ws xs] []).path [] = some ([], .one (.g [.ws .u8 32 (encL (limbs (val xs % ell)))]), []) := by kernel_rfl
theorem ok_Encode : EntryOk Tryz.prog G0 252 TEncode := by
 refine EntryOk.sub (bodyT_ok okL1 mx (un := allLoops) (fn := Tryz.f252) (c := cd Tryz.f252) (by kernel_rfl) (by kernel_rfl) (by kernel_rfl)) (fun vs hl r ok h => ?_)
 unfold TEncode at h;split at h
 ·rename_i xs;obtain rfl := val_ret h;exact Tree.path_val (enc_b xs)
 ·cases h
noncomputable def L2 : Tab := (L1.put 233 0 Twindow).put 252 0 TEncode
theorem okL2 : SpecOk Tryz.prog L2 := (okL1.put ok_window).put ok_Encode
theorem u8wrap (x : Int) : IntKind.u8.wrap x = x % 256 := by simp [IntKind.wrap, IntKind.bits, IntKind.signed]
theorem encL_bd (xs : List Int) : (encL xs).length = 32 /\ ∀ x ∈ encL xs, 0 <= x /\ x <= 255 := by
 refine ⟨by simp [encL], fun x hx => ?_⟩
 obtain ⟨i, _, rfl⟩ := List.mem_map.1 hx;rw [u8wrap];omega
end Go.Sc
namespace Go.Sc
open Go Go.SX
def bkS (ds : Nat -> Nat) (ps : Nat -> Int) (d : Nat) : Nat -> Int
 | 0 => 0
 | k + 1 => bkS ds ps d k + (if ds k = d /\ 0 < d then ps k else 0)
def bkF (ds : Nat -> Nat) (d : Nat) : Nat -> Nat
 | 0 => 0
 | k + 1 => bkF ds d k + (if ds k = d /\ 0 < d then 1 else 0)
def ruX (S : Nat -> Int) (L : Nat) : Nat -> Int
 | 0 => 0
 | m + 1 => ruX S L m + S (L - 1 - m)
def auX (S : Nat -> Int) (L : Nat) : Nat -> Int
 | 0 => 0
 | m + 1 => auX S L m + ruX S L (m + 1)
def guX (F : Nat -> Nat) (L : Nat) : Nat -> Bool
 | 0 => false
 | m + 1 => guX F L m || decide (0 < F (L - 1 - m))
def sumN (f : Nat -> Int) : Nat -> Int
 | 0 => 0
 | n + 1 => sumN f n + f n
theorem bkS_none {ds : Nat -> Nat} {ps : Nat -> Int} {d : Nat} : ∀ {k : Nat}, bkF ds d k = 0 -> bkS ds ps d k = 0
 | 0, _ => rfl
 | k + 1, h => by
  simp only [bkF] at h;simp only [bkS];split at h
  ·omega
  ·rename_i hn;rw [if_neg hn, bkS_none (by omega)]; rfl
theorem bkF_le {ds : Nat -> Nat} {d : Nat} : ∀ {k : Nat}, bkF ds d k <= k
 | 0 => Nat.le_refl _
 | k + 1 => by
  have := bkF_le (ds := ds) (d := d) (k := k)
  simp only [bkF];split <;> omega
theorem ruX_add (S T : Nat -> Int) (L : Nat) : ∀ m, ruX (fun d => S d + T d) L m = ruX S L m + ruX T L m
 | 0 => rfl
 | m + 1 => by simp only [ruX]; rw [ruX_add S T L m]; omega
theorem auX_add (S T : Nat -> Int) (L : Nat) : ∀ m, auX (fun d => S d + T d) L m = auX S L m + auX T L m
 | 0 => rfl
 | m + 1 => by simp only [auX]; rw [auX_add S T L m, ruX_add]; omega
theorem ruX_one {c L : Nat} {p : Int} (hc : c < L) : ∀ m, m <= L - 1 -> ruX (fun d => if c = d /\ 0 < d then p else 0) L m = if L - 1 - c < m then p else 0
 | 0, _ => by simp [ruX]
 | m + 1, h => by
  simp only [ruX];rw [ruX_one hc m (by omega)]
  have hpos : 0 < L - 1 - m := by omega
  by_cases h1 : L - 1 - c < m
  ·have h2 : ¬ (c = L - 1 - m /\ 0 < L - 1 - m) := by omega
   have h3 : L - 1 - c < m + 1 := by omega
   simp only [h1, h2, h3, if_true, if_false]; omega
  ·by_cases h4 : c = L - 1 - m
   ·have h2 : c = L - 1 - m /\ 0 < L - 1 - m := ⟨h4, hpos⟩
    have h3 : L - 1 - c < m + 1 := by omega
    rw [if_neg h1, if_pos h2, if_pos h3]; omega
   ·have h2 : ¬ (c = L - 1 - m /\ 0 < L - 1 - m) := fun h => h4 h.1
    have h3 : ¬ L - 1 - c < m + 1 := by omega
    rw [if_neg h1, if_neg h2, if_neg h3]; rfl
theorem auX_one {c L : Nat} {p : Int} (hc : c < L) : ∀ m, m <= L - 1 -> auX (fun d => if c = d /\ 0 < d then p else 0) L m = ((m - (L - 1 - c) : Nat) : Int) * p
 | 0, _ => by simp [auX]
 | m + 1, h => by
  simp only [auX];rw [auX_one hc m (by omega), ruX_one hc (m + 1) h]
  by_cases h1 : L - 1 - c < m + 1
  ·rw [if_pos h1, show m + 1 - (L - 1 - c) = (m - (L - 1 - c)) + 1 by omega, Int.natCast_add, Int.add_mul]; simp
  ·rw [if_neg h1, show m + 1 - (L - 1 - c) = 0 by omega, show m - (L - 1 - c) = 0 by omega]; simp
theorem auX_zero (L : Nat) : ∀ m, ruX (fun _ => 0) L m = 0 /\ auX (fun _ => 0) L m = 0
 | 0 => ⟨rfl, rfl⟩
 | m + 1 => by
  obtain ⟨h1, h2⟩ := auX_zero L m;simp only [auX, ruX];rw [h1, h2]; exact ⟨rfl, rfl⟩
theorem auX_all {ds : Nat -> Nat} {ps : Nat -> Int} {L : Nat} : ∀ {k : Nat}, (∀ j, j < k -> ds j < L) -> auX (fun d => bkS ds ps d k) L (L - 1) = sumN (fun j => (ds j : Int) * ps j) k
 | 0, _ => (auX_zero L _).2
 | k + 1, h => by
  simp only [bkS, sumN];rw [auX_add, auX_all (fun j hj => h j (by omega)), auX_one (h k (by omega)) _ (Nat.le_refl _)]
  have := h k (by omega)
  rw [show L - 1 - (L - 1 - ds k) = ds k by omega]
theorem guX_no {S : Nat -> Int} {F : Nat -> Nat} {L : Nat} (h : ∀ d, F d = 0 -> S d = 0) : ∀ {m : Nat}, guX F L m = false -> ruX S L m = 0 /\ auX S L m = 0
 | 0, _ => ⟨rfl, rfl⟩
 | m + 1, hg => by
  simp only [guX, Bool.or_eq_false_iff, decide_eq_false_iff_not] at hg;obtain ⟨h1, h2⟩ := guX_no h hg.1;simp only [ruX, auX];rw [h1, h2, h _ (by omega)]
  exact ⟨rfl, rfl⟩
theorem map_range_set {α : Type} (f : Nat -> α) (L c : Nat) (v : α) : ((List.range L).map f).set c v = (List.range L).map fun d => if d = c then v else f d := by
 apply List.ext_getElem?
 intro i;rw [List.getElem?_set, List.getElem?_map, List.getElem?_map, List.length_map, List.length_range]
 by_cases h : c = i
 ·subst h;rw [if_pos rfl];by_cases h2 : c < L
  ·rw [if_pos h2, List.getElem?_range h2]; simp
  ·rw [if_neg h2, List.getElem?_eq_none (by simpa using h2)]; rfl
 ·rw [if_neg h];by_cases h2 : i < L
  ·rw [List.getElem?_range h2]; simp [Ne.symm h]
  ·rw [List.getElem?_eq_none (by simpa using h2)]; rfl
theorem map_range_getD {α : Type} (f : Nat -> α) (L c : Nat) (z : α) (h : c < L) : ((List.range L).map f).getD c z = f c := by
 rw [List.getD_eq_getElem?_getD, List.getElem?_map, List.getElem?_range h]; rfl
end Go.Sc
namespace Go.Sc
open Go Go.SX Go.Proofs
variable [Level]
def VolAt (mt : Nat) : Prop := ∀ a : Addr, a.block = mt -> a.spot = none -> a.off < 2 -> Level.vol a
def TAddV (mt : Nat) (vs : List V1) (hl : Heap) : Tree (SV × Heap) :=
 match vs, hl with
 | [.c (.vptr a), .c (.int _ .i64 _)], [] => Tree.chk (decide (a.block = mt /\ a.spot = none /\ a.off < 2)) (.ret (.one (.c .any), []))
 | _, _ => .fail
def TmaddV (mt : Nat) (vs : List V1) (hl : Heap) : Tree (SV × Heap) :=
 match vs, hl with
 | [.c (.vptr a), .g [.ws .u64 4 xs], .g [.ws .u64 4 ys]], [] => Tree.chk (decide (a = ⟨mt, 0, none⟩)) (.ret (.one (ws (limbs ((val xs + val ys) % ell))), []))
 | _, _ => .fail
theorem ok_AddV {G : GlobT} {mt : Nat} (hv : VolAt mt) : VEntryOk Tryz.prog G 276 (TAddV mt) := by
 intro vs hl r hl' hr E us hE hrep hvs;unfold TAddV at hr;split at hr
 ·rename_i a l d;obtain ⟨h1, h2⟩ := val_chk hr;obtain ⟨c1, c2, c3⟩ := ofD h1;obtain ⟨rfl, rfl⟩ := Prod.mk.inj (val_ret h2);obtain ⟨u0, _, e0, hu0, u1, _, e1, ⟨rfl, _⟩, e2⟩ := hvs;have hu0 : u0 = .pointer (some a) := hu0
  subst e2 e1 hu0;obtain rfl : us = #[.pointer (some a), .int .i64 d] := by cases us; simp_all
  refine ⟨a, d, hv a c1 c2 c3, fun w n hc hz => ⟨276, ?_⟩, fun n _ => ⟨E.β, E.R, ?_, ?_, trivial⟩⟩
  ·rw [Sem.runT_eq, run_callFunc_extern (fn := Tryz.f276) (by kernel_rfl) (by kernel_rfl) (by kernel_rfl) (by kernel_rfl) (e := Extern.Atomic.update (Op.intArith .add) .i64 true) (by kernel_rfl), Conc.run_add_entry hc hz,
    Conc.events_callFunc_extern (fn := Tryz.f276) (by kernel_rfl) (by kernel_rfl) (by kernel_rfl) (by kernel_rfl) (e := Extern.Atomic.update (Op.intArith .add) .i64 true) (by kernel_rfl), Conc.events_add_entry hc hz]
   rfl
  ·rw [<- hE]; exact hrep
  ·rw [<- hE]; exact Ext.refl E
 ·cases hr
noncomputable def K1 (mt : Nat) : Tab := L2.putV 276 (TAddV mt)
theorem okK1 {mt : Nat} (hv : VolAt mt) : SpecOk Tryz.prog (K1 mt) := okL2.putV (ok_AddV hv)
theorem ia_b (mt : Nat) (a : Addr) (d : Int) : (bodyT (K1 mt) Tryz.prog allLoops Tryz.f253 (cd Tryz.f253) [.c (.vptr a), .c (.int false .i64 d)] []).path [true] = some ([decide ((a.add 0).block = mt /\ (a.add 0).spot = none /\ (a.add 0).off < 2)], .one (.c .any), []) := by kernel_rfl
theorem ok_I64AddV {mt : Nat} (hv : VolAt mt) : EntryOk Tryz.prog G0 253 (TAddV mt) := by
 refine EntryOk.sub (bodyT_ok (okK1 hv) mx (un := allLoops) (fn := Tryz.f253) (c := cd Tryz.f253) (by kernel_rfl) (by kernel_rfl) (by kernel_rfl)).unlit (fun vs hl r ok h => ?_)
 unfold TAddV at h;split at h
 ·rename_i a l d;obtain ⟨h1, h2⟩ := val_chk h;obtain rfl := val_ret h2;have hp := ia_b mt a d
  rw [deT (show (a.add 0).block = mt /\ (a.add 0).spot = none /\ (a.add 0).off < 2 from ofD h1)] at hp
  exact Tree.path_val hp
 ·cases h
noncomputable def K2 (mt : Nat) : Tab := (K1 mt).put 253 0 (TAddV mt)
theorem okK2 {mt : Nat} (hv : VolAt mt) : SpecOk Tryz.prog (K2 mt) := (okK1 hv).put (ok_I64AddV hv)
theorem mav_b (mt : Nat) (xs ys : List Int) : (bodyT (K2 mt) Tryz.prog allLoops Tryz.f231 (cd Tryz.f231) [.c (.vptr ⟨mt, 0, none⟩), ws xs, ws ys] []).path [true] = some ([decide (mt = mt /\ (none : Option Nat) = none /\ 0 < 2)], .one (ws (limbs ((val xs + val ys) % ell))), []) := by kernel_rfl
theorem ok_maddV {mt : Nat} (hv : VolAt mt) : EntryOk Tryz.prog G0 231 (TmaddV mt) := by
 refine EntryOk.sub (bodyT_ok (okK2 hv) mx (un := allLoops) (fn := Tryz.f231) (c := cd Tryz.f231) (by kernel_rfl) (by kernel_rfl) (by kernel_rfl)) (fun vs hl r ok h => ?_)
 unfold TmaddV at h;split at h
 ·rename_i a xs ys;obtain ⟨h1, h2⟩ := val_chk h;obtain rfl := val_ret h2;obtain rfl := ofD h1;have hp := mav_b mt xs ys
  rw [deT ⟨rfl, rfl, by decide⟩] at hp
  exact Tree.path_val hp
 ·cases h
noncomputable def K3 (mt : Nat) : Tab := (K2 mt).put 231 0 (TmaddV mt)
theorem okK3 {mt : Nat} (hv : VolAt mt) : SpecOk Tryz.prog (K3 mt) := (okK2 hv).put (ok_maddV hv)
end Go.Sc
