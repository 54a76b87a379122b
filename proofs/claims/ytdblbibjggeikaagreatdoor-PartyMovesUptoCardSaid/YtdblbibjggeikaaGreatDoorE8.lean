/- Layer 7's sums: contracts. -/
import Derived.Test.YtdblbibjggeikaaGreatDoorE7
set_option linter.unusedSectionVars false
set_option linter.unusedVariables false
set_option linter.unusedSimpArgs false
namespace Go.Sc
open Go Go.SX Go.Proofs
variable [Level]
noncomputable def tbR (k : List Item) (s : St) : Tree Out := runK L6 Tryz.prog noLoops 400 k s
noncomputable def tbS (n : Int) : St := ⟨enterT Tryz.f201 [.c (.int false .i64 n)], []⟩
noncomputable def tbK : List Item := leftT [] (tbR [.code (cd Tryz.f201)] (tbS 0))
def tbT (n b l w : Int) : St := ⟨slotsOf 35 [(0, one (.int false .i64 n)), (4, one (.int false .i64 b)), (5, one (.int false .i64 l)), (6, one (.int false .i64 w))], []⟩
def tbm (n w : Int) : Int := iw (iw (n * iw (iw (1 * 2 ^ (min w.toNat 64)) + wnd w)) + iw (w * wnd w))
def tbB (n : Int) : Nat -> Int × Int
 | 0 => (0, 0)
 | k + 1 => if (tbB n k).1 = 0 \/ tbm n (k + 1 : Nat) < (tbB n k).2 then (((k + 1 : Nat) : Int), tbm n (k + 1 : Nat)) else tbB n k
theorem tbB_pos (n : Int) : ∀ k, 1 <= (tbB n (k + 1)).1 /\ (tbB n (k + 1)).1 <= k + 1
 | 0 => ⟨Int.le_refl _, Int.le_refl _⟩
 | k + 1 => by
  have := tbB_pos n k
  unfold tbB;split
  ·exact ⟨by show (1 : Int) <= ((k + 1 + 1 : Nat) : Int); omega, by show ((k + 1 + 1 : Nat) : Int) <= ((k + 1 : Nat) : Int) + 1; omega⟩
  ·omega
theorem tb_a (n : Int) : pieceT [0, 4, 5, 6] [4, 5, 6] [] [] (tbR [.code (cd Tryz.f201)] (tbS n)) = some ([], tbK, tbT n 0 0 (1 : Nat)) := by kernel_rfl
theorem tb_b (n b l : Int) (w : Nat) : pieceT [0, 4, 5, 6] [4, 5, 6] [] [true, true, true, true, true, true] (tbR tbK (tbT n b l w)) = some ([decide ((w : Int) <= 8), true, decide (1 <= (w : Int)), decide (1 <= (w : Int)), (b == 0) == false, decide (tbm n w < l)], tbK, tbT n w (tbm n w) (iw ((w : Int) + 1))) := by kernel_rfl
theorem tb_c (n b l : Int) (w : Nat) : pieceT [0, 4, 5, 6] [4, 5, 6] [] [true, true, true, true, true, false] (tbR tbK (tbT n b l w)) = some ([decide ((w : Int) <= 8), true, decide (1 <= (w : Int)), decide (1 <= (w : Int)), (b == 0) == false, decide (tbm n w < l)], tbK, tbT n b l (iw ((w : Int) + 1))) := by kernel_rfl
theorem tb_d (n b l : Int) (w : Nat) : pieceT [0, 4, 5, 6] [4, 5, 6] [] [true, true, true, true, false] (tbR tbK (tbT n b l w)) = some ([decide ((w : Int) <= 8), true, decide (1 <= (w : Int)), decide (1 <= (w : Int)), (b == 0) == false], tbK, tbT n w (tbm n w) (iw ((w : Int) + 1))) := by kernel_rfl
theorem tb_e (n b l : Int) (w : Nat) : endT Tryz.prog Tryz.f201 [] [false] (tbR tbK (tbT n b l w)) = some ([decide ((w : Int) <= 8)], .tup [.c (.int false .i64 b), .c (.int false .i64 l)], []) := by kernel_rfl
theorem tb_runs (n : Int) : Runs Tryz.prog L6 Tryz.f201 0 [.code (cd Tryz.f201)] (tbS n) (.tup [.c (.int false .i64 (tbB n 8).1), .c (.int false .i64 (tbB n 8).2)]) [] := by
 refine Runs.piece okL6 mx (tb_a n) rfl (by rfl) ?_
 refine loopG (st := fun k (a : Int × Int) => tbT n a.1 a.2 ((k + 1 : Nat) : Int)) (I := fun k a => a = tbB n k) (n := 8) (fun k a hk hI => ?_) (fun a hI => ?_) 8 0 (0, 0) rfl rfl
 ·subst hI;refine ⟨_, rfl, fun hr => ?_⟩
  by_cases h0 : (tbB n k).1 = 0
  ·have h := tb_d n (tbB n k).1 (tbB n k).2 (k + 1)
   rw [deT (show ((k + 1 : Nat) : Int) <= 8 by omega), deT (show 1 <= ((k + 1 : Nat) : Int) by omega), iwk (by omega), show ((tbB n k).1 == 0) = true from beq_iff_eq.2 h0] at h
   have e : tbB n (k + 1) = (((k + 1 : Nat) : Int), tbm n (k + 1 : Nat)) := by
    rw [tbB, if_pos (.inl h0)]
   rw [e] at hr;exact Runs.piece okL6 mx h rfl (by rfl) hr
  ·by_cases hl : tbm n (k + 1 : Nat) < (tbB n k).2
   ·have h := tb_b n (tbB n k).1 (tbB n k).2 (k + 1)
    rw [deT (show ((k + 1 : Nat) : Int) <= 8 by omega), deT (show 1 <= ((k + 1 : Nat) : Int) by omega), iwk (by omega), beq_false_of_ne h0, deT hl] at h
    have e : tbB n (k + 1) = (((k + 1 : Nat) : Int), tbm n (k + 1 : Nat)) := by
     rw [tbB, if_pos (.inr hl)]
    rw [e] at hr;exact Runs.piece okL6 mx h rfl (by rfl) hr
   ·have h := tb_c n (tbB n k).1 (tbB n k).2 (k + 1)
    rw [deT (show ((k + 1 : Nat) : Int) <= 8 by omega), deT (show 1 <= ((k + 1 : Nat) : Int) by omega), iwk (by omega), beq_false_of_ne h0, deF hl] at h
    have e : tbB n (k + 1) = tbB n k := by
     rw [tbB, if_neg (fun hh => hh.elim h0 hl)]
    rw [e] at hr;exact Runs.piece okL6 mx h rfl (by rfl) hr
 ·subst hI;exact Runs.last okL6 mx (tb_e n _ _ 9) (by rw [deF (by decide)]) (by rfl)
def Ttables (vs : List V1) (hl : Heap) : Tree (SV × Heap) :=
 match vs, hl with
 | [.c (.int _ .i64 n)], [] => .ret (.tup [.c (.int false .i64 (tbB n 8).1), .c (.int false .i64 (tbB n 8).2)], [])
 | _, _ => .fail
theorem ok_tables : EntryOk Tryz.prog G0 201 Ttables := by
 refine EntryOk.runs (S := L6) (fn := Tryz.f201) (c := cd Tryz.f201) (by kernel_rfl) (by kernel_rfl) (by kernel_rfl) (fun vs hl r hl' ok h => ?_)
 unfold Ttables at h;split at h
 ·rename_i l n;obtain ⟨rfl, rfl⟩ := Prod.mk.inj (val_ret h);exact lit_int [0] (tb_runs n) (by kernel_rfl)
 ·cases h
noncomputable def plS (ts : MoT) (n : Nat) : St := ⟨enterT Tryz.f167 [.c (.ro TM ts n)], []⟩
noncomputable def plK : List Item := leftT [] (tbR [.code (cd Tryz.f167)] (plS [] 0))
noncomputable def plT (ts : MoT) (n : Nat) (o : List Int) (i : Int) : St := ⟨slotsOf 23 [(2, pt 0), (3, pt 1), (6, one (.ro TM ts n)), (7, one (.int false .i64 n)), (8, one (.int false .i64 i))], [.vals [.ws .u64 4 zL], .vals [.ws .u64 4 o]]⟩
theorem pl_a (ts : MoT) (n : Nat) : pieceT [2, 3, 6, 7, 8] [8] [0, 1] [] (tbR [.code (cd Tryz.f167)] (plS ts n)) = some ([], plK, plT ts n zL (0 : Nat)) := by kernel_rfl
theorem pl_b (ts : MoT) (n : Nat) (o : List Int) (i : Nat) : pieceT [2, 3, 6, 7, 8] [8] [0, 1] [true, true] (tbR plK (plT ts n o i)) = some ([decide ((i : Int) < n), decide (0 <= (i : Int) /\ (i : Int) < n)], plK, plT ts n (limbs ((val o + val (limbs (pT ts i * kT ts i % ell))) % ell)) (iw ((i : Int) + 1))) := by kernel_rfl
theorem pl_c (ts : MoT) (n : Nat) (o : List Int) (i : Nat) : endT Tryz.prog Tryz.f167 [] [false] (tbR plK (plT ts n o i)) = some ([decide ((i : Int) < n)], .one (ws o), []) := by kernel_rfl
theorem pl_runs {ts : MoT} {n : Nat} (hn : n <= 1048576) : Runs Tryz.prog L6 Tryz.f167 0 [.code (cd Tryz.f167)] (plS ts n) (.one (ws (limbs (mulS ts n % ell)))) [] := by
 refine Runs.piece okL6 mx (pl_a ts n) rfl (by rfl) ?_
 refine loopG (st := fun k (a : List Int) => plT ts n a k) (I := fun k a => a = limbs (mulS ts k % ell)) (n := n) (fun k a hk hI => ?_) (fun a hI => ?_) n 0 zL (by omega) rfl
 ·subst hI;have h := pl_b ts n (limbs (mulS ts k % ell)) k
  rw [deT (by omega), deT (by omega), iwk (by omega), val_mod, val_mod, <- Int.add_emod, Int.mul_comm] at h
  exact ⟨_, rfl, fun hr => Runs.piece okL6 mx h rfl (by rfl) hr⟩
 ·subst hI;exact Runs.last okL6 mx (pl_c ts n _ n) (by rw [deF (by omega)]) (by rfl)
def TPlain (vs : List V1) (hl : Heap) : Tree (SV × Heap) :=
 match vs, hl with
 | [.c (.ro (.pair (.ws .u64 4) (.pair (.pair (.ws .u64 4) .unit) .unit)) ts n)], [] => Tree.chk (decide (n <= 1048576)) (.ret (.one (ws (limbs (mulS ts n % ell))), []))
 | _, _ => .fail
theorem ok_Plain : EntryOk Tryz.prog G0 167 TPlain := by
 refine EntryOk.runs (S := L6) (fn := Tryz.f167) (c := cd Tryz.f167) (by kernel_rfl) (by kernel_rfl) (by kernel_rfl) (fun vs hl r hl' ok h => ?_)
 unfold TPlain at h;split at h
 ·rename_i ts n;obtain ⟨h1, h2⟩ := val_chk h;obtain ⟨rfl, rfl⟩ := Prod.mk.inj (val_ret h2);exact pl_runs (ofD h1)
 ·cases h
class Lone : Prop where
 off : Level.both = false
def TStraus (vs : List V1) (hl : Heap) : Tree (SV × Heap) :=
 match vs, hl with
 | [.c (.int _ .i64 w), .c (.ro (.pair (.ws .u64 4) (.pair (.pair (.ws .u64 4) .unit) .unit)) ts n)], [] => Tree.chk (decide ((1 <= w /\ w <= 8) /\ 1 <= n /\ n <= 8192)) (.ret (.tup [ws (limbs (mulS ts n % ell)), .g [.c .any, .c .any], .c (.int true .i64 0)], []))
 | _, _ => .fail
def Tbuckets (vs : List V1) (hl : Heap) : Tree (SV × Heap) :=
 match vs, hl with
 | [.c (.int _ .i64 w), .c (.ro (.pair (.ws .u64 4) (.pair (.pair (.ws .u64 4) .unit) .unit)) ts n)], [] => Tree.chk (decide ((1 <= w /\ w <= 12) /\ 1 <= n /\ n <= 1048576)) (.ret (.tup [ws (limbs (mulS ts n % ell)), .g [.c .any, .c .any]], []))
 | _, _ => .fail
theorem ok_Straus : EntryOk Tryz.prog G0 203 TStraus := by
 refine EntryOk.runs (S := L6) (fn := Tryz.f203) (c := cd Tryz.f203) (by kernel_rfl) (by kernel_rfl) (by kernel_rfl) (fun vs hl r hl' ok h => ?_)
 unfold TStraus at h;split at h
 ·rename_i l w ts n;obtain ⟨h1, h2⟩ := val_chk h;obtain ⟨⟨w1, w2⟩, hn⟩ := ofD h1;obtain ⟨rfl, rfl⟩ := Prod.mk.inj (val_ret h2);obtain ⟨W, rfl⟩ := Int.eq_ofNat_of_zero_le (show 0 <= w by omega)
  rw [<- bwV_mul ts (show 1 <= W by omega)]
  exact lit_int [0] (uq_runs ⟨by omega, by omega⟩ hn) (by kernel_rfl)
 ·cases h
theorem ok_buckets [lo : Lone] : EntryOk Tryz.prog G0 204 Tbuckets := by
 refine EntryOk.runs (S := L6) (fn := Tryz.f204) (c := cd Tryz.f204) (by kernel_rfl) (by kernel_rfl) (by kernel_rfl) (fun vs hl r hl' ok h => ?_)
 unfold Tbuckets at h;split at h
 ·rename_i l w ts n;obtain ⟨h1, h2⟩ := val_chk h;obtain ⟨⟨w1, w2⟩, hn⟩ := ofD h1;obtain ⟨rfl, rfl⟩ := Prod.mk.inj (val_ret h2);obtain ⟨W, rfl⟩ := Int.eq_ofNat_of_zero_le (show 0 <= w by omega)
  rw [<- bwV_mul ts (show 1 <= W by omega)]
  exact lit_int [0] (bw_runs lo.off ⟨by omega, by omega⟩ hn) (by kernel_rfl)
 ·cases h
noncomputable def L7 : Tab := (((L6.put 201 0 Ttables).put 167 0 TPlain).put 203 0 TStraus).put 204 0 Tbuckets
theorem okL7 [Lone] : SpecOk Tryz.prog L7 := (((okL6.put ok_tables).put ok_Plain).put ok_Straus).put ok_buckets
end Go.Sc
namespace Go.Sc
open Go Go.SX Go.Proofs
variable [Level] [Lone]
noncomputable def suR (k : List Item) (s : St) : Tree Out := runK L7 Tryz.prog noLoops 400 k s
noncomputable def suS (ts : MoT) (n : Nat) : St := ⟨enterT Tryz.f168 [.c (.ro TM ts n)], []⟩
def suB (n : Nat) : Bool := decide ((1 <= sui n 11 /\ sui n 11 <= 12) /\ 1 <= n /\ n <= 1048576)
def suC (n : Nat) : Bool := decide ((1 <= (tbB n 8).1 /\ (tbB n 8).1 <= 8) /\ 1 <= n /\ n <= 8192)
theorem su_a (ts : MoT) (n : Nat) : endT Tryz.prog Tryz.f168 [] [true, true, true, true] (suR [.code (cd Tryz.f168)] (suS ts n)) =
  some ([decide ((n : Int) <= 8192) == true, decide (1 <= sui n 11), decide ((tbB n 8).2 < mst n (sui n 11)), suC n], .tup [ws (limbs (mulS ts n % ell)), .g [.c .any, .c .any]], []) := by kernel_rfl
theorem su_b (ts : MoT) (n : Nat) : endT Tryz.prog Tryz.f168 [] [true, true, false, true] (suR [.code (cd Tryz.f168)] (suS ts n)) =
  some ([decide ((n : Int) <= 8192) == true, decide (1 <= sui n 11), decide ((tbB n 8).2 < mst n (sui n 11)), suB n], .tup [ws (limbs (mulS ts n % ell)), .g [.c .any, .c .any]], []) := by kernel_rfl
theorem su_runs {ts : MoT} {n : Nat} (hn : 1 <= n /\ n <= 8192) : Runs Tryz.prog L7 Tryz.f168 0 [.code (cd Tryz.f168)] (suS ts n) (.tup [ws (limbs (mulS ts n % ell)), .g [.c .any, .c .any]]) [] := by
 obtain ⟨h1, h2⟩ := sui_pos n 11;obtain ⟨h3, h4⟩ := tbB_pos n 7;have hB : suB n = true := deT ⟨⟨h1, h2⟩, hn.1, by omega⟩
 have hC : suC n = true := deT ⟨⟨h3, h4⟩, hn⟩
 by_cases hl : (tbB n 8).2 < mst n (sui n 11)
 ·have h := su_a ts n
  rw [hC, deT hl, deT h1, deT (show (n : Int) <= 8192 by omega)] at h
  exact Runs.last okL7 mx h rfl (by rfl)
 ·have h := su_b ts n
  rw [hB, deF hl, deT h1, deT (show (n : Int) <= 8192 by omega)] at h
  exact Runs.last okL7 mx h rfl (by rfl)
def TmSum (vs : List V1) (hl : Heap) : Tree (SV × Heap) :=
 match vs, hl with
 | [.c (.ro (.pair (.ws .u64 4) (.pair (.pair (.ws .u64 4) .unit) .unit)) ts n)], [] => Tree.chk (decide (1 <= n /\ n <= 8192)) (.ret (.tup [ws (limbs (mulS ts n % ell)), .g [.c .any, .c .any]], []))
 | _, _ => .fail
theorem ok_mSum : EntryOk Tryz.prog G0 168 TmSum := by
 refine EntryOk.runs (S := L7) (fn := Tryz.f168) (c := cd Tryz.f168) (by kernel_rfl) (by kernel_rfl) (by kernel_rfl) (fun vs hl r hl' ok h => ?_)
 unfold TmSum at h;split at h
 ·rename_i ts n;obtain ⟨h1, h2⟩ := val_chk h;obtain ⟨rfl, rfl⟩ := Prod.mk.inj (val_ret h2);exact su_runs (ofD h1)
 ·cases h
noncomputable def L8 : Tab := L7.put 168 0 TmSum
theorem okL8 : SpecOk Tryz.prog L8 := okL7.put ok_mSum
noncomputable def gsS (ts : MoT) (n : Nat) : St := ⟨enterT Tryz.f110 [.c (.ro TM ts n)], []⟩
noncomputable def gsR (k : List Item) (s : St) : Tree Out := runK L8 Tryz.prog noLoops 400 k s
theorem gs_a (ts : MoT) (n : Nat) : endT Tryz.prog Tryz.f110 [] [true, true] (gsR [.code (cd Tryz.f110)] (gsS ts n)) = some ([decide ((n : Int) < 24), decide (n <= 1048576)], .one (ws (limbs (mulS ts n % ell))), []) := by kernel_rfl
theorem gs_b (ts : MoT) (n : Nat) : endT Tryz.prog Tryz.f110 [] [false, true] (gsR [.code (cd Tryz.f110)] (gsS ts n)) = some ([decide ((n : Int) < 24), decide (1 <= n /\ n <= 8192)], .one (ws (limbs (mulS ts n % ell))), []) := by kernel_rfl
def Tgsum (vs : List V1) (hl : Heap) : Tree (SV × Heap) :=
 match vs, hl with
 | [.c (.ro (.pair (.ws .u64 4) (.pair (.pair (.ws .u64 4) .unit) .unit)) ts n)], [] => Tree.chk (decide (n <= 8192)) (.ret (.one (ws (limbs (mulS ts n % ell))), []))
 | _, _ => .fail
theorem ok_gsum : EntryOk Tryz.prog G0 110 Tgsum := by
 refine EntryOk.runs (S := L8) (fn := Tryz.f110) (c := cd Tryz.f110) (by kernel_rfl) (by kernel_rfl) (by kernel_rfl) (fun vs hl r hl' ok h => ?_)
 unfold Tgsum at h;split at h
 ·rename_i ts n;obtain ⟨h1, h2⟩ := val_chk h;obtain ⟨rfl, rfl⟩ := Prod.mk.inj (val_ret h2);have h1 := ofD h1
  by_cases h24 : (n : Int) < 24
  ·have h := gs_a ts n
   rw [deT h24, deT (by omega)] at h
   exact Runs.last okL8 mx h rfl (by rfl)
  ·have h := gs_b ts n
   rw [deF h24, deT (show 1 <= n /\ n <= 8192 by omega)] at h
   exact Runs.last okL8 mx h rfl (by rfl)
 ·cases h
noncomputable def L9 : Tab := L8.put 110 0 Tgsum
theorem okL9 : SpecOk Tryz.prog L9 := okL8.put ok_gsum
def gSet (B D Q : List Int) (gs hs : List PL.den) (ng nh : Nat) : List FCell := [.ws .u64 4 B, .ws .u64 4 D, .ws .u64 4 Q, .c (.ro PL gs ng), .c (.ro PL hs nh)]
noncomputable def gcR (k : List Item) (s : St) : Tree Out := runK L9 Tryz.prog noLoops 400 k s
noncomputable def gcS (B D Q : List Int) (gs hs : List PL.den) (ng nh : Nat) (v d : List Int) : St := ⟨enterT Tryz.f49 [.g (gSet B D Q gs hs ng nh), ws v, ws d], []⟩
def comS (B D v d : List Int) : Int := val v * val B + val d * val D
theorem gc_a (B D Q : List Int) (gs hs : List PL.den) (ng nh : Nat) (v d : List Int) : endT Tryz.prog Tryz.f49 [] [true] (gcR [.code (cd Tryz.f49)] (gcS B D Q gs hs ng nh v d)) =
  some ([true], .one (ws (limbs (mulS [(v, (B, ()), ()), (d, (D, ()), ())] 2 % ell))), []) := by kernel_rfl
theorem mulS_2 (B D v d : List Int) : mulS [(v, (B, ()), ()), (d, (D, ()), ())] 2 = comS B D v d := by
 show 0 + val v * val B + val d * val D = val v * val B + val d * val D
 omega
def TgCommit (vs : List V1) (hl : Heap) : Tree (SV × Heap) :=
 match vs, hl with
 | [.g [.ws .u64 4 B, .ws .u64 4 D, .ws .u64 4 _, .c (.ro (.pair (.ws .u64 4) .unit) _ _), .c (.ro (.pair (.ws .u64 4) .unit) _ _)], .g [.ws .u64 4 v], .g [.ws .u64 4 d]], [] => .ret (.one (ws (limbs (comS B D v d % ell))), [])
 | _, _ => .fail
theorem ok_gCommit : EntryOk Tryz.prog G0 49 TgCommit := by
 refine EntryOk.runs (S := L9) (fn := Tryz.f49) (c := cd Tryz.f49) (by kernel_rfl) (by kernel_rfl) (by kernel_rfl) (fun vs hl r hl' ok h => ?_)
 unfold TgCommit at h;split at h
 ·rename_i B D Q gs ng hs nh v d;obtain ⟨rfl, rfl⟩ := Prod.mk.inj (val_ret h);rw [<- mulS_2];exact Runs.last okL9 mx (gc_a B D Q gs hs ng nh v d) rfl (by rfl)
 ·cases h
def gK (gs : List PL.den) (i : Nat) : List Int := (gs.getD i PL.dflt).1
def addT (ts : MoT) (k p : List Int) : MoT := ts ++ ([(k, (p, ()), ())] : List TM.den)
theorem addT_len (ts : MoT) (k p : List Int) : (addT ts k p).length = ts.length + 1 := List.length_append
noncomputable def gvS (B D Q : List Int) (gs hs : List PL.den) (ng nh : Nat) (xa xb : List (List Int)) (na nb : Nat) (d : List Int) : St := ⟨enterT Tryz.f52 [.g (gSet B D Q gs hs ng nh), .c (.ro WS xa na), .c (.ro WS xb nb), ws d], []⟩
noncomputable def gvK : List Item := leftT [true, false] (gcR [.code (cd Tryz.f52)] (gvS [] [] [] [] [] 0 0 [] [] 0 0 []))
noncomputable def gvH (B D Q : List Int) (gs hs : List PL.den) (ng nh : Nat) (d : List Int) (ts : MoT) : Heap := [.vals (gSet B D Q gs hs ng nh), .vals [.ws .u64 4 d], .vals [.ws .u64 4 zL], .vals [.ws .u64 4 zL], .arr TM ts 0 []]
noncomputable def gvT (B D Q : List Int) (gs hs : List PL.den) (ng nh : Nat) (xa xb : List (List Int)) (na nb : Nat) (d : List Int) (ts : MoT) (m : Nat) (i : Int) : St :=
 ⟨slotsOf 74 [(2, one (.ro WS xb nb)), (4, pt 0), (7, pt 1), (8, pt 2), (9, one (.int false .i64 0)), (10, pt 3), (11, one (.sl 4 0 m)), (36, one (.ro WS xa na)), (37, one (.int false .i64 na)), (38, one (.int false .i64 i))], gvH B D Q gs hs ng nh d ts⟩
noncomputable def gvK2 : List Item := leftT [false] (gcR gvK (gvT [] [] [] [] [] 0 0 [] [] 0 0 [] [] 0 0))
noncomputable def gvU (B D Q : List Int) (gs hs : List PL.den) (ng nh : Nat) (xb : List (List Int)) (nb : Nat) (d : List Int) (ts : MoT) (m : Nat) (i : Int) : St :=
 ⟨slotsOf 74 [(4, pt 0), (7, pt 1), (8, pt 2), (9, one (.int false .i64 0)), (10, pt 3), (11, one (.sl 4 0 m)), (54, one (.ro WS xb nb)), (55, one (.int false .i64 nb)), (56, one (.int false .i64 i))], gvH B D Q gs hs ng nh d ts⟩
section
variable (B D Q : List Int) (gs hs : List PL.den) (ng nh : Nat) (xa xb : List (List Int)) (na nb : Nat) (d : List Int) (ts : MoT) (m i : Nat)
theorem gv_a : pieceT [2, 4, 7, 8, 9, 10, 11, 36, 37, 38] [9, 38] (List.range 5) [true, false] (gcR [.code (cd Tryz.f52)] (gvS B D Q gs hs ng nh xa xb na nb d)) =
  some ([decide ((na : Int) > ng) == false, decide ((nb : Int) > nh)], gvK, gvT B D Q gs hs ng nh xa xb na nb d [(d, (D, ()), ())] 1 (0 : Nat)) := by kernel_rfl
theorem gv_b : pieceT [2, 4, 7, 8, 9, 10, 11, 36, 37, 38] [9, 38] [0, 1, 2, 3, 7] [true, true, true, true] (gcR gvK (gvT B D Q gs hs ng nh xa xb na nb d ts m i)) =
  some ([decide ((i : Int) < na), decide (0 <= (i : Int) /\ (i : Int) < na), decide (0 <= (i : Int) /\ (i : Int) < ng), decide (m = ts.length) && (SX.room (m + 1) (Tryz.prog.bytesOf 217) && SX.room (m + 1) 1)], gvK,
   gvT B D Q gs hs ng nh xa xb na nb d (addT ts (xa.getD i zL) (gK gs i)) (m + 1) (iw ((i : Int) + 1))) := by kernel_rfl
theorem gv_c : pieceT [4, 7, 8, 9, 10, 11, 54, 55, 56] [9, 56] (List.range 5) [false] (gcR gvK (gvT B D Q gs hs ng nh xa xb na nb d ts m i)) =
  some ([decide ((i : Int) < na)], gvK2, gvU B D Q gs hs ng nh xb nb d ts m (0 : Nat)) := by kernel_rfl
theorem gv_d : pieceT [4, 7, 8, 9, 10, 11, 54, 55, 56] [9, 56] [0, 1, 2, 3, 7] [true, true, true, true] (gcR gvK2 (gvU B D Q gs hs ng nh xb nb d ts m i)) =
  some ([decide ((i : Int) < nb), decide (0 <= (i : Int) /\ (i : Int) < nb), decide (0 <= (i : Int) /\ (i : Int) < nh), decide (m = ts.length) && (SX.room (m + 1) (Tryz.prog.bytesOf 217) && SX.room (m + 1) 1)], gvK2,
   gvU B D Q gs hs ng nh xb nb d (addT ts (xb.getD i zL) (gK hs i)) (m + 1) (iw ((i : Int) + 1))) := by kernel_rfl
theorem gv_e : endT Tryz.prog Tryz.f52 [] [false, true] (gcR gvK2 (gvU B D Q gs hs ng nh xb nb d ts m i)) = some ([decide ((i : Int) < nb), decide (m <= 8192)], .tup [ws (limbs (mulS (ts.drop 0) m % ell)), .c (.int true .i64 0)], []) := by kernel_rfl
end
def vecN (xs : List (List Int)) (gs : List PL.den) (n : Nat) : Int := sumN (fun i => val (xs.getD i zL) * val (gK gs i)) n
def vecS (D d : List Int) (xa xb : List (List Int)) (gs hs : List PL.den) (na nb : Nat) : Int := val d * val D + vecN xa gs na + vecN xb hs nb
theorem addT_at (ts : MoT) (k p : List Int) : (addT ts k p).getD ts.length TM.dflt = ((k, (p, ()), ()) : TM.den) := by
 unfold addT;rw [List.getD_eq_getElem?_getD, List.getElem?_append_right (Nat.le_refl _), Nat.sub_self]
 rfl
theorem addT_lt (ts : MoT) (k p : List Int) {i : Nat} (hi : i < ts.length) : (addT ts k p).getD i TM.dflt = ts.getD i TM.dflt := by
 unfold addT;rw [List.getD_eq_getElem?_getD, List.getD_eq_getElem?_getD, List.getElem?_append_left hi]
theorem mulS_app (ts : MoT) (k p : List Int) : mulS (addT ts k p) (ts.length + 1) = mulS ts ts.length + val k * val p := by
 have h1 : mulS (addT ts k p) ts.length = mulS ts ts.length := sumN_congr fun i hi => by
  unfold kT pT;rw [addT_lt ts k p hi]
 have h2 : kT (addT ts k p) ts.length = val k := by
  unfold kT;rw [addT_at]
 have h3 : pT (addT ts k p) ts.length = val p := by
  unfold pT;rw [addT_at]
 show mulS (addT ts k p) ts.length + kT (addT ts k p) ts.length * pT (addT ts k p) ts.length = _
 rw [h1, h2, h3]
abbrev RV (k : List Item) (s : St) (X : Int) : Prop := Runs Tryz.prog L9 Tryz.f52 0 k s (.tup [ws (limbs (X % ell)), .c (.int true .i64 0)]) []
theorem gv_room {m : Nat} (h : m <= 8192) : (SX.room m (Tryz.prog.bytesOf 217) && SX.room m 1) = true := by
 rw [show Tryz.prog.bytesOf 217 = 64 from by kernel_rfl, room_ok (by omega), room_ok (by omega)]; rfl
theorem gv_runs {B D Q : List Int} {gs hs : List PL.den} {ng nh : Nat} {xa xb : List (List Int)} {na nb : Nat} {d : List Int} (ha : na <= ng) (hb : nb <= nh) (hn : 1 + na + nb <= 8192) : RV [.code (cd Tryz.f52)] (gvS B D Q gs hs ng nh xa xb na nb d) (vecS D d xa xb gs hs na nb) := by
 have h := gv_a B D Q gs hs ng nh xa xb na nb d
 rw [deF (show ¬ ((na : Int) > ng) by omega), deF (show ¬ ((nb : Int) > nh) by omega)] at h
 refine Runs.piece okL9 mx h rfl (by rfl) ?_
 refine loopG (st := fun k (a : MoT) => gvT B D Q gs hs ng nh xa xb na nb d a (1 + k) k) (I := fun k a => a.length = 1 + k /\ mulS a a.length = val d * val D + vecN xa gs k) (n := na) (fun k a hk hI => ?_) (fun a hI => ?_) na 0 [(d, (D, ()), ())] (by omega) ⟨rfl, by show 0 + val d * val D = val d * val D + 0; omega⟩
 ·obtain ⟨h1, h2⟩ := hI;have h := gv_b B D Q gs hs ng nh xa xb na nb d a (1 + k) k
  rw [deT (show (k : Int) < na by omega), deT (show 0 <= (k : Int) /\ (k : Int) < na by omega), deT (show 0 <= (k : Int) /\ (k : Int) < ng by omega), deT h1.symm, gv_room (by omega), iwk (by omega)] at h
  refine ⟨_, ⟨by rw [addT_len, h1]; rfl, ?_⟩, fun hr => Runs.piece okL9 mx h rfl (by rfl) hr⟩
  rw [addT_len, mulS_app, h2, Int.add_assoc];rfl
 ·obtain ⟨h1, h2⟩ := hI;have h := gv_c B D Q gs hs ng nh xa xb na nb d a (1 + na) na
  rw [deF (by omega)] at h
  refine Runs.piece okL9 mx h rfl (by rfl) ?_
  refine loopG (st := fun k (a : MoT) => gvU B D Q gs hs ng nh xb nb d a (1 + na + k) k) (I := fun k a => a.length = 1 + na + k /\ mulS a a.length = val d * val D + vecN xa gs na + vecN xb hs k) (n := nb) (fun k a hk hI => ?_) (fun a hI => ?_) nb 0 a (by omega) ⟨h1, by rw [h2]; show _ = _ + 0; omega⟩
  ·obtain ⟨h1, h2⟩ := hI;have h := gv_d B D Q gs hs ng nh xb nb d a (1 + na + k) k
   rw [deT (show (k : Int) < nb by omega), deT (show 0 <= (k : Int) /\ (k : Int) < nb by omega), deT (show 0 <= (k : Int) /\ (k : Int) < nh by omega), deT h1.symm, gv_room (by omega), iwk (by omega)] at h
   refine ⟨_, ⟨by rw [addT_len, h1]; rfl, ?_⟩, fun hr => Runs.piece okL9 mx h rfl (by rfl) hr⟩
   rw [addT_len, mulS_app, h2, Int.add_assoc];rfl
  ·obtain ⟨h1, h2⟩ := hI;have h := gv_e B D Q gs hs ng nh xb nb d a (1 + na + nb) nb
   rw [deF (by omega), deT (show 1 + na + nb <= 8192 by omega), List.drop_zero, <- h1, h2] at h
   rw [h1] at h;exact Runs.last okL9 mx h rfl (by rfl)
def TgVectors (vs : List V1) (hl : Heap) : Tree (SV × Heap) :=
 match vs, hl with
 | [.g [.ws .u64 4 _, .ws .u64 4 D, .ws .u64 4 _, .c (.ro (.pair (.ws .u64 4) .unit) gs ng), .c (.ro (.pair (.ws .u64 4) .unit) hs nh)], .c (.ro (.ws .u64 4) xa na), .c (.ro (.ws .u64 4) xb nb), .g [.ws .u64 4 d]], [] =>
  Tree.chk (decide (na <= ng /\ nb <= nh /\ 1 + na + nb <= 8192)) (.ret (.tup [ws (limbs (vecS D d xa xb gs hs na nb % ell)), .c (.int true .i64 0)], []))
 | _, _ => .fail
theorem ok_gVectors : EntryOk Tryz.prog G0 52 TgVectors := by
 refine EntryOk.runs (S := L9) (fn := Tryz.f52) (c := cd Tryz.f52) (by kernel_rfl) (by kernel_rfl) (by kernel_rfl) (fun vs hl r hl' ok h => ?_)
 unfold TgVectors at h;split at h
 ·rename_i B D Q gs ng hs nh xa na xb nb d;obtain ⟨h1, h2⟩ := val_chk h;obtain ⟨q1, q2, q3⟩ := ofD h1;obtain ⟨rfl, rfl⟩ := Prod.mk.inj (val_ret h2);exact gv_runs q1 q2 q3
 ·cases h
noncomputable def L10 : Tab := (L9.put 49 0 TgCommit).put 52 0 TgVectors
theorem okL10 : SpecOk Tryz.prog L10 := (okL9.put ok_gCommit).put ok_gVectors
end Go.Sc
