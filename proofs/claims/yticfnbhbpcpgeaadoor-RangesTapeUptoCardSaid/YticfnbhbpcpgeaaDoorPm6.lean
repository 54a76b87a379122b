/-
  ReadTape, by the program and by the document.
-/
import Derived.Test.YticfnbhbpcpgeaaDoorPm5
namespace Go.Sc
open Go Go.SX Go.Proofs

def nN (s : Int) : Int := iw (iw (2 * s) + 4)
def n1 (s : Int) : Int := iw (2 + s)
def n2 (s : Int) : Int := iw (2 + iw (2 * s))
def n3 (s : Int) : Int := iw (3 + iw (2 * s))
def n2' (s : Int) : Int := iw (iw (2 * s) + 2)
def n3' (s : Int) : Int := iw (iw (2 * s) + 3)
def tz : List FCell := [.ws .u64 4 [0, 0, 0, 0], .ws .u64 4 [0, 0, 0, 0], .ws .u64 4 [0, 0, 0, 0], .ws .u64 4 [0, 0, 0, 0], .c .nils, .c .nils]
def tl (xs : List Int) (s : Int) : List (List Int) := tapeL xs (nN s).toNat
def z4 : List Int := [0, 0, 0, 0]
def cA (s : Int) (len : Nat) : Bool := decide (nN s < 0 ∨ 4096 < nN s)
def cB (s : Int) (len : Nat) : Bool := decide ((len : Int) < 64 * nN s)
def cS (xs : List Int) (s : Int) : Bool := decide (0 ≤ n1 s) && decide (2 ≤ (n1 s).toNat ∧ 0 + (n1 s).toNat ≤ (tl xs s).length)
def cR (xs : List Int) (s : Int) : Bool := decide (0 ≤ n1 s) && decide (0 ≤ n2 s) && decide ((n1 s).toNat ≤ (n2 s).toNat ∧ 0 + (n2 s).toNat ≤ (tl xs s).length)
def pS (xs : List Int) (s : Int) : List (List Int) := ((tl xs s).drop (0 + 2)).take ((n1 s).toNat - 2)
def pR (xs : List Int) (s : Int) : List (List Int) := ((tl xs s).drop (0 + (n1 s).toNat)).take ((n2 s).toNat - (n1 s).toNat)
def pSl (xs : List Int) (s : Int) : Nat := (pS xs s).length
def pRl (xs : List Int) (s : Int) : Nat := (pR xs s).length
noncomputable def rmS (l : List (List Int)) : Bool := SX.room l.length (Tryd.prog.bytesOf 28) && SX.room l.length 1
def at_ (xs : List Int) (s i : Int) : List Int := (tl xs s).getD (0 + i.toNat) z4
theorem rt_1 (b c : Int) (xs : List Int) (len : Nat) : (bodyT E13 Tryd.prog allLoops Tryd.f21 (cd Tryd.f21) [pr b c, .c (.ro B1 xs len)] []).path [true] = some ([!alw b c], .tup [.g tz, .c (.int true .i64 130)], []) := by kernel_rfl
theorem rt_2 (b c : Int) (xs : List Int) (len : Nat) : (bodyT E13 Tryd.prog allLoops Tryd.f21 (cd Tryd.f21) [pr b c, .c (.ro B1 xs len)] []).path [false, true, false, true] =
    some ([!alw b c, decide (len ≤ 1099511627776), cA (iw (b * c)) len, cB (iw (b * c)) len], .tup [.g tz, .c (.int true .i64 5)], []) := by kernel_rfl
theorem rt_3 (b c : Int) (xs : List Int) (len : Nat) : (bodyT E13 Tryd.prog allLoops Tryd.f21 (cd Tryd.f21) [pr b c, .c (.ro B1 xs len)] []).path [false, true, false, false, true, true, true, true, true, true, true, true] =
    some ([!alw b c, decide (len ≤ 1099511627776), cA (iw (b * c)) len, cB (iw (b * c)) len, cS xs (iw (b * c)), rmS (pS xs (iw (b * c))), cR xs (iw (b * c)), rmS (pR xs (iw (b * c))),
      decide (0 ≤ (0 : Int) ∧ (0 : Int) < (nN (iw (b * c))).toNat), decide (0 ≤ (1 : Int) ∧ (1 : Int) < (nN (iw (b * c))).toNat), decide (0 ≤ n2' (iw (b * c)) ∧ n2' (iw (b * c)) < (nN (iw (b * c))).toNat), decide (0 ≤ n3' (iw (b * c)) ∧ n3' (iw (b * c)) < (nN (iw (b * c))).toNat)],
      .tup [.g [.ws .u64 4 (at_ xs (iw (b * c)) 0), .ws .u64 4 (at_ xs (iw (b * c)) 1), .ws .u64 4 (at_ xs (iw (b * c)) (n2' (iw (b * c)))), .ws .u64 4 (at_ xs (iw (b * c)) (n3' (iw (b * c)))), .c (.sl 0 0 (pSl xs (iw (b * c)))), .c (.sl 1 0 (pRl xs (iw (b * c))))], .c (.int true .i64 0)],
      [.arr WS (pS xs (iw (b * c))) 0 [], .arr WS (pR xs (iw (b * c))) 0 []]) := by kernel_rfl
theorem ru_1 (b c : Int) (xs : List Int) (len : Nat) : (bodyT E13 Tryd.prog allLoops Tryd.f22 (cd Tryd.f22) [pr b c, .c (.ro B1 xs len)] []).path [true] = some ([!alw b c], .tup [.g tz, .c (.int true .i64 130)], []) := by kernel_rfl
theorem ru_2 (b c : Int) (xs : List Int) (len : Nat) : (bodyT E13 Tryd.prog allLoops Tryd.f22 (cd Tryd.f22) [pr b c, .c (.ro B1 xs len)] []).path [false, true, false, true] =
    some ([!alw b c, decide (len ≤ 1099511627776 ∧ nN (iw (b * c)) ≠ 0), cA (iw (b * c)) len, cB (iw (b * c)) len], .tup [.g tz, .c (.int true .i64 5)], []) := by kernel_rfl
theorem ru_3 (b c : Int) (xs : List Int) (len : Nat) : (bodyT E13 Tryd.prog allLoops Tryd.f22 (cd Tryd.f22) [pr b c, .c (.ro B1 xs len)] []).path [false, true, false, false, true, true, true, true, true, true] =
    some ([!alw b c, decide (len ≤ 1099511627776 ∧ nN (iw (b * c)) ≠ 0), cA (iw (b * c)) len, cB (iw (b * c)) len, decide (0 ≤ (0 : Int) ∧ (0 : Int) < (nN (iw (b * c))).toNat), decide (0 ≤ (1 : Int) ∧ (1 : Int) < (nN (iw (b * c))).toNat), cS xs (iw (b * c)), cR xs (iw (b * c)),
      decide (0 ≤ n2 (iw (b * c)) ∧ n2 (iw (b * c)) < (nN (iw (b * c))).toNat), decide (0 ≤ n3 (iw (b * c)) ∧ n3 (iw (b * c)) < (nN (iw (b * c))).toNat)],
      .tup [.g [.ws .u64 4 (at_ xs (iw (b * c)) 0), .ws .u64 4 (at_ xs (iw (b * c)) 1), .ws .u64 4 (at_ xs (iw (b * c)) (n2 (iw (b * c)))), .ws .u64 4 (at_ xs (iw (b * c)) (n3 (iw (b * c)))), .c (.sl 0 (0 + 2) ((n1 (iw (b * c))).toNat - 2)), .c (.sl 0 (0 + (n1 (iw (b * c))).toNat) ((n2 (iw (b * c))).toNat - (n1 (iw (b * c))).toNat))], .c (.int true .i64 0)],
      [.arr WS (tl xs (iw (b * c))) 0 []]) := by kernel_rfl

theorem tapeL_len (xs : List Int) (n : Nat) : (tapeL xs n).length = n := by unfold tapeL; rw [List.length_map, List.length_range]
theorem nums {s : Nat} (h : 1 ≤ s ∧ s ≤ 1024) : nN s = ((2 * s + 4 : Nat) : Int) ∧ n1 s = ((2 + s : Nat) : Int) ∧ n2 s = ((2 + 2 * s : Nat) : Int) ∧ n3 s = ((3 + 2 * s : Nat) : Int) ∧ n2' s = ((2 + 2 * s : Nat) : Int) ∧ n3' s = ((3 + 2 * s : Nat) : Int) := by
  unfold nN n1 n2 n3 n2' n3'
  have e : iw (2 * (s : Int)) = ((2 * s : Nat) : Int) := by rw [show 2 * (s : Int) = ((2 * s : Nat) : Int) from by omega]; exact wrap64 (by omega)
  rw [e]
  refine ⟨?_, ?_, ?_, ?_, ?_, ?_⟩ <;> (refine (wrap64 ?_).trans ?_ <;> omega)
def tpS (xs : List Int) (s : Nat) : List (List Int) := ((tapeL xs (2 * s + 4)).drop 2).take s
def tpR (xs : List Int) (s : Nat) : List (List Int) := ((tapeL xs (2 * s + 4)).drop (2 + s)).take s
def tpA (xs : List Int) (s i : Nat) : List Int := (tapeL xs (2 * s + 4)).getD i z4
theorem tpS_len (xs : List Int) (s : Nat) : (tpS xs s).length = s := by unfold tpS; rw [List.length_take, List.length_drop, tapeL_len]; omega
theorem tpR_len (xs : List Int) (s : Nat) : (tpR xs s).length = s := by unfold tpR; rw [List.length_take, List.length_drop, tapeL_len]; omega
theorem rt_facts {s : Nat} (h : 1 ≤ s ∧ s ≤ 1024) (xs : List Int) (len : Nat) :
    cA s len = false ∧ cB s len = decide (len < 64 * (2 * s + 4)) ∧ cS xs s = true ∧ cR xs s = true ∧ pS xs s = tpS xs s ∧ pR xs s = tpR xs s ∧ tl xs s = tapeL xs (2 * s + 4) := by
  obtain ⟨e, e1, e2, _⟩ := nums h
  have et : tl xs s = tapeL xs (2 * s + 4) := by unfold tl; rw [e, Int.toNat_natCast]
  refine ⟨?_, ?_, ?_, ?_, ?_, ?_, et⟩
  · unfold cA; rw [e]; exact decide_eq_false (by omega)
  · unfold cB; rw [e]; exact decide_eq_decide.mpr (by omega)
  · unfold cS; rw [et, e1, tapeL_len, decide_eq_true (by omega), decide_eq_true (by omega)]; rfl
  · unfold cR; rw [et, e1, e2, tapeL_len, decide_eq_true (by omega), decide_eq_true (by omega), decide_eq_true (by omega)]; rfl
  · unfold pS tpS; rw [et, e1, Nat.zero_add]; congr 1; omega
  · unfold pR tpR; rw [et, e1, e2, Nat.zero_add]; congr 1; omega
theorem at_eq {s : Nat} (h : 1 ≤ s ∧ s ≤ 1024) (xs : List Int) (i : Nat) : at_ xs s (i : Int) = tpA xs s i := by
  unfold at_ tpA; rw [(rt_facts h xs 0).2.2.2.2.2.2, Int.toNat_natCast, Nat.zero_add]
theorem le_of_eq_le' {a b c : Nat} (h : a = b) (h' : b ≤ c) : a ≤ c := h ▸ h'
theorem rmS_ok {l : List (List Int)} (h : l.length ≤ 1024) : rmS l = true := by
  unfold rmS; rw [bytes_S]; simp [SX.room, h]; omega
theorem alw_mul {B C : Nat} (b1 : 1 ≤ B) (b2 : B ≤ 64) (b3 : 1 ≤ C) (b4 : C ≤ 16) : iw ((B : Int) * C) = ((B * C : Nat) : Int) ∧ 1 ≤ B * C ∧ B * C ≤ 1024 := by
  have hBC : B * C ≤ 64 * 16 := Nat.mul_le_mul b2 b4
  have h1 : 1 * 1 ≤ B * C := Nat.mul_le_mul b1 b3
  refine ⟨?_, by omega, by omega⟩
  rw [← Int.natCast_mul]; exact wrap64 (by omega)
def vT (xs : List Int) (s : Nat) (c d : Cell) : List FCell := [.ws .u64 4 (tpA xs s 0), .ws .u64 4 (tpA xs s 1), .ws .u64 4 (tpA xs s (2 + 2 * s)), .ws .u64 4 (tpA xs s (3 + 2 * s)), .c c, .c d]
def TReadTape (vs : List V1) (hl : Heap) : Tree (SV × Heap) :=
  match vs, hl with
  | [.g [.c (.int _ .i64 b), .c (.int _ .i64 c)], .c (.ro (.int .u8) xs len)], [] =>
    Tree.chk (decide (len ≤ 1099511627776)) (.br (alw b c) (.br (decide (len < 64 * (2 * (b.toNat * c.toNat) + 4))) (.ret (.tup [.g tz, .c (.int true .i64 5)], []))
      (.ret (.tup [.g (vT xs (b.toNat * c.toNat) (.sl 0 0 (b.toNat * c.toNat)) (.sl 1 0 (b.toNat * c.toNat))), .c (.int true .i64 0)], [.arr WS (tpS xs (b.toNat * c.toNat)) 0 [], .arr WS (tpR xs (b.toNat * c.toNat)) 0 []])))
      (.ret (.tup [.g tz, .c (.int true .i64 130)], [])))
  | _, _ => .fail
theorem ok_ReadTape : EntryOk Tryd.prog G0 21 TReadTape := by
  refine EntryOk.sub (bodyT_ok okE13 mx (un := allLoops) (fn := Tryd.f21) (c := cd Tryd.f21) (by kernel_rfl) (by kernel_rfl) (by kernel_rfl)).unlitG (fun vs hl r ok h => ?_)
  unfold TReadTape at h
  split at h
  · rename_i l b l' c xs len
    obtain ⟨h1, h2⟩ := val_chk h
    have h1 := of_decide_eq_true h1
    simp only [Tree.val] at h2
    cases ha : alw b c with
    | false =>
      rw [ha] at h2
      obtain rfl := Option.some.inj h2
      exact Tree.path_val (cs := [true]) ((rt_1 b c xs len).trans (by rw [ha]; rfl))
    | true =>
      rw [ha] at h2
      obtain ⟨B, C, rfl, rfl, b1, b2, b3, b4⟩ := alw_nat ha
      obtain ⟨em, s1, s2⟩ := alw_mul b1 b2 b3 b4
      obtain ⟨f1, f2, f3, f4, f5, f6, f7⟩ := rt_facts ⟨s1, s2⟩ xs len
      obtain ⟨g1, g2, g3, g4, g5, g6⟩ := nums (s := B * C) ⟨s1, s2⟩
      rw [Int.toNat_natCast, Int.toNat_natCast] at h2
      cases hl : decide (len < 64 * (2 * (B * C) + 4)) with
      | true =>
        rw [hl] at h2
        obtain rfl := Option.some.inj h2
        exact Tree.path_val (cs := [false, true, false, true]) ((rt_2 B C xs len).trans (by rw [ha, em, f1, f2, hl, decide_eq_true h1]; rfl))
      | false =>
        rw [hl] at h2
        obtain rfl := Option.some.inj h2
        have hp := rt_3 B C xs len
        have a0 : at_ xs (B * C : Nat) 0 = tpA xs (B * C) 0 := at_eq (s := B * C) ⟨s1, s2⟩ xs 0
        have a1 : at_ xs (B * C : Nat) 1 = tpA xs (B * C) 1 := at_eq (s := B * C) ⟨s1, s2⟩ xs 1
        have l1 : pSl xs (B * C : Nat) = B * C := by unfold pSl; rw [f5]; exact tpS_len xs (B * C)
        have l2 : pRl xs (B * C : Nat) = B * C := by unfold pRl; rw [f6]; exact tpR_len xs (B * C)
        have a2 := at_eq (s := B * C) ⟨s1, s2⟩ xs (2 + 2 * (B * C))
        have a3 := at_eq (s := B * C) ⟨s1, s2⟩ xs (3 + 2 * (B * C))
        rw [ha, em, f1, f2, f3, f4, f5, f6, g1, g5, g6, hl, a0, a1, a2, a3, decide_eq_true h1, rmS_ok (le_of_eq_le' (tpS_len xs (B * C)) s2), rmS_ok (le_of_eq_le' (tpR_len xs (B * C)) s2), l1, l2, Int.toNat_natCast,
          decide_eq_true (by omega), decide_eq_true (by omega), decide_eq_true (by omega), decide_eq_true (by omega)] at hp
        exact Tree.path_val hp
  · cases h
noncomputable def E14 : Tab := E13.put 21 2 TReadTape
theorem okE14 : SpecOk Tryd.prog E14 := okE13.put ok_ReadTape
def TrReadTape (vs : List V1) (hl : Heap) : Tree (SV × Heap) :=
  match vs, hl with
  | [.g [.c (.int _ .i64 b), .c (.int _ .i64 c)], .c (.ro (.int .u8) xs len)], [] =>
    Tree.chk (decide (len ≤ 1099511627776)) (.br (alw b c) (.br (decide (len < 64 * (2 * (b.toNat * c.toNat) + 4))) (.ret (.tup [.g tz, .c (.int true .i64 5)], []))
      (.ret (.tup [.g (vT xs (b.toNat * c.toNat) (.sl 0 2 (b.toNat * c.toNat)) (.sl 0 (2 + b.toNat * c.toNat) (b.toNat * c.toNat))), .c (.int true .i64 0)], [.arr WS (tapeL xs (2 * (b.toNat * c.toNat) + 4)) 0 []])))
      (.ret (.tup [.g tz, .c (.int true .i64 130)], [])))
  | _, _ => .fail
theorem ok_rReadTape : EntryOk Tryd.prog G0 22 TrReadTape := by
  refine EntryOk.sub (bodyT_ok okE13 mx (un := allLoops) (fn := Tryd.f22) (c := cd Tryd.f22) (by kernel_rfl) (by kernel_rfl) (by kernel_rfl)).unlitG (fun vs hl r ok h => ?_)
  unfold TrReadTape at h
  split at h
  · rename_i l b l' c xs len
    obtain ⟨h1, h2⟩ := val_chk h
    have h1 := of_decide_eq_true h1
    simp only [Tree.val] at h2
    cases ha : alw b c with
    | false =>
      rw [ha] at h2
      obtain rfl := Option.some.inj h2
      exact Tree.path_val (cs := [true]) ((ru_1 b c xs len).trans (by rw [ha]; rfl))
    | true =>
      rw [ha] at h2
      obtain ⟨B, C, rfl, rfl, b1, b2, b3, b4⟩ := alw_nat ha
      obtain ⟨em, s1, s2⟩ := alw_mul b1 b2 b3 b4
      obtain ⟨f1, f2, f3, f4, f5, f6, f7⟩ := rt_facts ⟨s1, s2⟩ xs len
      obtain ⟨g1, g2, g3, g4, g5, g6⟩ := nums (s := B * C) ⟨s1, s2⟩
      rw [Int.toNat_natCast, Int.toNat_natCast] at h2
      have hn : len ≤ 1099511627776 ∧ (nN (B * C : Nat)) ≠ 0 := ⟨h1, by rw [g1]; omega⟩
      cases hl : decide (len < 64 * (2 * (B * C) + 4)) with
      | true =>
        rw [hl] at h2
        obtain rfl := Option.some.inj h2
        exact Tree.path_val (cs := [false, true, false, true]) ((ru_2 B C xs len).trans (by rw [ha, em, f1, f2, hl, decide_eq_true hn]; rfl))
      | false =>
        rw [hl] at h2
        obtain rfl := Option.some.inj h2
        have hp := ru_3 B C xs len
        have a0 : at_ xs (B * C : Nat) 0 = tpA xs (B * C) 0 := at_eq (s := B * C) ⟨s1, s2⟩ xs 0
        have a1 : at_ xs (B * C : Nat) 1 = tpA xs (B * C) 1 := at_eq (s := B * C) ⟨s1, s2⟩ xs 1
        have a2 := at_eq (s := B * C) ⟨s1, s2⟩ xs (2 + 2 * (B * C))
        have a3 := at_eq (s := B * C) ⟨s1, s2⟩ xs (3 + 2 * (B * C))
        have e1 : (2 + B * C) - 2 = B * C := by omega
        have e2 : (2 + 2 * (B * C)) - (2 + B * C) = B * C := by omega
        rw [ha, em, f1, f2, f3, f4, f7, decide_eq_true hn, g1, g2, g3, g4, hl, a0, a1, a2, a3, Int.toNat_natCast, Int.toNat_natCast, Int.toNat_natCast, e1, e2, Nat.zero_add, Nat.zero_add,
          decide_eq_true (by omega), decide_eq_true (by omega), decide_eq_true (by omega), decide_eq_true (by omega)] at hp
        exact Tree.path_val hp
  · cases h
noncomputable def E15 : Tab := E14.put 22 1 TrReadTape
theorem okE15 : SpecOk Tryd.prog E15 := okE14.put ok_rReadTape
end Go.Sc
