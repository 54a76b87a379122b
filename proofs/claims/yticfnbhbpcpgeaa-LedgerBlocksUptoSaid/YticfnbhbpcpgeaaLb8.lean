/-
  LedgerBlocks, part 8: LedgerBlocks answers true.
-/
import Derived.Test.YticfnbhbpcpgeaaLb7
namespace Go.LB
open Go Go.SX Go.Proofs

def full3 (ms : List Int) (ml : Nat) : List Int := bts (ms, ml) ++ marks
structure Good (ms : List Int) (ml : Nat) (xss : Xs) (n : Nat) : Prop where
  ms : ms.length = ml
  ml : ml ≤ 1048576
  xs : xss.length = n
  n : n ≤ 1048576
  el : ∀ p ∈ xss, p.1.length = p.2 ∧ p.2 ≤ 1048576

theorem elt_mem {xss : Xs} {k : Nat} (h : k < xss.length) : elt xss k ∈ xss := by
  unfold elt
  rw [List.getD_eq_getElem?_getD, List.getElem?_eq_getElem h]
  exact List.getElem_mem h
theorem elt_map {f : List Int × Nat → List Int × Nat} {xss : Xs} {k : Nat} (h : k < xss.length) : elt (xss.map f) k = f (elt xss k) := by
  unfold elt
  rw [List.getD_eq_getElem?_getD, List.getElem?_map, List.getElem?_eq_getElem h, List.getD_eq_getElem?_getD, List.getElem?_eq_getElem h]; rfl
theorem take_map_succ {f : List Int × Nat → List Int × Nat} {xss : Xs} {k : Nat} (h : k < xss.length) : (xss.take (k + 1)).map f = (xss.take k).map f ++ [f (elt xss k)] := by
  rw [List.take_succ_eq_append_getElem h, List.map_append]
  unfold elt
  rw [List.getD_eq_getElem?_getD, List.getElem?_eq_getElem h]; rfl
theorem by24 : Try.prog.bytesOf 24 = 24 := by kernel_rfl
theorem rooms24 {n : Nat} (h : n ≤ 1048576) : (SX.room n (Try.prog.bytesOf 24) && SX.room n 1) = true := by
  rw [by24, room_ok (by omega), room_ok (by omega)]; rfl
/-- 'handed' while it is filled -/
def hdn (xss : Xs) (n k : Nat) : Xs := (xss.take k).map hm ++ List.replicate (n - k) ([], 0)
theorem hdn_len {xss : Xs} {n k : Nat} (hx : xss.length = n) (hk : k ≤ n) : (hdn xss n k).length = n := by
  unfold hdn; rw [List.length_append, List.length_map, List.length_take, List.length_replicate]; omega
theorem hdn_set {xss : Xs} {n k : Nat} (hx : xss.length = n) (hk : k < n) : (hdn xss n k).set k (hm (elt xss k)) = hdn xss n (k + 1) := by
  unfold hdn
  have e : n - k = (n - (k + 1)) + 1 := by omega
  rw [take_map_succ (by omega), List.append_assoc, e, List.replicate_succ, List.set_append_right _ _ (by rw [List.length_map, List.length_take]; omega)]
  rw [List.length_map, List.length_take, Nat.min_eq_left (by omega), Nat.sub_self]; rfl
theorem hdn_all {xss : Xs} {n : Nat} (hx : xss.length = n) : hdn xss n n = xss.map hm := by
  unfold hdn; rw [← hx, List.take_length, Nat.sub_self]; exact List.append_nil _

section
variable {ps : List Int} {h : Int} {ms : List Int} {ml : Nat} {xss : Xs} {n : Nat}
abbrev RR (K : List Item) (s : St) : Prop := Runs Try.prog S3 Try.f3 0 K s (.one (.c (.bool true true))) []

theorem lng_hd (g : Good ms ml xss n) : (List.take n (xss.map hm)).any lng = (xss.take n).any lng := by
  rw [← g.xs, List.take_of_length_le (by rw [List.length_map]; exact Nat.le_refl _), List.take_length, List.any_map]; rfl
theorem one5_hm {p : List Int × Nat} (h : p.1.length = p.2) : one5 (hm p) = one5 p := by
  unfold one5
  show num 10 p.2 ++ bts (bts p ++ marks, p.2) = num 10 p.2 ++ bts p
  congr 1
  unfold bts
  have : List.take p.2 p.1 = p.1 := List.take_of_length_le (by omega)
  show List.take p.2 (List.take p.2 p.1 ++ marks) = List.take p.2 p.1
  rw [this, ← h, List.take_left]
theorem flat_hd {l : Xs} (h : ∀ p ∈ l, p.1.length = p.2) : (l.map hm).flatMap one5 = l.flatMap one5 := by
  induction l with
  | nil => rfl
  | cons p l ih =>
    rw [List.map_cons, List.flatMap_cons, List.flatMap_cons, one5_hm (h p List.mem_cons_self), ih (fun q hq => h q (List.mem_cons_of_mem _ hq))]
theorem bts_full (g : Good ms ml xss n) : bts (full3 ms ml, ml) = bts (ms, ml) := by
  have e : bts (ms, ml) = ms := by unfold bts; exact List.take_of_length_le (by rw [g.ms]; exact Nat.le_refl _)
  unfold full3
  rw [e]
  unfold bts
  rw [← g.ms]; exact List.take_left
theorem blk_same (g : Good ms ml xss n) : blk5 ps h (full3 ms ml) ml (xss.map hm) n = blk5 ps h ms ml xss n := by
  unfold blk5 head5
  rw [bts_full g]
  have e1 : List.take n (xss.map hm) = xss.map hm := List.take_of_length_le (by rw [List.length_map, g.xs]; exact Nat.le_refl _)
  have e2 : List.take n xss = xss := List.take_of_length_le (by rw [g.xs]; exact Nat.le_refl _)
  rw [e1, e2, flat_hd (fun p hp => (g.el p hp).1)]
theorem flat_len {l : Xs} (h : ∀ p ∈ l, p.2 ≤ 1048576) : (l.flatMap one5).length ≤ l.length * 1048586 := by
  induction l with
  | nil => exact Nat.zero_le _
  | cons p l ih =>
    have h1 := one5_len p (decide_eq_false (by have := h p List.mem_cons_self; omega))
    have h2 := ih (fun q hq => h q (List.mem_cons_of_mem _ hq))
    rw [List.flatMap_cons, List.length_append, List.length_cons]; omega
theorem head_len (ps : List Int) (h : Nat) (ms : List Int) (ml n : Nat) : (head5 ps h ms ml n).length ≤ 100 + ml := by
  unfold head5
  have l1 := num_len 10 h
  have l2 := num_len 10 ml
  have l3 : (bts (ms, ml)).length ≤ ml := bts_len
  have l4 := num_len 10 n
  have l5 : (ps.take 64).length ≤ 64 := by rw [List.length_take]; omega
  simp only [List.length_append, List.length_cons, List.length_nil]; omega
theorem blk_len (g : Good ms ml xss n) (h32 : n ≤ 32) : (blk5 ps h ms ml xss n).length ≤ 1099511627700 - 1 := by
  unfold blk5
  have h1 := head_len ps h.toNat ms ml n
  have h2 := flat_len (l := xss.take n) (fun p hp => (g.el p (List.mem_of_mem_take hp)).2)
  have h3 : (xss.take n).length ≤ 32 := by rw [List.length_take]; omega
  have h4 := g.ml
  have h5 : (xss.take n).length * 1048586 ≤ 32 * 1048586 := Nat.mul_le_mul_right _ h3
  rw [List.length_append]; omega
theorem blk_one : (blk5 ps 1 [] 0 [] 0).length ≤ 1099511627700 - 1 := by
  unfold blk5
  have h1 := head_len ps 1 [] 0 0
  have h2 : (List.take 0 ([] : Xs)).flatMap one5 = [] := rfl
  rw [h2, List.append_nil]
  have : (1 : Int).toNat = 1 := rfl
  rw [this]; omega
theorem stays_ok (g : Good ms ml xss n) : t9 (full3 ms ml) (full3 ms ml).length ms ml = true := by
  unfold t9
  have e : (bts (ms, ml)).length = ml := bts_len' (by rw [g.ms]; exact Nat.le_refl _)
  have := g.ml
  refine decide_eq_true ⟨rfl, ?_, e, by omega⟩
  unfold full3
  rw [List.length_append, e]; rfl
theorem stays_el (g : Good ms ml xss n) {k : Nat} (hk : k < n) : t9 (elt (xss.map rm) k).1 (elt (xss.map rm) k).2 (elt xss k).1 (elt xss k).2 = true := by
  have hk' : k < xss.length := by rw [g.xs]; exact hk
  rw [elt_map hk']
  obtain ⟨h1, h2⟩ := g.el _ (elt_mem hk')
  have e : (bts (elt xss k)).length = (elt xss k).2 := bts_len' (xs := (elt xss k).1) (n := (elt xss k).2) (by omega)
  unfold t9
  refine decide_eq_true ⟨rfl, ?_, e, by omega⟩
  show (bts (elt xss k) ++ marks).length = _
  rw [List.length_append, e]; rfl
theorem full_len (g : Good ms ml xss n) : (full3 ms ml).length = ml + 3 := by
  have e : (bts (ms, ml)).length = ml := bts_len' (by rw [g.ms]; exact Nat.le_refl _)
  unfold full3
  rw [List.length_append, e]; rfl

/-- the tests along each of the four ways -/
theorem tests (g : Good ms ml xss n) : (true && decide (0 ≤ (ml : Int).toNat ∧ 0 + (ml : Int).toNat ≤ (full3 ms ml).length)) = true ∧ decide (n ≤ (List.drop 0 (xss.map hm)).length) = true ∧ decide (n ≤ xss.length) = true ∧
    ((ml : Int).toNat - 0) = ml ∧ decide ((blk5 ps 1 [] 0 [] 0).length = (blk5 ps 1 [] 0 [] 0).length ∧ (blk5 ps 1 [] 0 [] 0).length ≤ 1099511627700) = true := by
  have := full_len g
  have hb := blk_one (ps := ps)
  refine ⟨by rw [Bool.true_and]; exact decide_eq_true ⟨by omega, by omega⟩, decide_eq_true (by rw [List.drop_zero, List.length_map, g.xs]; exact Nat.le_refl _), decide_eq_true (by rw [g.xs]; exact Nat.le_refl _), by omega, decide_eq_true ⟨rfl, by omega⟩⟩

theorem Zall (g : Good ms ml xss n) (h0 : n = 0) : RR K3c (st3c ms ml xss n (full3 ms ml).length .nils (0 : Nat) (hp3 ps (full3 ms ml))) :=
  Runs.last ok3 mx (Zh ps 0 ms (full3 ms ml) ml (full3 ms ml).length xss n 0) (by rw [decide_eq_false (by omega)]) (by rfl)
theorem Nall (g : Good ms ml xss n) : RR K3c (st3c ms ml xss n (full3 ms ml).length (.sl 2 0 n) (0 : Nat) (hp3 ps (full3 ms ml) ++ [.arr B2 (xss.map rm) 0 []])) := by
  have hn := g.n
  refine loopG (st := fun k (_ : Unit) => st3c ms ml xss n (full3 ms ml).length (.sl 2 0 n) k (hp3 ps (full3 ms ml) ++ [.arr B2 (xss.map rm) 0 []])) (I := fun _ _ => True) (n := n) (fun k a hk _ => ⟨(), trivial, fun hr => ?_⟩) (fun _ _ => ?_) n 0 () (by omega) trivial
  · have hp := Ng ps 0 ms (full3 ms ml) ml (full3 ms ml).length xss (xss.map rm) n k
    rw [wsucc (by omega), decide_eq_true (by omega), decide_eq_true (by omega), Nat.zero_add, stays_el g hk] at hp
    exact Runs.piece ok3 mx hp rfl (by rfl) hr
  · exact Runs.last ok3 mx (Nh ps 0 ms (full3 ms ml) ml (full3 ms ml).length xss (xss.map rm) n n) (by rw [decide_eq_false (by omega)]) (by rfl)

theorem Zmid (g : Good ms ml xss n) (h0 : n = 0) : RR K3b (st3b h ms ml xss n (full3 ms ml).length .nils 2 n n (hp3 ps (full3 ms ml) ++ [.arr B2 (xss.map hm) 0 []])) := by
  obtain ⟨t1, t2, t3, t4, t5⟩ := tests (ps := ps) g
  have hn : ¬ ((n : Int) < n) := by omega
  by_cases hh : h < 1 ∨ 1048576 < h
  · have hp := Zc ps h ms (full3 ms ml) ml (full3 ms ml).length xss (xss.map hm) n n
    rw [decide_eq_false hn, t1, t2, t3, t5, decide_eq_true hh, stays_ok g] at hp
    exact Runs.piece ok3 mx hp rfl (by rfl) (Zall g h0)
  · by_cases hq : 32 < n ∨ 1048576 < ml
    · have hp := Zd ps h ms (full3 ms ml) ml (full3 ms ml).length xss (xss.map hm) n n
      rw [t4, decide_eq_false hn, t1, t2, t3, t5, decide_eq_false hh, decide_eq_true hq, stays_ok g] at hp
      exact Runs.piece ok3 mx hp rfl (by rfl) (Zall g h0)
    · cases ha : (xss.take n).any lng with
      | true =>
        have hp := Ze ps h ms (full3 ms ml) ml (full3 ms ml).length xss (xss.map hm) n n
        rw [t4, lng_hd g, ha, decide_eq_false hn, t1, t2, t3, t5, decide_eq_false hh, decide_eq_false hq, stays_ok g] at hp
        exact Runs.piece ok3 mx hp rfl (by rfl) (Zall g h0)
      | false =>
        have hp := Zf ps h ms (full3 ms ml) ml (full3 ms ml).length xss (xss.map hm) n n
        have eb : blk5 ps h (List.drop (0 + 0) (full3 ms ml)) ml (List.drop 0 (xss.map hm)) n = blk5 ps h ms ml xss n := blk_same g
        have b1 := blk_len (ps := ps) (h := h) g (by omega)
        have b2 := blk_one (ps := ps)
        rw [t4, eb, lng_hd g, ha, decide_eq_false hn, t1, t2, t3, decide_eq_false hh, decide_eq_false hq, stays_ok g, decide_eq_true rfl, decide_eq_true ⟨rfl, rfl, rfl, by omega, by omega, by omega⟩] at hp
        exact Runs.piece ok3 mx hp rfl (by rfl) (Zall g h0)
theorem Nmid (g : Good ms ml xss n) : RR K3b (st3b h ms ml xss n (full3 ms ml).length (.sl 2 0 n) 3 n n (hp3 ps (full3 ms ml) ++ [.arr B2 (xss.map rm) 0 [], .arr B2 (xss.map hm) 0 []])) := by
  obtain ⟨t1, t2, t3, t4, t5⟩ := tests (ps := ps) g
  have hn : ¬ ((n : Int) < n) := by omega
  by_cases hh : h < 1 ∨ 1048576 < h
  · have hp := Nc ps h ms (full3 ms ml) ml (full3 ms ml).length xss (xss.map rm) (xss.map hm) n n
    rw [decide_eq_false hn, t1, t2, t3, t5, decide_eq_true hh, stays_ok g] at hp
    exact Runs.piece ok3 mx hp rfl (by rfl) (Nall g)
  · by_cases hq : 32 < n ∨ 1048576 < ml
    · have hp := Nd ps h ms (full3 ms ml) ml (full3 ms ml).length xss (xss.map rm) (xss.map hm) n n
      rw [t4, decide_eq_false hn, t1, t2, t3, t5, decide_eq_false hh, decide_eq_true hq, stays_ok g] at hp
      exact Runs.piece ok3 mx hp rfl (by rfl) (Nall g)
    · cases ha : (xss.take n).any lng with
      | true =>
        have hp := Ne ps h ms (full3 ms ml) ml (full3 ms ml).length xss (xss.map rm) (xss.map hm) n n
        rw [t4, lng_hd g, ha, decide_eq_false hn, t1, t2, t3, t5, decide_eq_false hh, decide_eq_false hq, stays_ok g] at hp
        exact Runs.piece ok3 mx hp rfl (by rfl) (Nall g)
      | false =>
        have hp := Nf ps h ms (full3 ms ml) ml (full3 ms ml).length xss (xss.map rm) (xss.map hm) n n
        have eb : blk5 ps h (List.drop (0 + 0) (full3 ms ml)) ml (List.drop 0 (xss.map hm)) n = blk5 ps h ms ml xss n := blk_same g
        have b1 := blk_len (ps := ps) (h := h) g (by omega)
        have b2 := blk_one (ps := ps)
        rw [t4, eb, lng_hd g, ha, decide_eq_false hn, t1, t2, t3, decide_eq_false hh, decide_eq_false hq, stays_ok g, decide_eq_true rfl, decide_eq_true ⟨rfl, rfl, rfl, by omega, by omega, by omega⟩] at hp
        exact Runs.piece ok3 mx hp rfl (by rfl) (Nall g)

theorem mk_ok (hn : n ≤ 1048576) : decide (0 ≤ (n : Int) ∧ (n : Int) ≤ n ∧ (n : Int) ≤ 281474976710656 ∧ (Try.prog.bytesOf 24 : Int) * n ≤ 281474976710656) = true := by
  rw [by24]; exact decide_eq_true ⟨by omega, by omega, by omega, by omega⟩
theorem Zst (g : Good ms ml xss n) (h0 : n = 0) : RR K3a (st3 h ms ml xss n (full3 ms ml).length .nils (0 : Nat) (hp3 ps (full3 ms ml))) := by
  have hp := Za ps h ms (full3 ms ml) ml (full3 ms ml).length xss n 0
  rw [mk_ok g.n, decide_eq_false (by omega)] at hp
  have hr := Zmid (ps := ps) (h := h) g h0
  have hx : xss = [] := List.length_eq_zero_iff.mp (by rw [g.xs]; exact h0)
  refine Runs.piece ok3 mx hp rfl (by rfl) ?_
  subst hx
  subst h0
  exact hr
theorem Nfill (g : Good ms ml xss n) : RR K3b (st3b h ms ml xss n (full3 ms ml).length (.sl 2 0 n) 3 n (0 : Nat) (hp3 ps (full3 ms ml) ++ [.arr B2 (xss.map rm) 0 [], .arr B2 (List.replicate n ([], 0)) 0 []])) := by
  have hn := g.n
  refine loopG (st := fun k (x : Xs) => st3b h ms ml xss n (full3 ms ml).length (.sl 2 0 n) 3 n k (hp3 ps (full3 ms ml) ++ [.arr B2 (xss.map rm) 0 [], .arr B2 x 0 []])) (I := fun k x => x = hdn xss n k) (n := n) (fun k x hk hI => ⟨x.set k (hm (elt xss k)), by rw [hI, hdn_set g.xs hk], fun hr => ?_⟩) (fun x hI => ?_) n 0 (List.replicate n ([], 0)) (by omega) rfl
  · have hp := Nb ps h ms (full3 ms ml) ml (full3 ms ml).length xss (xss.map rm) x n k
    have hk' : k < xss.length := by rw [g.xs]; exact hk
    obtain ⟨h1, h2⟩ := g.el _ (elt_mem hk')
    have e : (bts (elt xss k)).length = (elt xss k).2 := bts_len' (xs := (elt xss k).1) (n := (elt xss k).2) (by omega)
    rw [wsucc (by omega), decide_eq_true (by omega), decide_eq_true (by omega), Nat.zero_add, elt_map hk', Bool.true_and, decide_eq_true (by show 0 ≤ _ ∧ _ ≤ (bts (elt xss k) ++ marks).length; rw [List.length_append, e]; omega)] at hp
    exact Runs.piece ok3 mx hp rfl (by rfl) hr
  · subst hI
    rw [hdn_all g.xs]
    exact Nmid g
theorem Nst (g : Good ms ml xss n) (h0 : 0 < n) : RR K3a (st3 h ms ml xss n (full3 ms ml).length .nils (0 : Nat) (hp3 ps (full3 ms ml))) := by
  have hn := g.n
  have h1 := wB ps h ms (full3 ms ml) ml (full3 ms ml).length xss n 0
  have hk' : 0 < xss.length := by rw [g.xs]; exact h0
  obtain ⟨_, h2⟩ := g.el _ (elt_mem hk')
  rw [wsucc (by omega), decide_eq_true (by omega), decide_eq_true (by omega), decide_eq_true (by omega)] at h1
  refine Runs.piece ok3 mx h1 rfl (by rfl) ?_
  refine loopG (st := fun k (x : Xs) => st3 h ms ml xss n (full3 ms ml).length (.sl 2 0 k) k (hp3 ps (full3 ms ml) ++ [.arr B2 x 0 []])) (I := fun k x => x = (xss.take k).map rm) (n := n) (fun k x hk hI => ⟨x ++ [rm (elt xss k)], by rw [hI, take_map_succ (by rw [g.xs]; exact hk)], fun hr => ?_⟩) (fun x hI => ?_) (n - 1) 1 [rm (elt xss 0)] (by omega) (by rw [take_map_succ hk']; rfl)
  · have hp := wC ps h ms (full3 ms ml) ml (full3 ms ml).length xss x n k k
    have hk' : k < xss.length := by rw [g.xs]; exact hk
    obtain ⟨_, h2⟩ := g.el _ (elt_mem hk')
    have hl : k = x.length := by rw [hI, List.length_map, List.length_take]; omega
    rw [wsucc (by omega), decide_eq_true (by omega), decide_eq_true (by omega), decide_eq_true (by omega), decide_eq_true hl, rooms24 (by omega)] at hp
    exact Runs.piece ok3 mx hp rfl (by rfl) hr
  · subst hI
    have hp := Na ps h ms (full3 ms ml) ml (full3 ms ml).length xss ((xss.take n).map rm) n n
    rw [mk_ok hn, decide_eq_false (by omega)] at hp
    refine Runs.piece ok3 mx hp rfl (by rfl) ?_
    have e : List.take n xss = xss := List.take_of_length_le (by rw [g.xs]; exact Nat.le_refl _)
    rw [e]
    exact Nfill g
theorem runs3 (g : Good ms ml xss n) : RR [.code (cd Try.f3)] (s3 ps h ms ml xss n) := by
  have h1 := wA ps h ms ml xss n
  have := g.ml
  rw [decide_eq_true (by omega)] at h1
  refine Runs.piece ok3 mx h1 rfl (by rfl) ?_
  by_cases h0 : n = 0
  · exact Zst g h0
  · exact Nst g (by omega)
end
end Go.LB
