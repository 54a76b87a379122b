/-
  SX, part 15: conversions, stores, copy.
-/
import Derived.Test.YticfnbhbpcpgeaaDoorSx14
namespace Go.SX
open Go
variable {G : GlobT} {E : Env} {P : Program}

/-! ### Stores -/
theorem single_all {vs : List Value} (h : ∀ v ∈ vs, single v) : ∀ v ∈ vs, v.oneCell' = true := fun v hv => single_oneCell (h v hv)

theorem run_storeVar {T : TypeId} {v : Value} {vs : List Value} (hv : v.cells.toList = vs) (hT : P.cellsOf T = vs.length) (hz : 0 < vs.length) (h1 : ∀ x ∈ vs, single x) {k o : Nat} {c : Array Value} {e : TypeId} {fz : Nat × Nat} {w : World}
    (hc : w.heap[k]? = some (.cells c e fz)) (ho : o + vs.length ≤ c.size) (hfz : NoFz fz c.size) : (storeVar T ⟨k, o, none⟩ v).run P w = .ok () (w.setCells k o vs) := by
  obtain ⟨s1, s2⟩ := cells_there hc ho hfz
  have hsz : v.cells.size = P.cellsOf T := by rw [hT, ← hv, Array.length_toList]
  have hst := run_storeCells_cells (P := P) k o vs 0 w (by simpa using s1) (by simpa using s2) (single_all h1)
  simp only [Nat.add_zero] at hst
  simp only [storeVar, Sem.run_bind, run_sizeOf_pos (show 0 < P.cellsOf T by omega), Result.andThen_ok, hsz, ne_eq, not_true, if_false, hv, hst]

theorem set_eq_splice {α : Type} {l : List α} {i : Nat} {x : α} (h : i < l.length) : l.set i x = l.take i ++ [x] ++ l.drop (i + 1) := by
  rw [List.set_eq_take_append_cons_drop, if_pos h]; simp

theorem run_storeAt {T : TypeId} {a : Addr} {v : Value} {w w' : World} (h : (storeVar T a v).run P w = .ok () w') : (Instr.storeAt T (.pointer (some a)) v).run P w = .ok () w' := by
  simp only [Instr.storeAt, Sem.run_bind, run_sureAddr, Result.andThen_ok, h]

/-- a store runs, and leaves what the result says -/
def UnitOk (P : Program) (G : GlobT) (E : Env) (s : Sem Unit) (r : Res) : Prop := ∃ w', s.run P E.w = .ok () w' ∧ ResR G E r undef w'

theorem kind_of_v1 {v : V1} {u : Value} (h : RelV E v u) : u.cells.toList.length = fsize v.fs ∧ ∀ x ∈ u.cells.toList, single x := ⟨RelFs.len (v1_cells h), RelFs.single (v1_cells h)⟩

/-- a row of cells in which some are written -/
theorem rows_set {t : DTy} {xs : List t.den} {i o : Nat} {c c' : Array Value} {us vs : List Value} {d : t.den} (hr : Rows t.size (RoT E t) xs 0 c) (hi : i < xs.length) (hd : RoT E t d (us.take o ++ vs ++ us.drop (o + vs.length))) (hus : us.length = t.size) (hat : ∀ j, j < t.size → c[i * t.size + j]? = us[j]?)
    (ho : o + vs.length ≤ t.size) (hc' : c'.toList = c.toList.take (i * t.size + o) ++ vs ++ c.toList.drop (i * t.size + o + vs.length)) (hcs : i * t.size + t.size ≤ c.size) : Rows t.size (RoT E t) (xs.set i d) 0 c' := fun q hq => by
  rw [List.length_set] at hq
  have hget : ∀ j, c'[j]? = if j < i * t.size + o then c[j]? else if j < i * t.size + o + vs.length then vs[j - (i * t.size + o)]? else c[j]? := fun j => by
    have e1 : c.toList.length = c.size := Array.length_toList
    rw [← Array.getElem?_toList, hc', List.getElem?_append, List.getElem?_append]
    simp only [List.length_append, List.length_take, e1, List.getElem?_take, List.getElem?_drop, Array.getElem?_toList]
    rw [show min (i * t.size + o) c.size = i * t.size + o from by omega]
    by_cases h1 : j < i * t.size + o
    · rw [if_pos (by omega), if_pos h1, if_pos h1, if_pos h1]
    · by_cases h2 : j < i * t.size + o + vs.length
      · rw [if_pos h2, if_neg h1, if_neg h1, if_pos h2]
      · rw [if_neg h2, if_neg h1, if_neg h2]; congr 1; omega
  by_cases hqi : q = i
  · subst hqi
    refine ⟨_, by rw [List.getElem_set_self]; exact hd, RoT.len hd, fun j hj => ?_⟩
    rw [Nat.zero_add, hget]
    simp only [List.getElem?_append, List.length_append, List.length_take, hus, List.getElem?_take, List.getElem?_drop]
    rw [show min o t.size = o from by omega]
    by_cases h1 : j < o
    · rw [if_pos (by omega), if_pos (by omega), if_pos h1, if_pos h1, hat j hj]
    · by_cases h2 : j < o + vs.length
      · rw [if_neg (by omega), if_pos (by omega), if_pos h2, if_neg h1]; congr 1; omega
      · rw [if_neg (by omega), if_neg (by omega), if_neg h2, hat j hj]; congr 1; omega
  · obtain ⟨us', q1, q2, q3⟩ := hr q hq
    refine ⟨us', by rw [List.getElem_set_ne (Ne.symm hqi)]; exact q1, q2, fun j hj => ?_⟩
    rw [← q3 j hj, Nat.zero_add, hget]
    rcases Nat.lt_or_gt_of_ne hqi with h | h
    · have : (q + 1) * t.size ≤ i * t.size := Nat.mul_le_mul_right _ h
      rw [Nat.add_mul] at this
      rw [if_pos (by omega)]
    · have : (i + 1) * t.size ≤ q * t.size := Nat.mul_le_mul_right _ h
      rw [Nat.add_mul] at this
      rw [if_neg (by omega), if_neg (by omega)]

theorem storeVals_sound (hE : RepH G E) {b k : Nat} {fs fs' : List FCell} (hb : getB E.H b = .vals fs) (hk : E.β b = some k) {T : TypeId} {v : Value} {o : Nat} {c : Array Value} {e : TypeId} {fz : Nat × Nat} (hc : E.w.heap[k]? = some (.cells c e fz)) (hfz : NoFz fz c.size)
    (hT : P.cellsOf T = v.cells.toList.length) (hz : 0 < v.cells.toList.length) (h1 : ∀ x ∈ v.cells.toList, single x) (ho : o + v.cells.toList.length ≤ c.size)
    (hr : RelFs E fs' (c.toList.take o ++ v.cells.toList ++ c.toList.drop (o + v.cells.toList.length))) : UnitOk P G E (Instr.storeAt T (.pointer (some ⟨k, o, none⟩)) v) (.any, [(b, .vals fs')]) := by
  have hrun := run_storeVar (P := P) (T := T) rfl hT hz h1 hc ho hfz
  obtain ⟨c', w1, w2, w3, w4, w5, w6⟩ := setCells_heap v.cells.toList o E.w c hc ho
  have hl : live (getB E.H b) = true := by rw [hb]; rfl
  obtain ⟨p1, p2⟩ := env_write hE hl hk w6 hc w5 w4 w1 w3 (blk := .vals fs') (by rw [hb]; show RelFs E fs' c'.toList; rw [w2]; exact hr)
    (fun p t xs hp hpk => (hE.noPar hl hk (fun t xs lo par h => by rw [hb] at h; cases h) hp hpk).elim)
  exact ⟨_, run_storeAt hrun, _, _, p1, p2, trivial⟩

theorem storeArr_sound (hE : RepH G E) {b k : Nat} {t : DTy} {xs : List t.den} {lo : Nat} {par : List Nat} (hb : getB E.H b = .arr t xs lo par) (hk : E.β b = some k) {T : TypeId} {v : Value} {i o : Nat} (hi : i < xs.length)
    {us : List Value} {c : Array Value} {e : TypeId} {fz : Nat × Nat} (hc : E.w.heap[k]? = some (.cells c e fz)) (hfz : NoFz fz c.size) (hr : Rows t.size (RoT E t) xs 0 c) (hus : us.length = t.size) (hat : ∀ j, j < t.size → c[i * t.size + j]? = us[j]?)
    (hT : P.cellsOf T = v.cells.toList.length) (hz : 0 < v.cells.toList.length) (h1 : ∀ x ∈ v.cells.toList, single x) (ho : o + v.cells.toList.length ≤ t.size) {d : t.den}
    (hd : RoT E t d (us.take o ++ v.cells.toList ++ us.drop (o + v.cells.toList.length))) {lo' : Nat} {par' : List Nat} (hlo : lo' ≤ xs.length)
    (hpar : ∀ p t' xs', getB E.H p = .frz t' xs' → E.β p = some k → p ∈ par' ∧ xs'.length ≤ lo' ∧ lo' ≤ i ∧ t' = t) :
    ∃ w', (Instr.storeAt T (.pointer (some ⟨k, i * t.size + o, none⟩)) v).run P E.w = .ok () w' ∧ RepH G ⟨E.β, setB E.H b (.arr t (xs.set i d) lo' par'), w', E.R⟩ ∧ Ext E ⟨E.β, setB E.H b (.arr t (xs.set i d) lo' par'), w', E.R⟩ := by
  have hl : live (getB E.H b) = true := by rw [hb]; rfl
  obtain ⟨f1, f2, f3⟩ := hE.fits (.inl ⟨lo, par, hb⟩)
  have hle := f3 k c e fz hk hc
  have hrow : i * t.size + t.size ≤ c.size := by
    have : (i + 1) * t.size ≤ xs.length * t.size := Nat.mul_le_mul_right _ hi
    rw [Nat.add_mul] at this
    omega
  have hrun := run_storeVar (P := P) (T := T) rfl hT hz h1 hc (o := i * t.size + o) (by omega) hfz
  obtain ⟨c', w1, w2, w3, w4, w5, w6⟩ := setCells_heap v.cells.toList (i * t.size + o) E.w c hc (by omega)
  have hrows := rows_set hr hi hd hus hat ho w2 hrow
  obtain ⟨p1, p2⟩ := env_write hE hl hk w6 hc w5 w4 w1 w3 (blk := .arr t (xs.set i d) lo' par') (by rw [hb]; exact ⟨rfl, by simp, by simpa using hlo, hrows⟩)
    (fun p t' xs' hp hpk => by
      obtain ⟨q1, q2, q3, rfl⟩ := hpar p t' xs' hp hpk
      refine ⟨_, _, _, rfl, q1, q2, fun j hj => ?_⟩
      have : xs'.length * t'.size ≤ i * t'.size := Nat.mul_le_mul_right _ (by omega)
      rw [← Array.getElem?_toList, w2, List.append_assoc, List.getElem?_append_left (by rw [List.length_take, (Array.length_toList : c.toList.length = c.size)]; omega), List.getElem?_take, if_pos (by omega), Array.getElem?_toList])
  exact ⟨_, run_storeAt hrun, p1, p2⟩

/-- several frozen blocks of which nothing is to be known any more -/
theorem env_gones : ∀ (ps : List Nat) (E : Env), RepH G E →
    RepH G ⟨E.β, setBs E.H (ps.map fun q => (q, Blk.gone)), E.w, E.R⟩ ∧ Ext E ⟨E.β, setBs E.H (ps.map fun q => (q, Blk.gone)), E.w, E.R⟩
  | [], E, hE => ⟨hE, Ext.refl E⟩
  | p :: ps, E, hE => by
    obtain ⟨g1, g2⟩ := env_gone hE p
    obtain ⟨q1, q2⟩ := env_gones ps _ g1
    exact ⟨q1, g2.trans q2⟩

theorem putElem_sound {T : TypeId} {v : V1} {gs fs r : List FCell} {o k n : Nat} {u : Value} {us : List Value} (h : putElem P T v gs fs o k n = some r) (hk : KN k n) (hg : RelFs E gs u.cells.toList) (hs : ∀ x, v = .c x → single u) (hr : RelFs E fs us) :
    P.cellsOf T = u.cells.toList.length ∧ 0 < u.cells.toList.length ∧ (o + k) + u.cells.toList.length ≤ us.length ∧ RelFs E r (us.take (o + k) ++ u.cells.toList ++ us.drop (o + k + u.cells.toList.length)) := by
  unfold putElem at h
  split at h
  · split at h
    · split at h
      · rename_i x' _ x hT
        obtain ⟨v', hv', hx⟩ := relFs_one_inv hg
        obtain ⟨g1, g2⟩ := setC_rel h hk hr hx
        rw [hv']
        refine ⟨hT, by simp, by simp; omega, ?_⟩
        rw [List.length_singleton, ← set_eq_splice g2]
        exact g1
      · cases h
    · cases h
  · split at h
    · split at h
      · rename_i hT
        obtain ⟨g1, g2⟩ := setG_rel h hr hg
        have hl := RelFs.len hg
        exact ⟨by omega, by omega, by omega, g1⟩
      · cases h
    · cases h

theorem storeT_sound (hE : RepH G E) {look : Look} (hk : LookOk E look) {T : TypeId} {p v : SV} {x u : Value} {r : Res} (hp : RelS E p x) (hv : RelS E v u) (h : (storeT P look T p v).val = some r) : UnitOk P G E (Instr.storeAt T x u) r := by
  unfold storeT at h
  split at h
  · rename_i b i es o k n v
    have hv : RelV E v u := hv
    obtain ⟨_, hp⟩ := hp
    unfold RelPtr at hp
    split at h
    · rename_i fs hb
      have hb := hk.eq hb (by intro h; cases h)
      rw [hb] at hp
      obtain ⟨⟨kb, h3, rfl⟩, h4⟩ := hp
      split at h
      · obtain ⟨fs', h5, h6⟩ := val_opt h
        obtain rfl := val_ret h6
        obtain ⟨k', c, e, fz, g1, g2, g3, g4⟩ := hE.vals hb
        rw [h3] at g1; obtain rfl := Option.some.inj g1
        obtain ⟨q1, q2, q3, q4⟩ := putElem_sound h5 h4 (v1_cells hv) (fun x e => by subst e; exact single_of hv) g4
        rw [Nat.zero_mul, Nat.zero_add]
        exact storeVals_sound hE hb h3 g2 g3 q1 q2 (kind_of_v1 hv).2 (by rw [Array.length_toList] at q3; exact q3) q4
      · cases h
    · rename_i t xs lo par hb
      have hb := hk.eq hb (by intro h; cases h)
      rw [hb] at hp
      obtain ⟨_, hp, hi⟩ := hp
      split at h
      · rename_i hes
        obtain ⟨⟨kb, h3, rfl⟩, h4⟩ := hp hes
        split at h
        · cases h
        · rename_i gs wr hf
          split at h
          · cases h
          · rename_i fs' hpe
            split at h
            · cases h
            · rename_i d hd
              obtain ⟨⟨R', g1, g2⟩, _, g4⟩ := freezeF_sound hf hE (v1_cells hv) (fun p hp => hk.eq rfl (live_ne_dead (freezeF_live hf p hp)))
              have hbw : (∀ p ∈ wr, p.1 ≠ b) → getB (setBs E.H wr) b = .arr t xs lo par := fun hno => by rw [getB_setBs_not wr _ b hno]; exact hb
              have main : (∀ p ∈ wr, p.1 ≠ b) → ∀ (lo' : Nat) (par' : List Nat), lo' ≤ xs.length → (∀ p t' xs', getB (setBs E.H wr) p = .frz t' xs' → E.β p = some kb → p ∈ par' ∧ xs'.length ≤ lo' ∧ lo' ≤ i ∧ t' = t) →
                  UnitOk P G E (Instr.storeAt T (.pointer (some ⟨kb, i * es + (o + k), none⟩)) u) (.any, wr ++ [(b, .arr t (xs.set i d) lo' par')]) := fun hno lo' par' hlo hpar => by
                have hrb := g1.1.blk b
                rw [hbw hno] at hrb
                rcases hrb.2.2 with ⟨r1, _⟩ | ⟨k1, c, e, fz, r1, r2, r3, r4⟩
                · have r1 : E.β b = none := r1
                  rw [h3] at r1; cases r1
                have r1' : E.β b = some k1 := r1
                rw [h3] at r1'; obtain rfl := Option.some.inj r1'
                obtain ⟨us, q1, q2, q3⟩ := r4 i hi
                rw [getD_eq hi] at hpe
                obtain ⟨p1, p2, p3, p4⟩ := putElem_sound hpe h4 g2 (fun x e => by subst e; exact single_of hv) (toF_rel t _ us q1)
                obtain ⟨w', s1, s2, s3⟩ := storeArr_sound (P := P) (T := T) g1.1 (hbw hno) r1 hi r2 r3 r4 q2 (fun j hj => by rw [← q3 j hj, Nat.zero_add]) p1 p2 (kind_of_v1 hv).2 (by omega) (ofFall_rel hd p4) hlo hpar
                have hEq : setBs E.H (wr ++ [(b, Blk.arr t (xs.set i d) lo' par')]) = setB (setBs E.H wr) b (.arr t (xs.set i d) lo' par') := by rw [setBs_append]; rfl
                rw [hes]
                exact ⟨w', s1, _, _, by rw [hEq]; exact s2, by rw [hEq]; exact g1.2.trans s3, trivial⟩
              split at h
              · -- no parents
                split at h
                · cases h
                · rename_i hno
                  obtain rfl := val_ret h
                  have hno : ∀ p ∈ wr, p.1 ≠ b := fun p hp e => hno (List.any_eq_true.2 ⟨p, hp, by simp [e]⟩)
                  have hrb := g1.1.blk b
                  rw [hbw hno] at hrb
                  exact main hno lo [] hrb.1 (fun p t' xs' hp hpk => (g1.1.noPar (b := b) (k := kb) (by show live (getB (setBs E.H wr) b) = true; rw [hbw hno]; rfl) h3 (fun t xs lo par h => by
                    have h : getB (setBs E.H wr) b = _ := h
                    rw [hbw hno] at h; cases h; rfl) hp hpk).elim)
              · -- with parents
                rename_i q par _
                split at h
                · have hno : ∀ p ∈ ([] : List (Nat × Blk)), p.1 ≠ b := fun p hp => by cases hp
                  have hrb := hE.blk b
                  rw [hb] at hrb
                  have hlb : live (getB E.H b) = true := by rw [hb]; rfl
                  cases hdl : decide (lo ≤ i) with
                  | true =>
                    rw [hdl] at h
                    obtain rfl := val_ret h
                    refine main hno lo (q :: par) hrb.1 (fun p t' xs' hp hpk => ?_)
                    obtain ⟨ys, lo2, par2, e1, e2, e3⟩ := hE.shares hp hpk hlb h3
                    rw [hb] at e1
                    cases e1
                    exact ⟨e2, e3, of_decide_eq_true hdl, rfl⟩
                  | false =>
                    rw [hdl] at h
                    simp only [Tree.val, Bool.false_eq_true, if_false] at h
                    split at h
                    · cases h
                    · rename_i hseen
                      obtain rfl := val_ret h
                      obtain ⟨z1, z2⟩ := env_gones (q :: par) _ g1.1
                      have hbno : ∀ p ∈ (q :: par).map (fun q => (q, Blk.gone)), p.1 ≠ b := fun p hp e => by
                        obtain ⟨y, hy, rfl⟩ := List.mem_map.1 hp
                        exact hseen (List.any_eq_true.2 ⟨y, hy, by simpa using e⟩)
                      have hb2 : getB (setBs E.H ((q :: par).map fun q => (q, Blk.gone))) b = .arr t xs lo (q :: par) := by rw [getB_setBs_not _ _ b hbno]; exact hb
                      have hrb := z1.blk b
                      have hrb := (congrArg (RepB _ b) hb2).mp hrb
                      rcases hrb.2.2 with ⟨r1, _⟩ | ⟨k1, c, e, fz, r1, r2, r3, r4⟩
                      · have r1 : E.β b = none := r1
                        rw [h3] at r1; cases r1
                      have r1' : E.β b = some k1 := r1
                      rw [h3] at r1'; obtain rfl := Option.some.inj r1'
                      obtain ⟨us, q1, q2, q3⟩ := r4 i hi
                      rw [getD_eq hi] at hpe
                      obtain ⟨p1, p2, p3, p4⟩ := putElem_sound hpe h4 (RelFs.ext g1.1 z2 _ _ g2) (fun x e => by subst e; exact single_of hv) (toF_rel t _ us q1)
                      obtain ⟨w', s1, s2, s3⟩ := storeArr_sound (P := P) (T := T) z1 hb2 r1 hi r2 r3 r4 q2 (fun j hj => by rw [← q3 j hj, Nat.zero_add]) p1 p2 (kind_of_v1 hv).2 (by omega) (ofFall_rel hd p4) (lo' := 0) (par' := []) (Nat.zero_le _)
                        (fun p t' xs' hp hpk => by
                          exfalso
                          have hp : getB (setBs E.H ((q :: par).map fun q => (q, Blk.gone))) p = .frz t' xs' := hp
                          have hlz : live (getB (setBs E.H ((q :: par).map fun q => (q, Blk.gone))) b) = true := by rw [hb2]; rfl
                          obtain ⟨ys, lo2, par2, e1, e2, e3⟩ := z1.shares hp hpk hlz h3
                          have e1 : getB (setBs E.H ((q :: par).map fun q => (q, Blk.gone))) b = _ := e1
                          rw [hb2] at e1
                          cases e1
                          have hgone : ∀ (l : List Nat) (H : Heap), p ∈ l → getB (setBs H (l.map fun q => (q, Blk.gone))) p = .gone ∨ getB (setBs H (l.map fun q => (q, Blk.gone))) p = .dead := by
                            intro l
                            induction l with
                            | nil => intro H h; cases h
                            | cons y l ih =>
                              intro H h
                              simp only [List.map_cons, setBs]
                              by_cases hpl : p ∈ l
                              · exact ih _ hpl
                              · have : p = y := by rcases List.mem_cons.1 h with h | h; exact h; exact absurd h hpl
                                subst this
                                rw [getB_setBs_not _ _ p (fun z hz e => by
                                  obtain ⟨y', hy', rfl⟩ := List.mem_map.1 hz
                                  exact hpl (e ▸ hy'))]
                                rw [getB_setB]
                                split
                                · exact .inl rfl
                                · rename_i hlt
                                  right
                                  cases hg : getB H p with
                                  | dead => rfl
                                  | _ => exact absurd ⟨rfl, getB_len (by rw [hg]; intro h; cases h)⟩ hlt
                          rcases hgone (q :: par) E.H e2 with h9 | h9 <;> rw [hp] at h9 <;> cases h9)
                      have hEq : setBs E.H ((q :: par).map (fun q => (q, Blk.gone)) ++ [(b, Blk.arr t (xs.set i d) 0 [])]) = setB (setBs E.H ((q :: par).map fun q => (q, Blk.gone))) b (.arr t (xs.set i d) 0 []) := by rw [setBs_append]; rfl
                      rw [hes]
                      exact ⟨w', s1, _, _, by rw [hEq]; exact s2, by rw [hEq]; exact (g1.2.trans z2).trans s3, trivial⟩
                · cases h
      · cases h
    · cases h
  · cases h
end Go.SX
