/-
  SX, part 10: slice expressions, lengths, addresses of arrays, new variables.
-/
import Derived.Test.YticfnbhbpcpgeaaDoorSx9
import Derived.Laws.MakeOwn
namespace Go.SX
open Go
variable {G : GlobT} {E : Env} {P : Program}

def RelO (E : Env) : Option SV → Option Value → Prop
  | none, none => True
  | some x, some v => RelS E x v
  | _, _ => False

theorem run_bound {x : SV} {v : Value} {n y : Nat} {code : BoundsCode} (hx : RelS E x v) (hb : bnd (some x) 0 = some n) (hp : bndPos (some x) = true) (hy : n ≤ y) (w : World) :
    (Instr.sliceBound v y code).run P w = .ok n w := by
  unfold bnd at hb
  split at hb
  · rename_i heq; cases heq
  · rename_i heq
    cases heq
    obtain rfl := Option.some.inj hb
    obtain ⟨rfl, _⟩ := hx
    have hp := by simpa [bndPos] using hp
    simp only [Instr.sliceBound, Sem.run_bind, run_asIntOf, Result.andThen_ok]
    rw [if_pos ⟨hp, by omega⟩]; rfl
  · cases hb

theorem bnd_some (x : SV) (a b : Nat) : bnd (some x) a = bnd (some x) b := by
  cases x with
  | one v => cases v with
    | c y => cases y <;> rfl
    | g _ => rfl
  | _ => rfl

theorem run_bounds {lo hi : Option SV} {low high : Option Value} {l h len cap : Nat} {b : Bool} (hlo : RelO E lo low) (hhi : RelO E hi high) (hl : bnd lo 0 = some l) (hh : bnd hi len = some h) (hp : bndPos lo = true) (hp' : bndPos hi = true)
    (h1 : l ≤ h) (h2 : h ≤ cap) (w : World) : (Instr.sliceBounds b len cap low high none).run P w = .ok (l, h, cap) w := by
  cases hi with
  | none =>
    cases high with
    | some v => exact hhi.elim
    | none =>
      obtain rfl := Option.some.inj hh
      cases lo with
      | none =>
        cases low with
        | some v => exact hlo.elim
        | none => obtain rfl := Option.some.inj hl; rfl
      | some y =>
        cases low with
        | none => exact hlo.elim
        | some v => simp [Instr.sliceBounds, run_bound (P := P) hlo hl hp h1]
  | some x =>
    cases high with
    | none => exact hhi.elim
    | some u =>
      rw [bnd_some x len 0] at hh
      cases lo with
      | none =>
        cases low with
        | some v => exact hlo.elim
        | none => obtain rfl := Option.some.inj hl; simp [Instr.sliceBounds, run_bound (P := P) hhi hh hp' h2]
      | some y =>
        cases low with
        | none => exact hlo.elim
        | some v => simp [Instr.sliceBounds, run_bound (P := P) hhi hh hp' h2, run_bound (P := P) hlo hl hp h1]

theorem val_slice {lo hi : Option SV} {a b : Nat} {p : Nat → Nat → Bool} {t : Nat → Nat → Tree Res} {r : Res}
    (h : (Tree.opt (bnd lo a) fun l => Tree.opt (bnd hi b) fun h => Tree.chk (bndPos lo && bndPos hi && p l h) (t l h)).val = some r) :
    ∃ l h, bnd lo a = some l ∧ bnd hi b = some h ∧ bndPos lo = true ∧ bndPos hi = true ∧ p l h = true ∧ (t l h).val = some r := by
  obtain ⟨l, h1, h2⟩ := val_opt h
  obtain ⟨h', h3, h4⟩ := val_opt h2
  obtain ⟨h5, h6⟩ := val_chk h4
  simp only [Bool.and_eq_true] at h5
  exact ⟨l, h', h1, h3, h5.1.1, h5.1.2, h5.2, h6⟩

theorem SlAt.sub {b sz off len n l h : Nat} {v : Value} (hs : SlAt E b sz off len n v) (h1 : l ≤ h) (h2 : off + h ≤ n) (hcn : ∀ (k : Nat) (c : Array Value) (e : TypeId) (fz : Nat × Nat), E.β b = some k → E.w.heap[k]? = some (Obj.cells c e fz) → n * sz ≤ c.size) (hn0 : E.β b = none → n = 0) (hz : 0 < sz) :
    ∃ a cap, v = .slice a len cap ∧ h ≤ cap ∧ SlAt E b sz (off + l) (h - l) n (.slice (if cap = l then a else a.map (·.add (l * sz))) (h - l) (cap - l)) := by
  obtain ⟨a, cap, rfl, h3, h4, h5, h6⟩ := hs
  rcases h6 with ⟨h6, h7⟩ | ⟨k, c, e, fz, g1, g2, g3, g4⟩
  · have := hn0 h6
    exact ⟨a, cap, rfl, by omega, _, _, rfl, by omega, by omega, by omega, .inl ⟨h6, by omega⟩⟩
  · have hle : off + h ≤ off + cap := by
      have := hcn k c e fz g1 g3
      rw [← g4] at this
      have := Nat.le_of_mul_le_mul_right this hz
      omega
    refine ⟨a, cap, rfl, by omega, _, _, rfl, by omega, by omega, by omega, .inr ⟨k, c, e, fz, g1, ?_, g3, ?_⟩⟩
    · by_cases hcl : cap = l
      · left; omega
      · right
        rw [if_neg hcl, g2.resolve_left (by omega)]; simp [add_addr, Nat.add_mul]
    · rw [← g4]; congr 1; omega

/-- a slice's block has room for the elements that are known -/
theorem RepH.fits (hE : RepH G E) {b : Nat} {t : DTy} {xs : List t.den} (hb : (∃ lo par, getB E.H b = .arr t xs lo par) ∨ getB E.H b = .frz t xs) :
    0 < t.size ∧ (E.β b = none → xs.length = 0) ∧ ∀ (k : Nat) (c : Array Value) (e : TypeId) (fz : Nat × Nat), E.β b = some k → E.w.heap[k]? = some (Obj.cells c e fz) → xs.length * t.size ≤ c.size := by
  have key : ∀ c, Rows t.size (RoT E t) xs 0 c → xs.length * t.size ≤ c.size := fun c hr => by
    rcases Nat.eq_zero_or_pos xs.length with h0 | h0
    · rw [h0]; simp
    · rcases Nat.eq_zero_or_pos t.size with hz | hz
      · rw [hz]; simp
      obtain ⟨us, _, h2, h3⟩ := hr (xs.length - 1) (by omega)
      have := h3 (t.size - 1) (by omega)
      have hlt : t.size - 1 < us.length := by omega
      rw [List.getElem?_eq_getElem hlt] at this
      have := (Array.getElem?_eq_some_iff.1 this).1
      have e : xs.length * t.size = (xs.length - 1) * t.size + t.size := by
        rw [← Nat.succ_mul]; congr 1; omega
      omega
  have h := hE.blk b
  rcases hb with ⟨lo, par, hb⟩ | hb <;> rw [hb] at h
  · refine ⟨h.2.1, fun h0 => ?_, fun k c e fz hk hc => ?_⟩
    · rcases h.2.2 with ⟨_, h1⟩ | ⟨k, c, e, fz, h1, _⟩
      · rw [h1]; rfl
      · rw [h0] at h1; cases h1
    · rcases h.2.2 with ⟨h1, _⟩ | ⟨k', c', e', fz', h1, h2, _, h3⟩
      · rw [hk] at h1; cases h1
      · rw [hk] at h1; obtain rfl := Option.some.inj h1
        rw [hc] at h2; cases h2; exact key _ h3
  · refine ⟨h.1, fun h0 => ?_, fun k c e fz hk hc => ?_⟩
    · rcases h.2 with ⟨_, h1⟩ | ⟨k, c, e, fz, h1, _⟩
      · rw [h1]; rfl
      · rw [h0] at h1; cases h1
    · rcases h.2 with ⟨h1, _⟩ | ⟨k', c', e', fz', h1, h2, h3, _⟩
      · rw [hk] at h1; cases h1
      · rw [hk] at h1; obtain rfl := Option.some.inj h1
        rw [hc] at h2; cases h2; exact key _ h3

theorem run_sliceAt_slice {T e : TypeId} (hT : P.underlying T = some (.slice e)) (he : 0 < P.cellsOf e) {a : Option Addr} {len cap l h : Nat} {low high : Option Value} {w : World} (hb : (Instr.sliceBounds true len cap low high none).run P w = .ok (l, h, cap) w) :
    (Instr.sliceAt T (.slice a len cap) low high none).run P w = .ok (.slice (if cap = l then a else a.map (·.add (l * P.cellsOf e))) (h - l) (cap - l)) w := by
  simp [Instr.sliceAt, Instr.slice, run_underlying hT, hb, run_sizeOf_pos he]

theorem RoSl.sub {sz : Nat} {α : Type} {Q : α → List Value → Prop} {xs : List α} {len l h : Nat} {v : Value} (hs : RoSl E sz Q xs len v) (h1 : l ≤ h) (h2 : h ≤ xs.length) :
    ∃ a cap, v = .slice a len cap ∧ h ≤ cap ∧ RoSl E sz Q (xs.drop l) (h - l) (.slice (if cap = l then a else a.map (·.add (l * sz))) (h - l) (cap - l)) := by
  obtain ⟨a, cap, rfl, h3, h4, h5, h6, h7⟩ := hs
  refine ⟨a, cap, rfl, by omega, _, _, rfl, by rw [List.length_drop]; omega, by rw [List.length_drop]; omega, by omega, h6, fun hne => ?_⟩
  have hl : l < xs.length := by
    rcases Nat.lt_or_ge l xs.length with h | h
    · exact h
    · exact (hne (List.drop_eq_nil_of_le h)).elim
  obtain ⟨k, off, c, e, fz, rfl, g2, g3, g4⟩ := h7 (fun e => by rw [e] at hl; simp at hl)
  refine ⟨k, off + l * sz, c, e, fz, by rw [if_neg (by omega)]; simp [add_addr], g2, g3, fun i hi => ?_⟩
  rw [List.length_drop] at hi
  obtain ⟨us, q1, q2, q3⟩ := g4 (l + i) (by omega)
  refine ⟨us, by rw [List.getElem_drop]; exact q1, q2, fun j hj => ?_⟩
  rw [← q3 j hj]; congr 1; rw [Nat.add_mul]; omega

theorem sliceT_sound (hE : RepH G E) {look : Look} (hk : LookOk E look) {T : TypeId} {x : SV} {u : Value} {lo hi mx : Option SV} {low high max : Option Value} {r : Res} (hx : RelS E x u) (hlo : RelO E lo low) (hhi : RelO E hi high) (hmx : RelO E mx max)
    (h : (sliceT P look T x lo hi mx).val = some r) : SemOk P G E (Instr.sliceAt T u low high max) r := by
  unfold sliceT at h
  split at h
  · cases h
  · cases max with
    | some _ => exact hmx.elim
    | none =>
      split at h
      · rename_i s hT
        obtain ⟨l, h', h1, h2, h3, h4, h5, h6⟩ := val_slice (p := fun l h => decide (l ≤ h ∧ h ≤ s.size)) (t := fun l h => .ret (one (.str (s.extract l h)), [])) h
        obtain rfl := val_ret h6
        have h5 := of_decide_eq_true h5
        obtain rfl : u = .string s := hx
        exact SemOk.pure hE (u := .string (s.extract l h')) (by simp [Instr.sliceAt, Instr.slice, run_underlying hT, run_bounds (P := P) (b := false) hlo hhi h1 h2 h3 h4 h5.1 h5.2]) rfl
      · rename_i e b off len hT
        obtain ⟨l, h1, h⟩ := val_opt h
        obtain ⟨h', h2, h⟩ := val_opt h
        split at h
        · rename_i t xs lo' par hb
          split at h
          · rename_i hs
            obtain ⟨h5, h6⟩ := val_chk h
            simp only [Bool.and_eq_true, decide_eq_true_eq] at h5
            obtain ⟨⟨h3, h4⟩, h5, h7⟩ := h5
            obtain rfl := val_ret h6
            have hb := hk.eq hb (by intro h; cases h)
            obtain ⟨f1, f2, f3⟩ := hE.fits (.inl ⟨lo', par, hb⟩)
            obtain ⟨_, hx⟩ := hx
            unfold RelSl at hx
            rw [hb] at hx
            obtain ⟨a, cap, rfl, g1, g2⟩ := hx.sub h5 h7 f3 f2 f1
            refine SemOk.pure hE (run_sliceAt_slice hT (by omega) (run_bounds hlo hhi h1 h2 h3 h4 h5 g1 _)) ⟨trivial, ?_⟩
            unfold RelSl
            rw [hb, ← hs]
            exact g2
          · cases h
        · rename_i t xs hb
          split at h
          · rename_i hs
            obtain ⟨h5, h6⟩ := val_chk h
            simp only [Bool.and_eq_true, decide_eq_true_eq] at h5
            obtain ⟨⟨h3, h4⟩, h5, h7⟩ := h5
            obtain rfl := val_ret h6
            have hb := hk.eq hb (by intro h; cases h)
            obtain ⟨f1, f2, f3⟩ := hE.fits (.inr hb)
            obtain ⟨_, hx⟩ := hx
            unfold RelSl at hx
            rw [hb] at hx
            obtain ⟨a, cap, rfl, g1, g2⟩ := hx.sub h5 h7 f3 f2 f1
            refine SemOk.pure hE (run_sliceAt_slice hT (by omega) (run_bounds hlo hhi h1 h2 h3 h4 h5 g1 _)) ⟨trivial, ?_⟩
            unfold RelSl
            rw [hb, ← hs]
            exact g2
          · cases h
        · cases h
      · rename_i e t xs len hT
        obtain ⟨l, h1, h⟩ := val_opt h
        obtain ⟨h', h2, h⟩ := val_opt h
        split at h
        · rename_i hs
          obtain ⟨h5, h6⟩ := val_chk h
          simp only [Bool.and_eq_true, decide_eq_true_eq] at h5
          obtain ⟨⟨h3, h4⟩, h5, h7⟩ := h5
          obtain rfl := val_ret h6
          have hx : RoSl E t.size (RoT E t) xs len u := hx
          have hz : 0 < t.size := by obtain ⟨_, _, _, _, _, _, hz, _⟩ := hx; exact hz
          obtain ⟨a, cap, rfl, g1, g2⟩ := hx.sub h5 h7
          refine SemOk.pure hE (run_sliceAt_slice hT (by omega) (run_bounds hlo hhi h1 h2 h3 h4 h5 g1 _)) ?_
          rw [← hs]
          exact g2
        · cases h
      · rename_i e b o n off len hT
        obtain ⟨l, h1, h⟩ := val_opt h
        obtain ⟨h', h2, h⟩ := val_opt h
        split at h
        · rename_i hs
          obtain ⟨h5, h6⟩ := val_chk h
          simp only [Bool.and_eq_true, decide_eq_true_eq] at h5
          obtain ⟨⟨h3, h4⟩, h5, h7⟩ := h5
          obtain rfl := val_ret h6
          obtain ⟨_, hx⟩ := hx
          unfold RelSla at hx
          cases hb : getB E.H b with
          | vals fs =>
            rw [hb] at hx
            obtain ⟨a, cap, rfl, q1, q2, q3, q4⟩ := hx
            refine SemOk.pure hE (run_sliceAt_slice hT (by omega) (run_bounds hlo hhi h1 h2 h3 h4 h5 (by omega) _)) ⟨trivial, ?_⟩
            unfold RelSla
            rw [hb]
            refine ⟨_, _, rfl, by omega, by omega, by omega, ?_⟩
            by_cases hcl : cap = l
            · left; omega
            · right
              rcases q4 with q4 | ⟨k, q4, q5⟩
              · omega
              · exact ⟨k, q4, by rw [if_neg hcl, q5, hs]; simp [add_addr, Nat.add_assoc]⟩
          | gone =>
            rw [hb] at hx
            obtain ⟨a, cap, rfl, q1, q2, q3, q4⟩ := hx
            refine SemOk.pure hE (run_sliceAt_slice hT (by omega) (run_bounds hlo hhi h1 h2 h3 h4 h5 (by omega) _)) ⟨trivial, ?_⟩
            unfold RelSla
            rw [hb]
            refine ⟨_, _, rfl, by omega, by omega, by omega, ?_⟩
            by_cases hcl : cap = l
            · left; omega
            · right
              rcases q4 with q4 | ⟨q, q4⟩
              · omega
              · exact ⟨_, by rw [if_neg hcl, q4]; rfl⟩
          | arr t xs lo par => rw [hb] at hx; exact hx.elim
          | frz t xs => rw [hb] at hx; exact hx.elim
          | dead => rw [hb] at hx; exact hx.elim
        · cases h
      · rename_i e hT
        obtain ⟨l, h1, h⟩ := val_opt h
        obtain ⟨h', h2, h⟩ := val_opt h
        split at h
        · cases h
        rename_i hez
        obtain ⟨h5, h6⟩ := val_chk h
        simp only [Bool.and_eq_true, decide_eq_true_eq] at h5
        obtain ⟨⟨h3, h4⟩, h5, h7⟩ := h5
        obtain rfl := val_ret h6
        obtain rfl : u = .slice none 0 0 := hx
        obtain rfl : h' = 0 := by omega
        obtain rfl : l = 0 := by omega
        have hb := run_bounds (P := P) (b := true) hlo hhi h1 h2 h3 h4 h5 (Nat.le_refl 0) E.w
        have hd := run_sizeOf_pos (P := P) (t := e) (by omega) E.w
        exact SemOk.pure hE (u := .slice none 0 0) (by simp [Instr.sliceAt, Instr.slice, run_underlying hT, hb, hd]) rfl
      · rename_i n e b o hT
        obtain ⟨l, h1, h⟩ := val_opt h
        obtain ⟨h', h2, h⟩ := val_opt h
        split at h
        · rename_i k' he
          split at h
          · rename_i hs
            obtain ⟨h5, h6⟩ := val_chk h
            simp only [Bool.and_eq_true, decide_eq_true_eq] at h5
            obtain ⟨⟨h3, h4⟩, h5, h7⟩ := h5
            obtain rfl := val_ret h6
            obtain ⟨a, rfl⟩ := ptr_known hx
            have hbd := run_bounds (P := P) (b := false) hlo hhi h1 h2 h3 h4 h5 h7 E.w
            have hrun : (Instr.sliceAt T (.pointer (some a)) low high none).run P E.w = .ok (.slice (some (if n = l then a else a.add (l * P.cellsOf e))) (h' - l) (n - l)) E.w := by
              simp [Instr.sliceAt, run_underlying hT, run_sureAddr, hbd, run_sizeOf_pos (show 0 < P.cellsOf e by omega)]
            refine SemOk.pure hE hrun ⟨trivial, ?_⟩
            obtain ⟨_, hx⟩ := hx
            unfold RelPtr at hx
            unfold RelSla
            obtain ⟨hs, hn, hv⟩ := hs
            have hv : isVals (getB E.H b) = true := by
              rcases hk b with h9 | h9
              · rw [h9] at hv; cases hv
              · rw [← h9]; exact hv
            cases hb : getB E.H b with
            | vals fs =>
              rw [hb] at hx
              obtain ⟨⟨kb, q1, q2⟩, _⟩ := hx
              simp only [Value.pointer.injEq, Option.some.injEq] at q2
              subst q2
              refine ⟨_, _, rfl, by omega, by omega, by omega, ?_⟩
              by_cases hcl : n = l
              · left; omega
              · right; exact ⟨kb, q1, by rw [if_neg hcl, add_addr, hs]; simp⟩
            | gone => rw [hb] at hv; cases hv
            | arr t xs lo par => rw [hb] at hv; cases hv
            | frz t xs => rw [hb] at hv; cases hv
            | dead => rw [hb] at hx; exact hx.elim
          · cases h
        · cases h
      · rename_i n e t d o hT
        obtain ⟨l, h1, h⟩ := val_opt h
        obtain ⟨h', h2, h⟩ := val_opt h
        split at h
        · rename_i k' he
          split at h
          · rename_i kd m xs hw
            split at h
            · rename_i hs
              obtain ⟨hs, hn, rfl⟩ := hs
              obtain ⟨h5, h6⟩ := val_chk h
              simp only [Bool.and_eq_true, decide_eq_true_eq] at h5
              obtain ⟨⟨h3, h4⟩, h5, h7⟩ := h5
              obtain rfl := val_ret h6
              obtain ⟨kb, a, c, e', fz, us, rfl, g2, g3, g4, g5, g6⟩ := hx
              obtain ⟨q1, q2, q3, q4⟩ := wsAt_rel hw (toF_rel t d us g4)
              have hbd := run_bounds (P := P) (b := false) hlo hhi h1 h2 h3 h4 h5 h7 E.w
              have hrun : (Instr.sliceAt T (.pointer (some ⟨kb, a + (o + 0), none⟩)) low high none).run P E.w = .ok (.slice (some (if m = l then ⟨kb, a + (o + 0), none⟩ else (⟨kb, a + (o + 0), none⟩ : Addr).add (l * P.cellsOf e))) (h' - l) (m - l)) E.w := by
                simp [Instr.sliceAt, run_underlying hT, run_sureAddr, hbd, run_sizeOf_pos (show 0 < P.cellsOf e by omega)]
              refine SemOk.pure hE hrun ⟨_, _, rfl, ?_, ?_, by omega, Nat.one_pos, fun hne => ?_⟩
              · show h' - l ≤ (List.drop l xs).length
                rw [List.length_drop]; omega
              · show (List.drop l xs).length ≤ m - l
                rw [List.length_drop]; omega
              · have hlm : l < xs.length := by
                  rcases Nat.lt_or_ge l xs.length with h | h
                  · exact h
                  · exact (hne (List.drop_eq_nil_of_le h)).elim
                refine ⟨kb, a + (o + l), c, e', fz, ?_, g2, g3, fun i hi => ?_⟩
                · rw [if_neg (by omega), add_addr, hs]; simp; omega
                · have hi' : l + i < xs.length := by
                    have : i < (List.drop l xs).length := hi
                    rw [List.length_drop] at this; omega
                  have hel : (List.drop l xs : List Int)[i]'hi = xs[l + i] := List.getElem_drop
                  refine ⟨[.int kd xs[l + i]], ⟨congrArg (fun z : Int => [Value.int kd z]) hel.symm, (congrArg (InK kd) hel).mpr (q2 _ (List.getElem_mem hi'))⟩, rfl, fun j hj => ?_⟩
                  have hj : j = 0 := by have : j < 1 := hj; omega
                  subst hj
                  have h9 := g6 (o + (l + i)) (by rw [← g5]; omega)
                  have h10 : ((us.drop o).take m)[l + i]? = some (Value.int kd xs[l + i]) := by rw [q3, List.getElem?_map, List.getElem?_eq_getElem hi']; rfl
                  rw [List.getElem?_take, if_pos (by omega), List.getElem?_drop] at h10
                  have e1 : a + (o + l) + (i * DTy.size (.int kd) + 0) = a + (o + (l + i)) := by
                    show a + (o + l) + (i * 1 + 0) = _
                    omega
                  rw [e1, h9, h10]; rfl
            · cases h
          · cases h
        · cases h
      · cases h
end Go.SX
