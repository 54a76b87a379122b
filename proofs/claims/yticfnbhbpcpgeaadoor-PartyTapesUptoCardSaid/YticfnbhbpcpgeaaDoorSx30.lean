/-
  SX, part 30: laws over listed variables: what the row's list gives, and the answer of a law's function.
-/
import Derived.Test.YticfnbhbpcpgeaaDoorSx28
import Derived.Test.YticfnbhbpcpgeaaDoorSx29
import Derived.Deep.DeepHandedRow
import Derived.Lib.LaidTab
namespace Go.SX
open Go Go.RowKit Go.ChangeShapes Go.WideShapes

section
variable {P : Program} {G : GlobT}
theorem CallP.calls {f : FuncId} {fn : Func} {c : Code} {us : Array Value} {w : World} {R : Value → World → Prop} (hf : P.funcs[f]? = some fn) (hb : fn.body = some c) (hn : (fn.name == "runtime.NumGoroutine") = false)
    (h : CallP P f us w R) : Calls P f us w fun e w' => ∃ v, e = .returned v ∧ R v w' := by
  rcases h with h | ⟨v, w', h, _⟩
  · exact h.2.calls
  · exfalso
    have hn' : ¬ fn.name = "runtime.NumGoroutine" := by simpa using hn
    simp [callFunc, hf, hn', hb] at h

theorem rep_glob (w : World) (hG : ∀ g t d, G g = some ⟨t, d⟩ → RelRp (envOf w) t d 0 0 (.pointer (some ⟨g, 0, none⟩)) ∧ t.rf = false) : RepH G (envOf w) where
  ro := fun k hk => ⟨hk, fun b hb => by cases hb⟩
  inj := fun b b' k hb => by cases hb
  blk := fun b => trivial
  glob := hG

/-- a law's function returns true, and what was there stays -/
theorem EntryOk.yes {f : FuncId} {fn : Func} {c : Code} {T : List V1 → Heap → Tree (SV × Heap)} {vs : List V1} {l : Bool} {hl' : Heap} (h : EntryOk P G f T) (hf : P.funcs[f]? = some fn) (hb : fn.body = some c) (hn : (fn.name == "runtime.NumGoroutine") = false)
    (hv : (T vs []).val = some (.one (.c (.bool l true)), hl')) (W : World) (hG : ∀ g t d, G g = some ⟨t, d⟩ → RelRp (envOf W) t d 0 0 (.pointer (some ⟨g, 0, none⟩)) ∧ t.rf = false) (us : Array Value) (hr : RelVs (envOf W) vs us.toList) :
    Calls P f us W fun e w' => e = .returned (.bool true) ∧ Below W.heap.size W w' := by
  refine (CallP.calls hf hb hn (h vs [] _ _ hv (envOf W) us rfl (rep_glob W hG) hr)).mono fun e w' he => ?_
  obtain ⟨u, rfl, β', R', _, x, hu⟩ := he
  obtain rfl : u = .bool true := hu
  exact ⟨rfl, below_of_ext x⟩

/-! ### the list -/
theorem laid_mem {w : World} : ∀ {l : List (String × DataW Unit)} {ps : List MemPlace}, DataW.LaidVars P w l ps → ∀ {n : String} {d : DataW Unit}, (n, d) ∈ l →
    ∃ g t cs fuel p, P.globalNamed n = some g ∧ (P.globals[g]?).map (·.type) = some t ∧ w.var? P n = some cs ∧ DataW.trod (fun _ => ()) P w 0 (fun _ => true) false fuel t cs.toList = some (d, p)
  | [], _, _, _, _, h => by cases h
  | (n', d') :: r, ps, hl, n, d, h => by
    obtain ⟨g, t, cs, fuel, p, q, h1, h2, h3, h4, h5, _⟩ := hl
    rcases List.mem_cons.1 h with e | h
    · obtain ⟨rfl, rfl⟩ := Prod.mk.inj e
      exact ⟨g, t, cs, fuel, p, h1, h2, h3, h4⟩
    · exact laid_mem h5 h

/-- a listed variable whose cells are known is one that can be read -/
theorem relRp_var {w : World} {name : String} {g : Nat} {cs : Array Value} {t : DTy} {d : t.den} (hg : P.globalNamed name = some g) (hv : w.var? P name = some cs)
    (hrot : RoT (envOf w) t d cs.toList) (hl : cs.toList.length = t.size) : RelRp (envOf w) t d 0 0 (.pointer (some ⟨g, 0, none⟩)) := by
  simp only [World.var?, hg, Option.bind_some] at hv
  split at hv
  · rename_i cs' e fz hb
    obtain rfl := Option.some.inj hv
    have hlt : g < w.heap.size := by
      rcases Nat.lt_or_ge g w.heap.size with h | h
      · exact h
      · rw [Array.getElem?_eq_none h] at hb; cases hb
    exact ⟨g, 0, cs', e, fz, cs'.toList, rfl, hlt, hb, hrot, hl, fun j hj => by rw [Nat.zero_add, Array.getElem?_toList]⟩
  · cases hv

section
variable {H : Type} {enc : TypeId × Value → H} {w : World} {base : Nat} {sp : Nat → Bool} {held : Bool}
/-- arrays of arrays of integers -/
theorem cells_tab2 {fuel : Nat} {t e i : TypeId} {n m : Nat} {k : IntKind} {cs : List Value} {zss : List (List Int)} {p : List MemPlace} (ht : P.underlying t = some (.array n e)) (he : P.underlying e = some (.array m i)) (hi : P.underlying i = some (.int k))
    (hci : P.cellsOf i = 1) (hce : P.cellsOf e = m) (hct : P.cellsOf t = n * m) (h : DataW.trod enc P w base sp held fuel t cs = some (.agg (zss.map (Lib.tabData k)), p)) :
    cs = (zss.map fun zs => zs.map fun z => Value.int k z).flatten := by
  obtain ⟨xs, f, rfl, hx, hl, hxl, hel⟩ := DataW.trod_array ht h
  have hxs : xs.map (·.1) = zss.map (Lib.tabData (H := H) k) := by
    have := congrArg Prod.fst hx
    simpa using this.symm
  have hzl : zss.length = n := by
    have := congrArg List.length hxs
    simp at this; omega
  have key : ∀ j, j < n → ∀ zs, zss[j]? = some zs → (cs.drop (j * m)).take m = zs.map fun z => Value.int k z := fun j hj zs hz => by
    have h1 := hel j hj
    rw [hce] at h1
    have h2 : (xs.map (·.1))[j]? = some (Lib.tabData (H := H) k zs) := by rw [hxs, List.getElem?_map, hz]; rfl
    rw [List.getElem?_map] at h2
    obtain ⟨y, hy, hy2⟩ := Option.map_eq_some_iff.1 h2
    rw [hy] at h1
    obtain ⟨y1, y2⟩ := y
    have hy2 : y1 = Lib.tabData k zs := hy2
    subst hy2
    exact Lib.cells_of_tab he hi hci hce h1
  have go : ∀ (r : Nat) (zss' : List (List Int)) (o : Nat), zss'.length = r → o + r = n → (∀ j zs, zss'[j]? = some zs → zss[o + j]? = some zs) → cs.drop (o * m) = (zss'.map fun zs => zs.map fun z => Value.int k z).flatten := by
    intro r
    induction r with
    | zero =>
      intro zss' o h0 ho hz
      obtain rfl : zss' = [] := List.eq_nil_of_length_eq_zero h0
      obtain rfl : o = n := by omega
      exact List.drop_eq_nil_of_le (by rw [hl, hct]; exact Nat.le_refl _)
    | succ r ih =>
      intro zss' o h0 ho hz
      cases zss' with
      | nil => cases h0
      | cons zs rest =>
        have e1 := key o (by omega) zs (by have := hz 0 zs rfl; simpa using this)
        have e2 := ih rest (o + 1) (by simpa using h0) (by omega) (fun j zs' hj => by
          have := hz (j + 1) zs' (by simpa using hj)
          rwa [show o + (j + 1) = o + 1 + j by omega] at this)
        rw [List.map_cons, List.flatten_cons, ← e2, ← e1, show (o + 1) * m = o * m + m by rw [Nat.add_mul, Nat.one_mul], ← List.drop_drop, List.take_append_drop]
  have := go n zss 0 hzl (by omega) (fun j zs hj => by rw [Nat.zero_add]; exact hj)
  simpa using this
end
end
end Go.SX
