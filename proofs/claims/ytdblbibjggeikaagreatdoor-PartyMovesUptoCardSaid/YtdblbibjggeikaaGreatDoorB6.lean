/- SX, part 30: laws over listed variables: what the row's list gives, and the answer of a law's function. -/
import Derived.Test.YtdblbibjggeikaaGreatDoorB5
import Derived.Deep.DeepHandedRow
import Derived.Lib.LaidTab
set_option linter.unusedSectionVars false
set_option linter.unusedVariables false
set_option linter.unusedSimpArgs false
namespace Go.SX
open Go Go.RowKit Go.ChangeShapes Go.WideShapes
section
variable {P : Program} {G : GlobT}
theorem laid_mem {w : World} : ∀ {l : List (String × DataW Unit)} {ps : List MemPlace}, DataW.LaidVars P w l ps -> ∀ {n : String} {d : DataW Unit}, (n, d) ∈ l ->
  ∃ g t cs fuel p, P.globalNamed n = some g /\ (P.globals[g]?).map (·.type) = some t /\ w.var? P n = some cs /\ DataW.trod (fun _ => ()) P w 0 (fun _ => true) false fuel t cs.toList = some (d, p)
 | [], _, _, _, _, h => by cases h
 | (n', d') :: r, ps, hl, n, d, h => by
  obtain ⟨g, t, cs, fuel, p, q, h1, h2, h3, h4, h5, _⟩ := hl;rcases List.mem_cons.1 h with e | h
  ·obtain ⟨rfl, rfl⟩ := Prod.mk.inj e;exact ⟨g, t, cs, fuel, p, h1, h2, h3, h4⟩
  ·exact laid_mem h5 h
theorem relRp_var {w : World} {name : String} {g : Nat} {cs : Array Value} {t : DTy} {d : t.den} (hg : P.globalNamed name = some g) (hv : w.var? P name = some cs)
  (hrot : RoT (envOf w) t d cs.toList) (hl : cs.toList.length = t.size) : RelRp (envOf w) t d 0 0 (.pointer (some ⟨g, 0, none⟩)) := by
 simp only [World.var?, hg, Option.bind_some] at hv;split at hv
 ·rename_i cs' e fz hb;obtain rfl := smI hv;have hlt : g < w.heap.size := by
   rcases Nat.lt_or_ge g w.heap.size with h | h
   ·exact h
   ·rw [Array.getElem?_eq_none h] at hb; cases hb
  exact ⟨g, 0, cs', e, fz, cs'.toList, rfl, hlt, hb, hrot, hl, fun j hj => by rw [Nat.zero_add, Array.getElem?_toList]⟩
 ·cases hv
section
variable {H : Type} {enc : TypeId × Value -> H} {w : World} {base : Nat} {sp : Nat -> Bool} {held : Bool}
theorem cells_tab2 {fuel : Nat} {t e i : TypeId} {n m : Nat} {k : IntKind} {cs : List Value} {zss : List (List Int)} {p : List MemPlace} (ht : P.underlying t = some (.array n e)) (he : P.underlying e = some (.array m i)) (hi : P.underlying i = some (.int k))
  (hci : P.cellsOf i = 1) (hce : P.cellsOf e = m) (hct : P.cellsOf t = n * m) (h : DataW.trod enc P w base sp held fuel t cs = some (.agg (zss.map (Lib.tabData k)), p)) :
  cs = (zss.map fun zs => zs.map fun z => Value.int k z).flatten := by
 obtain ⟨xs, f, rfl, hx, hl, hxl, hel⟩ := DataW.trod_array ht h;have hxs : xs.map (·.1) = zss.map (Lib.tabData (H := H) k) := by
  have := congrArg Prod.fst hx
  simpa using this.symm
 have hzl : zss.length = n := by
  have := congrArg List.length hxs
  simp at this; omega
 have key : ∀ j, j < n -> ∀ zs, zss[j]? = some zs -> (cs.drop (j * m)).take m = zs.map fun z => Value.int k z := fun j hj zs hz => by
  have h1 := hel j hj
  rw [hce] at h1;have h2 : (xs.map (·.1))[j]? = some (Lib.tabData (H := H) k zs) := by rw [hxs, List.getElem?_map, hz]; rfl
  rw [List.getElem?_map] at h2
  obtain ⟨y, hy, hy2⟩ := Option.map_eq_some_iff.1 h2;rw [hy] at h1;obtain ⟨y1, y2⟩ := y;have hy2 : y1 = Lib.tabData k zs := hy2
  subst hy2;exact Lib.cells_of_tab he hi hci hce h1
 have go : ∀ (r : Nat) (zss' : List (List Int)) (o : Nat), zss'.length = r -> o + r = n -> (∀ j zs, zss'[j]? = some zs -> zss[o + j]? = some zs) -> cs.drop (o * m) = (zss'.map fun zs => zs.map fun z => Value.int k z).flatten := by
  intro r
  induction r with
  | zero =>
   intro zss' o h0 ho hz;obtain rfl : zss' = [] := List.eq_nil_of_length_eq_zero h0;obtain rfl : o = n := by omega
   exact List.drop_eq_nil_of_le (by rw [hl, hct]; exact Nat.le_refl _)
  | succ r ih =>
   intro zss' o h0 ho hz;cases zss' with
   | nil => cases h0
   | cons zs rest =>
    have e1 := key o (by omega) zs (by have := hz 0 zs rfl; simpa using this)
    have e2 := ih rest (o + 1) (by simpa using h0) (by omega) (fun j zs' hj => by
     have := hz (j + 1) zs' (by simpa using hj)
     rwa [show o + (j + 1) = o + 1 + j by omega] at this)
    rw [List.map_cons, List.flatten_cons, <- e2, <- e1, show (o + 1) * m = o * m + m by rw [Nat.add_mul, Nat.one_mul], <- List.drop_drop, List.take_append_drop]
 have := go n zss 0 hzl (by omega) (fun j zs hj => by rw [Nat.zero_add]; exact hj)
 simpa using this
end
end
end Go.SX
namespace Go.SX
open Go
section
variable {P : Program} {S : Tab} {G G' : GlobT} [Level]
end
def unlB : Blk -> Blk
 | .vals fs => .vals (unlF fs)
 | b => b
theorem getB_unl : ∀ (H : Heap) (b : Nat), getB (H.map unlB) b = unlB (getB H b)
 | [], _ => rfl
 | _ :: _, 0 => rfl
 | _ :: H, n + 1 => getB_unl H n
theorem live_unl (b : Blk) : live (unlB b) = live b := by cases b <;> rfl
section
variable {P : Program} {G : GlobT} [Level]
theorem unlH_ext {E : Env} : Ext E ⟨E.β, E.H.map unlB, E.w, E.R⟩ where
 os := rfl
 tape := rfl
 output := rfl
 size := Nat.le_refl _
 ro := fun _ h => h
 rnew := fun _ h => .inl h
 keep := fun _ _ _ => rfl
 cells := fun k c e fz h => ⟨c, fz, h, rfl⟩
 blk := fun b => by
  show BExt _ _ b (getB E.H b) (getB (E.H.map unlB) b)
  rw [getB_unl];cases getB E.H b <;> simp [BExt, unlB]
 fresh := fun b k h1 h2 => .inl ⟨b, by
  have h1 : live (getB (E.H.map unlB) b) = true := h1
  rwa [getB_unl, live_unl] at h1, h2⟩
theorem unlH_rep {E : Env} (h : RepH G E) : RepH G ⟨E.β, E.H.map unlB, E.w, E.R⟩ where
 ro := fun k hk => ⟨(h.ro k hk).1, fun b hb => (h.ro k hk).2 b (by
  have hb : live (getB (E.H.map unlB) b) = true := hb
  rwa [getB_unl, live_unl] at hb)⟩
 inj := fun b b' k hb hb' => by
  have hb : live (getB (E.H.map unlB) b) = true := hb
  have hb' : live (getB (E.H.map unlB) b') = true := hb'
  rw [getB_unl, live_unl] at hb hb';exact h.inj b b' k hb hb'
 blk := fun b => by
  show RepB _ b (getB (E.H.map unlB) b)
  rw [getB_unl];have hb := h.blk b
  have hx : Ext E ⟨E.β, E.H.map unlB, E.w, E.R⟩ := unlH_ext
  cases hg : getB E.H b with
  | vals fs =>
   rw [hg] at hb;obtain ⟨k, c, e, fz, h1, h2, h3, h4⟩ := hb;exact ⟨k, c, e, fz, h1, h2, h3, unlF_rel (RelFs.ext h hx fs _ h4)⟩
  | arr t xs lo par =>
   rw [hg] at hb;obtain ⟨h1, h2, h3⟩ := hb;refine ⟨h1, h2, h3.imp id fun ⟨k, c, e, fz, h4, h5, h6, h7⟩ => ⟨k, c, e, fz, h4, h5, h6, fun i hi => ?_⟩⟩
   obtain ⟨us, q1, q2⟩ := h7 i hi;exact ⟨us, RoT.ext h hx t _ _ q1, q2⟩
  | frz t xs =>
   rw [hg] at hb;obtain ⟨h1, h2⟩ := hb;refine ⟨h1, h2.imp id fun ⟨k, c, e, fz, h4, h5, h6, h7⟩ => ⟨k, c, e, fz, h4, h5, fun i hi => ?_, fun b' hl hb' => ?_⟩⟩
   ·obtain ⟨us, q1, q2⟩ := h6 i hi;exact ⟨us, RoT.ext h hx t _ _ q1, q2⟩
   ·have hl : live (getB (E.H.map unlB) b') = true := hl
    rw [getB_unl, live_unl] at hl;obtain ⟨xs', lo, par, e1, e2, e3⟩ := h7 b' hl hb';refine ⟨xs', lo, par, ?_, e2, e3⟩
    show getB (E.H.map unlB) b' = _
    rw [getB_unl, e1]; rfl
  | gone => trivial
  | dead => trivial
 glob := h.globExt unlH_ext
def okB : Blk -> Prop
 | .vals fs => okF fs
 | _ => True
def okH (hl : Heap) : Prop := ∀ b ∈ hl, okB b
theorem getB_mem : ∀ {H : Heap} {x : Blk}, x ∈ H -> ∃ b, getB H b = x
 | y :: H, x, h => by
  rcases List.mem_cons.1 h with rfl | h
  ·exact ⟨0, rfl⟩
  ·obtain ⟨b, hb⟩ := getB_mem h;exact ⟨b + 1, hb⟩
theorem okH_of {E : Env} (h : RepH G E) : okH E.H := by
 intro x hx;obtain ⟨b, hb⟩ := getB_mem hx;have h1 := h.blk b
 rw [hb] at h1;cases x with
 | vals fs =>
  obtain ⟨_, _, _, _, _, _, _, h4⟩ := h1;exact okF_of h4
 | _ => trivial
theorem EntryOk.unlitHRuns {S : Tab} {f : FuncId} {fn : Func} {c : Code} {T : List V1 → Heap → Tree (SV × Heap)} (hf : P.funcs[f]? = some fn) (hb : fn.body = some c) (hn : (fn.name == "runtime.NumGoroutine") = false)
  (h : ∀ vs hl r hl', okVs vs -> okH hl -> (T vs hl).val = some (r, hl') -> Runs P S fn (hl.map unlB).length [.code c] ⟨enterT fn (vs.map unlG), hl.map unlB⟩ r hl') : EntryOk P S.gl f T := by
 intro vs hl r hl' hr E us hE hrep hv;have hx : Ext E ⟨E.β, E.H.map unlB, E.w, E.R⟩ := unlH_ext
 refine (Runs.spec hf hb hn (h vs hl r hl' (okVs_of hv) (hE ▸ okH_of hrep) hr) ⟨E.β, E.H.map unlB, E.w, E.R⟩ us (by rw [<- hE]) (unlH_rep hrep) (unlGs_rel (RelVs.ext hrep hx vs _ hv))).mono fun u w' hq => ?_
 obtain ⟨β', R', h1, h2, h3⟩ := hq;exact ⟨β', R', h1, hx.trans h2, h3⟩
end
def normFs : List (Option DTy) -> List FCell -> List FCell
 | t :: ts, .c x :: fs => (match normV t (.c x) with | .c y => FCell.c y | .g _ => FCell.c x) :: normFs ts fs
 | _ :: ts, f :: fs => f :: normFs ts fs
 | _, fs => fs
def normVG : List (Option DTy) -> V1 -> V1
 | t :: _, .c x => normV t (.c x)
 | ts, .g fs => .g (normFs ts fs)
 | [], v => v
def normLG : List (List (Option DTy)) -> List V1 -> List V1
 | t :: ts, v :: vs => normVG t v :: normLG ts vs
 | _, vs => vs
def sizesOkG (ts : List (List (Option DTy))) : Bool := ts.all sizesOk
section
variable {P : Program} {G : GlobT} {E : Env} [Level]
theorem sizesOk_cons {t : Option DTy} {ts : List (Option DTy)} (h : sizesOk (t :: ts) = true) : (∀ t', t = some t' -> 0 < t'.size) /\ sizesOk ts = true := by
 simp only [sizesOk, List.all_cons, Bool.and_eq_true] at h;refine ⟨fun t' e => ?_, h.2⟩
 subst e;simpa using h.1
theorem normFs_rel : ∀ {ts : List (Option DTy)} {fs : List FCell} {vs : List Value}, sizesOk ts = true -> RelFs E fs vs -> RelFs E (normFs ts fs) vs
 | [], fs, vs, _, h => by cases fs <;> exact h
 | t :: ts, [], vs, _, h => h
 | t :: ts, .ws k n xs :: fs, vs, ht, h => by
  obtain ⟨v1, v2, rfl, h1, h2⟩ := h;exact ⟨v1, v2, rfl, h1, normFs_rel (sizesOk_cons ht).2 h2⟩
 | t :: ts, .c x :: fs, vs, ht, h => by
  obtain ⟨v1, v2, rfl, ⟨v, rfl, h1⟩, h2⟩ := h;have h3 := normV_rel (v := .c x) (sizesOk_cons ht).1 h1
  unfold normFs;refine ⟨[v], v2, rfl, ?_, normFs_rel (sizesOk_cons ht).2 h2⟩
  split
  ·rename_i y e;rw [e] at h3;exact ⟨v, rfl, h3⟩
  ·exact ⟨v, rfl, h1⟩
theorem normVG_rel {ts : List (Option DTy)} {v : V1} {u : Value} (ht : sizesOk ts = true) (h : RelV E v u) : RelV E (normVG ts v) u := by
 cases v with
 | c x =>
  cases ts with
  | nil => exact h
  | cons t ts => exact normV_rel (sizesOk_cons ht).1 h
 | g fs =>
  obtain ⟨cs, rfl, h⟩ := h;cases ts <;> exact ⟨cs, rfl, normFs_rel ht h⟩
theorem normLG_rel : ∀ {ts : List (List (Option DTy))} {vs : List V1} {us : List Value}, sizesOkG ts = true -> RelVs E vs us -> RelVs E (normLG ts vs) us
 | [], vs, us, _, h => by cases vs <;> exact h
 | t :: ts, [], us, _, h => h
 | t :: ts, v :: vs, us, ht, h => by
  obtain ⟨u, us', rfl, h1, h2⟩ := h;simp only [sizesOkG, List.all_cons, Bool.and_eq_true] at ht;exact ⟨u, us', rfl, normVG_rel ht.1 h1, normLG_rel ht.2 h2⟩
end
end Go.SX
namespace Go.SX
open Go
variable {P : Program} {G : GlobT} {E : Env} {S : Tab} [Level]
def plusE (E : Env) (t : DTy) (m : Nat) : Env := ⟨fun b => if E.H.length <= b then none else E.β b, E.H ++ List.replicate m (.arr t [] 0 []), E.w, E.R⟩
theorem plus_old {t : DTy} {m b : Nat} (h : b < E.H.length) : getB (plusE E t m).H b = getB E.H b /\ (plusE E t m).β b = E.β b := by
 constructor
 ·show getB (E.H ++ _) b = _
  rw [getB_eq, getB_eq, List.getElem?_append_left h]
 ·show (if _ then _ else _) = _
  rw [if_neg (by omega)]
theorem plus_new {t : DTy} {m b : Nat} (h : E.H.length <= b) : (plusE E t m).β b = none /\ (b < E.H.length + m -> getB (plusE E t m).H b = .arr t [] 0 []) /\ (E.H.length + m <= b -> getB (plusE E t m).H b = .dead) := by
 refine ⟨?_, fun h' => ?_, fun h' => ?_⟩
 ·show (if _ then _ else _) = _
  rw [if_pos h]
 ·show getB (E.H ++ _) b = _
  rw [getB_eq, List.getElem?_append_right h, List.getElem?_replicate, if_pos (by omega)]; rfl
 ·show getB (E.H ++ _) b = _
  rw [getB_eq, List.getElem?_append_right h, List.getElem?_replicate, if_neg (by omega)]; rfl
theorem plus_live {t : DTy} {m b k : Nat} (hl : live (getB (plusE E t m).H b) = true) (hk : (plusE E t m).β b = some k) : live (getB E.H b) = true /\ E.β b = some k := by
 rcases Nat.lt_or_ge b E.H.length with h | h
 ·rw [(plus_old h).1] at hl;rw [(plus_old h).2] at hk;exact ⟨hl, hk⟩
 ·rw [(plus_new h).1] at hk; cases hk
theorem dead_of {H : Heap} {b : Nat} (h : H.length <= b) : getB H b = .dead := by rw [getB_eq, List.getElem?_eq_none h]; rfl
theorem plus_ext {t : DTy} {m : Nat} : Ext E (plusE E t m) where
 os := rfl
 tape := rfl
 output := rfl
 size := Nat.le_refl _
 ro := fun _ h => h
 rnew := fun _ h => .inl h
 keep := fun _ _ _ => rfl
 cells := fun k c e fz h => ⟨c, fz, h, rfl⟩
 blk := fun b => by
  rcases Nat.lt_or_ge b E.H.length with h | h
  ·rw [(plus_old h).1];have e := (plus_old (t := t) (m := m) h).2
   cases getB E.H b <;> simp [BExt, e]
  ·rw [dead_of h]; trivial
 fresh := fun b k h1 h2 => .inl ⟨b, plus_live h1 h2⟩
theorem plus_rep {t : DTy} {m : Nat} (h : RepH G E) (ht : 0 < t.size) : RepH G (plusE E t m) where
 ro := fun k hk => ⟨(h.ro k hk).1, fun b hb hbk => (h.ro k hk).2 b (plus_live hb hbk).1 (plus_live hb hbk).2⟩
 inj := fun b b' k hb hb' hk hk' => h.inj b b' k (plus_live hb hk).1 (plus_live hb' hk').1 (plus_live hb hk).2 (plus_live hb' hk').2
 blk := fun b => by
  rcases Nat.lt_or_ge b E.H.length with hb | hb
  ·rw [(plus_old hb).1];refine (h.blk b).ext h plus_ext (plus_old hb).2 (fun _ _ _ h => h) (fun t' xs k hf hk b' hl hb' => ?_)
   obtain ⟨q1, q2⟩ := plus_live hl hb';obtain ⟨xs', lo, par, g1, g2, g3⟩ := h.shares hf hk q1 q2;refine ⟨xs', lo, par, ?_, g2, g3⟩
   rw [(plus_old (getB_len (live_ne_dead q1))).1]; exact g1
  ·obtain ⟨g1, g2, g3⟩ := plus_new (t := t) (m := m) hb;rcases Nat.lt_or_ge b (E.H.length + m) with hm | hm
   ·rw [g2 hm]; exact ⟨Nat.le_refl _, ht, .inl ⟨g1, rfl⟩⟩
   ·rw [g3 hm]; trivial
 glob := h.globExt plus_ext
def ownC (n : Nat) : Cell -> Cell × Nat
 | .nils => (.sl n 0 0, n + 1)
 | x => (x, n)
def ownF : Nat -> List FCell -> List FCell × Nat
 | n, [] => ([], n)
 | n, .c x :: fs => (.c (ownC n x).1 :: (ownF (ownC n x).2 fs).1, (ownF (ownC n x).2 fs).2)
 | n, .ws k m xs :: fs => (.ws k m xs :: (ownF n fs).1, (ownF n fs).2)
def ownV (n : Nat) : V1 -> V1 × Nat
 | .c x => (.c (ownC n x).1, (ownC n x).2)
 | .g fs => (.g (ownF n fs).1, (ownF n fs).2)
def ownVs : Nat -> List V1 -> List V1 × Nat
 | n, [] => ([], n)
 | n, v :: vs => ((ownV n v).1 :: (ownVs (ownV n v).2 vs).1, (ownVs (ownV n v).2 vs).2)
def ownS (n : Nat) : SV -> SV × Nat
 | .any => (.any, n)
 | .one v => (.one (ownV n v).1, (ownV n v).2)
 | .tup vs => (.tup (ownVs n vs).1, (ownVs n vs).2)
theorem ownC_mono {n : Nat} {x : Cell} : n <= (ownC n x).2 := by cases x <;> simp [ownC]
theorem ownF_mono : ∀ {fs : List FCell} {n : Nat}, n <= (ownF n fs).2
 | [], n => Nat.le_refl _
 | .c x :: fs, n => Nat.le_trans ownC_mono (ownF_mono (fs := fs))
 | .ws .. :: fs, n => ownF_mono (fs := fs)
theorem ownV_mono {n : Nat} {v : V1} : n <= (ownV n v).2 := by
 cases v with
 | c x => exact ownC_mono
 | g fs => exact ownF_mono
theorem ownVs_mono : ∀ {vs : List V1} {n : Nat}, n <= (ownVs n vs).2
 | [], n => Nat.le_refl _
 | v :: vs, n => Nat.le_trans ownV_mono (ownVs_mono (vs := vs))
def Empties (E : Env) (t : DTy) (lo hi : Nat) : Prop := ∀ b, lo <= b -> b < hi -> getB E.H b = .arr t [] 0 [] /\ E.β b = none
theorem ownC_rel {t : DTy} {n hi : Nat} {x : Cell} {v : Value} (he : Empties E t n hi) (hh : (ownC n x).2 <= hi) (h : RelC E x v) : RelC E (ownC n x).1 v := by
 cases x with
 | nils =>
  obtain rfl : v = .slice none 0 0 := h;obtain ⟨g1, g2⟩ := he n (Nat.le_refl _) hh;refine ⟨trivial, ?_⟩
  show RelSl E n 0 0 _
  unfold RelSl;rw [g1];exact ⟨none, 0, rfl, Nat.le_refl _, by omega, Nat.le_refl _, .inl ⟨g2, rfl⟩⟩
 | _ => exact h
theorem Empties.from {t : DTy} {n n' hi : Nat} (h : Empties E t n hi) (hn : n <= n') : Empties E t n' hi := fun b h1 h2 => h b (by omega) h2
theorem ownF_rel {t : DTy} {hi : Nat} : ∀ {fs : List FCell} {n : Nat} {vs : List Value}, Empties E t n hi -> (ownF n fs).2 <= hi -> RelFs E fs vs -> RelFs E (ownF n fs).1 vs
 | [], _, _, _, _, h => h
 | .c x :: fs, n, vs, he, hh, h => by
  obtain ⟨v1, v2, rfl, ⟨v, rfl, h1⟩, h2⟩ := h;have hm : (ownC n x).2 <= (ownF (ownC n x).2 fs).2 := ownF_mono
  exact ⟨[v], v2, rfl, ⟨v, rfl, ownC_rel he (Nat.le_trans hm hh) h1⟩, ownF_rel (fs := fs) (he.from ownC_mono) hh h2⟩
 | .ws .. :: fs, n, vs, he, hh, h => by
  obtain ⟨v1, v2, rfl, h1, h2⟩ := h;exact ⟨v1, v2, rfl, h1, ownF_rel (fs := fs) he hh h2⟩
theorem ownV_rel {t : DTy} {n hi : Nat} {x : V1} {v : Value} (he : Empties E t n hi) (hh : (ownV n x).2 <= hi) (h : RelV E x v) : RelV E (ownV n x).1 v := by
 cases x with
 | c x => exact ownC_rel he hh h
 | g fs => obtain ⟨cs, rfl, h⟩ := h; exact ⟨cs, rfl, ownF_rel he hh h⟩
theorem ownVs_rel {t : DTy} {hi : Nat} : ∀ {xs : List V1} {n : Nat} {vs : List Value}, Empties E t n hi -> (ownVs n xs).2 <= hi -> RelVs E xs vs -> RelVs E (ownVs n xs).1 vs
 | [], _, _, _, _, h => h
 | x :: xs, n, vs, he, hh, h => by
  obtain ⟨u, us, rfl, h1, h2⟩ := h;have hm : (ownV n x).2 <= (ownVs (ownV n x).2 xs).2 := ownVs_mono
  exact ⟨u, us, rfl, ownV_rel he (Nat.le_trans hm hh) h1, ownVs_rel (xs := xs) (he.from ownV_mono) hh h2⟩
theorem ownS_rel {t : DTy} {n hi : Nat} {x : SV} {v : Value} (he : Empties E t n hi) (hh : (ownS n x).2 <= hi) (h : RelS E x v) : RelS E (ownS n x).1 v := by
 cases x with
 | any => trivial
 | one x => exact ownV_rel he hh h
 | tup xs => obtain ⟨us, rfl, h⟩ := h; exact ⟨us, rfl, ownVs_rel he hh h⟩
theorem plus_empties {t : DTy} {m : Nat} : Empties (plusE E t m) t E.H.length (E.H.length + m) := fun b h1 h2 => ⟨(plus_new h1).2.1 h2, (plus_new h1).1⟩
theorem Runs.nilSlot {fn : Func} {m : Nat} {is : List Item} {s : St} {v : SV} {hl : Heap} (d : Nat) (t : DTy) (ht : 0 < t.size)
  (h : Runs P S fn m is ⟨setT s.t d (ownS s.h.length (getT s.t d)).1, s.h ++ List.replicate ((ownS s.h.length (getT s.t d)).2 - s.h.length) (.arr t [] 0 [])⟩ v hl) : Runs P S fn m is s v hl := by
 intro E0 E a x hm hs;refine h E0 (plusE E t ((ownS s.h.length (getT s.t d)).2 - s.h.length)) a (x.trans plus_ext) hm ⟨plus_rep hs.h ht, ?_, ?_, hs.d⟩
 ·show E.H ++ _ = s.h ++ _
  rw [hs.eq]
 ·have ht0 := RelTs.ext hs.h (plus_ext (t := t) (m := (ownS s.h.length (getT s.t d)).2 - s.h.length)) _ _ hs.t
  have hg := relTs_get (u := d) ht0
  have he := plus_empties (E := E) (t := t) (m := (ownS s.h.length (getT s.t d)).2 - s.h.length)
  have hr := ownS_rel (n := s.h.length) (hi := E.H.length + ((ownS s.h.length (getT s.t d)).2 - s.h.length)) (by rw [<- hs.eq]; rw [<- hs.eq] at he; exact he) (by rw [hs.eq]; omega) hg
  have hset := relTs_set (d := d) ht0 hr
  have : (a.tmps.toList.set d (a.tmps.toList.getD d undef)) = a.tmps.toList := by
   apply List.ext_getElem?
   intro i;rw [List.getElem?_set]
   split
   ·rename_i e;subst e;split
    ·rename_i hlt;rw [List.getD_eq_getElem?_getD, List.getElem?_eq_getElem hlt]; rfl
    ·rename_i hlt;rw [List.getElem?_eq_none (by omega)]
   ·rfl
  rwa [this] at hset
theorem Runs.nilVals {fn : Func} {m : Nat} {is : List Item} {s : St} {v : SV} {hl : Heap} (b : Nat) (t : DTy) (ht : 0 < t.size) {fs : List FCell} (hb : getB s.h b = .vals fs)
  (h : Runs P S fn m is ⟨s.t, setB s.h b (.vals (ownF s.h.length fs).1) ++ List.replicate ((ownF s.h.length fs).2 - s.h.length) (.arr t [] 0 [])⟩ v hl) : Runs P S fn m is s v hl := by
 intro E0 E a x hm hs;have hbE : getB E.H b = .vals fs := by rw [hs.eq]; exact hb
 have hlt : b < E.H.length := getB_len (by rw [hbE]; intro h; cases h)
 let E1 := plusE E t ((ownF s.h.length fs).2 - s.h.length)
 have x1 : Ext E E1 := plus_ext
 have r1 : RepH S.gl E1 := plus_rep hs.h ht
 have hb1 : getB E1.H b = .vals fs := by rw [(plus_old hlt).1]; exact hbE
 have hH : setB s.h b (.vals (ownF s.h.length fs).1) ++ List.replicate ((ownF s.h.length fs).2 - s.h.length) (.arr t [] 0 []) = setB E1.H b (.vals (ownF s.h.length fs).1) := by
  show _ = setB (E.H ++ _) b _
  rw [hs.eq] at hlt ⊢;have key : ∀ (H : Heap) (n : Nat) (k : Blk) (R : Heap), n < H.length -> setB H n k ++ R = setB (H ++ R) n k := by
   intro H
   induction H with
   | nil => intro n k R h; exact absurd h (Nat.not_lt_zero _)
   | cons y H ih =>
    intro n k R h;cases n with
    | zero => rfl
    | succ n => simp only [setB, List.cons_append]; rw [ih n k R (by simpa using h)]
  exact key _ _ _ _ hlt
 let E2 : Env := ⟨E1.β, setB E1.H b (.vals (ownF s.h.length fs).1), E1.w, E1.R⟩
 have hlt1 : b < E1.H.length := getB_len (by rw [hb1]; intro h; cases h)
 have hg2 : ∀ b', b' ≠ b -> getB E2.H b' = getB E1.H b' := fun b' h => getB_setB_ne h
 have hgb : getB E2.H b = .vals (ownF s.h.length fs).1 := getB_setB_same hlt1
 have hlive : ∀ b', live (getB E2.H b') = live (getB E1.H b') := fun b' => by
  by_cases e : b' = b
  ·subst e; rw [hgb, hb1]; rfl
  ·rw [hg2 b' e]
 have x2 : Ext E1 E2 := {
  os := rfl, tape := rfl, output := rfl, size := Nat.le_refl _, ro := fun _ h => h, rnew := fun _ h => .inl h, keep := fun _ _ _ => rfl
  cells := fun k c e fz h => ⟨c, fz, h, rfl⟩
  blk := fun b' => by
   by_cases e : b' = b
   ·subst e; rw [hgb, hb1]; exact rfl
   ·rw [hg2 b' e];cases getB E1.H b' <;> simp [BExt, E2]
  fresh := fun b' k h1 h2 => .inl ⟨b', by rwa [hlive] at h1, h2⟩ }
 have he : Empties E2 t s.h.length (s.h.length + ((ownF s.h.length fs).2 - s.h.length)) := fun b' h1 h2 => by
  have hne : b' ≠ b := by rw [hs.eq] at hlt; omega
  have := plus_empties (E := E) (t := t) (m := (ownF s.h.length fs).2 - s.h.length) b' (by rw [hs.eq]; exact h1) (by rw [hs.eq]; exact h2)
  exact ⟨by rw [hg2 b' hne]; exact this.1, this.2⟩
 have r2 : RepH S.gl E2 := {
  ro := fun k hk => ⟨(r1.ro k hk).1, fun b' hb' => (r1.ro k hk).2 b' (by rwa [hlive] at hb')⟩
  inj := fun b1 b2 k h1 h2 => r1.inj b1 b2 k (by rwa [hlive] at h1) (by rwa [hlive] at h2)
  blk := fun b' => by
   by_cases e : b' = b
   ·subst e;rw [hgb];have := r1.blk b'
    rw [hb1] at this;obtain ⟨k, c, ee, fz, g1, g2, g3, g4⟩ := this;exact ⟨k, c, ee, fz, g1, g2, g3, ownF_rel he (by omega) (RelFs.ext r1 x2 _ _ g4)⟩
   ·rw [hg2 b' e];refine (r1.blk b').ext r1 x2 rfl (fun _ _ _ h => h) (fun t' xs k hf hk b'' hl hb'' => ?_)
    rw [hlive] at hl;obtain ⟨xs', lo, par, q1, q2, q3⟩ := r1.shares hf hk hl hb'';have : b'' ≠ b := by rintro rfl; rw [hb1] at q1; cases q1
    exact ⟨xs', lo, par, by rw [hg2 b'' this]; exact q1, q2, q3⟩
  glob := r1.globExt x2 }
 refine h E0 E2 a ((x.trans x1).trans x2) hm ⟨r2, ?_, RelTs.ext r1 x2 _ _ (RelTs.ext hs.h x1 _ _ hs.t), hs.d⟩
 rw [hH]
end Go.SX
namespace Go.SX
open Go
variable {P : Program} {G : GlobT} {E E' : Env} {S : Tab} [Level]
def dumE (w : World) : Env := ⟨fun _ => none, [], w, fun _ => False⟩
def mkE (w : World) (H : Heap) (ks : List (Option Nat)) (R : Nat -> Prop) : Env := ⟨fun b => (ks[b]?).getD none, H, w, R⟩
theorem relTs_of : ∀ {t : List SV} {us : List Value}, us.length = t.length -> (∀ i, i < t.length -> RelS E (getT t i) (us.getD i undef)) -> RelTs E t us
 | [], [], _, _ => rfl
 | [], _ :: _, h, _ => by cases h
 | v :: t, [], h, _ => by cases h
 | v :: t, u :: us, h, hi => ⟨u, us, rfl, hi 0 (Nat.zero_lt_succ _), relTs_of (by simpa using h) fun i hlt => hi (i + 1) (by simpa using hlt)⟩
theorem getT_eq : ∀ (t : List SV) (i : Nat), getT t i = (t[i]?).getD .any
 | [], i => by simp [getT]
 | v :: t, 0 => rfl
 | v :: t, i + 1 => by simpa [getT] using getT_eq t i
theorem relTs_slots {n : Nat} {l : List (Nat × SV)} {us : List Value} (hlen : us.length = n) (h : ∀ p ∈ l, RelS E p.2 (us.getD p.1 undef)) : RelTs E (slotsOf n l) us := by
 refine relTs_of (by simp [slotsOf, hlen]) fun i hi => ?_
 have hi : i < n := by simpa [slotsOf] using hi
 rw [getT_eq];unfold slotsOf;rw [List.getElem?_map, List.getElem?_range hi]
 simp only [Option.map_some, Option.getD_some];cases hf : l.find? (·.1 == i) with
 | none => trivial
 | some p =>
  have h1 := List.mem_of_find?_eq_some hf
  have h2 : p.1 = i := by simpa using List.find?_some hf
  rw [<- h2]; exact h p h1
def Sub (E E' : Env) : Prop := ∀ k, E.R k -> E'.R k /\ E'.w.heap[k]? = E.w.heap[k]?
theorem RoSl.onSub {sz : Nat} {α : Type} {Q Q' : α -> List Value -> Prop} {xs : List α} {len : Nat} {v : Value} (s : Sub E E') (hq : ∀ a us, Q a us -> Q' a us) (h : RoSl E sz Q xs len v) : RoSl E' sz Q' xs len v := by
 obtain ⟨a, cap, h1, h2, h3, h4, h5, h6⟩ := h;refine ⟨a, cap, h1, h2, h3, h4, h5, fun hne => ?_⟩
 obtain ⟨k, off, c, e, fz, g1, g2, g3, g4⟩ := h6 hne;exact ⟨k, off, c, e, fz, g1, (s k g2).1, ((s k g2).2).trans g3, g4.mono hq⟩
theorem RoT.sub (s : Sub E E') : ∀ (t : DTy) (d : t.den) (vs : List Value), t.rf = false -> RoT E t d vs -> RoT E' t d vs
 | .unit, _, _, _, h => h
 | .int _, _, _, _, h => h
 | .bool, _, _, _, h => h
 | .str, _, _, _, h => h
 | .ws _ _, _, _, _, h => h
 | .pair a b, d, vs, hf, h => by
  have hf : (a.rf || b.rf) = false := hf
  rw [Bool.or_eq_false_iff] at hf;obtain ⟨v1, v2, h1, h2, h3⟩ := h;exact ⟨v1, v2, h1, RoT.sub s a _ _ hf.1 h2, RoT.sub s b _ _ hf.2 h3⟩
 | .sl t, d, vs, hf, h => by
  obtain ⟨v, h1, h2⟩ := h;exact ⟨v, h1, RoSl.onSub s (fun a us => RoT.sub s t a us hf) h2⟩
 | .ref, _, _, hf, _ => by cases hf
 | .vp, _, _, _, h => h
theorem RelRp.sub {t : DTy} {d : t.den} {o k : Nat} {v : Value} (s : Sub E E') (hf : t.rf = false) (h : RelRp E t d o k v) : RelRp E' t d o k v := by
 obtain ⟨kb, off, c, e, fz, us, h1, h2, h3, h4, h5, h6⟩ := h;exact ⟨kb, off, c, e, fz, us, h1, (s kb h2).1, ((s kb h2).2).trans h3, RoT.sub s t d us hf h4, h5, h6⟩
theorem lay_rep (hE : RepH G E) {w : World} {H : Heap} {ks : List (Option Nat)} {R : Nat -> Prop} (hs : Sub E (mkE w H ks R)) (hro : ∀ k, R k -> k < w.heap.size /\ ∀ b, live (getB H b) = true -> (ks[b]?).getD none ≠ some k)
  (hinj : ∀ b b' k, live (getB H b) = true -> live (getB H b') = true -> (ks[b]?).getD none = some k -> (ks[b']?).getD none = some k -> b = b')
  (hblk : ∀ b, b < H.length -> RepB (mkE w H ks R) b (getB H b)) : RepH G (mkE w H ks R) where
 ro := hro
 inj := hinj
 blk := fun b => by
  rcases Nat.lt_or_ge b H.length with h | h
  ·exact hblk b h
  ·show RepB _ b (getB H b)
   rw [dead_of h]; trivial
 glob := fun g t d hg => ⟨RelRp.sub hs (hE.glob g t d hg).2 (hE.glob g t d hg).1, (hE.glob g t d hg).2⟩
theorem lay_ext {E0 : Env} (x : Ext E0 E) (h0 : E0.H = []) {H : Heap} {ks : List (Option Nat)} {R : Nat -> Prop} (hro : ∀ k, E0.R k -> R k) (hnew : ∀ k, R k -> E0.R k \/ E0.w.heap.size <= k)
  (hfr : ∀ b k, live (getB H b) = true -> (ks[b]?).getD none = some k -> E0.w.heap.size <= k) : Ext E0 (mkE E.w H ks R) where
 os := x.os
 tape := x.tape
 output := x.output
 size := x.size
 ro := hro
 rnew := fun k hk => (hnew k hk).imp id .inl
 keep := x.keep
 cells := x.cells
 blk := fun b => by rw [h0]; trivial
 fresh := fun b k hb hk => .inr (hfr b k hb hk)
theorem rnew0 {E0 : Env} (x : Ext E0 E) (h0 : E0.H = []) {k : Nat} (h : E.R k) : E0.R k \/ E0.w.heap.size <= k := by
 rcases x.rnew k h with q | q | ⟨b, q, _⟩
 ·exact .inl q
 ·exact .inr q
 ·rw [h0] at q; cases q
end Go.SX
