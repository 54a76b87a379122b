/-
  SX, part 23: regions: what was run tells what the machine does.
-/
import Derived.Test.YticfnbhbpcpgeaaDoorSx22
namespace Go.SX
open Go
variable {P : Program} {G : GlobT} {E : Env} {ops : Array Oper} {Q : Act → World → Prop} {S : Tab}

def KOk (ks : Known) (t : List SV) : Prop := ∀ p ∈ ks, ∃ l, getT t p.1 = one (.bool l p.2)

theorem knownOf_mem {u : Nat} {b : Bool} : ∀ {ks : Known}, knownOf u ks = some b → (u, b) ∈ ks
  | [], h => by cases h
  | (x, c) :: ks, h => by
    simp only [knownOf] at h
    split at h
    · rename_i hx
      have hx : x = u := by simpa using hx
      obtain rfl := Option.some.inj h
      subst hx
      exact List.mem_cons_self
    · exact List.mem_cons_of_mem _ (knownOf_mem h)

theorem litize_rel {ks : Known} {t : List SV} {u : Nat} {x : Value} (hK : KOk ks t) (h : RelS E (getT t u) x) : RelS E (litize ks u (getT t u)) x := by
  unfold litize
  cases hk : knownOf u ks with
  | none => exact h
  | some b =>
    obtain ⟨l, hl⟩ := hK _ (knownOf_mem hk)
    simp only at hl
    rw [hl] at h
    exact h

theorem litize_bool {ks : Known} {t : List SV} {u : Nat} {l b : Bool} (hK : KOk ks t) (h : litize ks u (getT t u) = one (.bool l b)) : ∃ l', getT t u = one (.bool l' b) := by
  unfold litize at h
  cases hk : knownOf u ks with
  | none => rw [hk] at h; exact ⟨l, h⟩
  | some c =>
    rw [hk] at h
    obtain ⟨l', hl⟩ := hK _ (knownOf_mem hk)
    simp only at hl h
    cases h
    exact ⟨l', hl⟩

theorem KOk.kill {ks : Known} {r : Rec} {s : St} (h : KOk ks s.t) : KOk (killK r.dst ks) (r.apply s).t := by
  intro p hp
  rw [apply_t]
  cases hd : r.dst with
  | none => rw [hd] at hp; exact h p hp
  | some d =>
    rw [hd] at hp
    obtain ⟨h1, h2⟩ := List.mem_filter.1 hp
    have h2 : p.1 ≠ d := by simpa using h2
    obtain ⟨l, hl⟩ := h p h1
    exact ⟨l, (getT_setT_ne h2).trans hl⟩

theorem evalK_rel (hE : RepH G E) {ks : Known} {t : List SV} {a : Act} (hK : KOk ks t) (x : Operand) (hu : ∀ u, x = .tmp u → RelS E (getT t u) (a.tmps.toList.getD u undef)) : RelS E (evalK G ks t x) (a.eval x) := by
  cases x with
  | tmp u =>
    have := litize_rel hK (hu u rfl)
    have he : a.eval (.tmp u) = a.tmps.toList.getD u undef := by
      simp [Act.eval, Array.getD_eq_getD_getElem?, List.getD_eq_getElem?_getD]
    rw [he]; exact this
  | const v =>
    show RelS E (absV v) v
    unfold absV
    split
    · trivial
    · trivial
    · rename_i h1 h2
      refine absC_rel ?_
      cases v <;> first | trivial | exact h1 _ rfl | exact h2 _ rfl
  | global g =>
    show RelS E (match G g with | some ⟨t, d⟩ => .one (.c (.rptr t d 0 0)) | none => .any) _
    cases hg : G g with
    | none => trivial
    | some p => obtain ⟨t, d⟩ := p; exact (hE.glob g t d hg).1
  | func f => exact ⟨rfl, rfl⟩

theorem usesOf_get {s : St} {o : Oper} {a : Act} {r : Rec} (hr : r.uses = usesOf ops s.t o) (hu : ∀ p ∈ r.uses, RelS E p.2 (a.tmps.toList.getD p.1 undef)) {u : Nat} (h : u ∈ o.looksAt ops) : RelS E (getT s.t u) (a.tmps.toList.getD u undef) :=
  hu (u, getT s.t u) (by rw [hr]; exact List.mem_map.2 ⟨u, h, rfl⟩)

theorem exec1_sound (hsp : SpecOk P S) {o : Oper} {nid : Nat} {ks : Known} {s : St} {r : Rec} (hK : KOk ks s.t) (h : (exec1 S P ops o nid ks s).val = some r) :
    r.dst = o.dst ∧ r.uses = usesOf ops s.t o ∧ r.nid = nid ∧ r.n = slots S o ∧ wrOk (nid + slots S o) r.wr = true ∧
    ∀ (E : Env) (a : Act), RepH S.gl E → (∀ p ∈ r.uses, RelS E p.2 (a.tmps.toList.getD p.1 undef)) → (∀ b ∈ r.rds, getB E.H b = lookOf s.h r.rds b) →
      (∀ m, m < r.n → fresh1 E (r.nid + m)) → StepOk P S.gl E (execOp a.eval o) (r.v, r.wr) := by
  unfold exec1 at h
  obtain ⟨p, h1, h2⟩ := val_bind h
  split at h2
  · rename_i hw
    obtain rfl := val_ret h2
    refine ⟨rfl, rfl, rfl, rfl, hw, fun E a hE hu hr hn => ?_⟩
    have hlook : LookOk E (lookOf s.h (looks (getB s.h) (evalK S.gl ks s.t) o)) := fun b => by
      by_cases hb : b ∈ looks (getB s.h) (evalK S.gl ks s.t) o
      · exact .inr (hr b hb).symm
      · left
        unfold lookOf
        rw [if_neg (fun hs => hb (seen_iff.1 hs))]
    exact step_sound hsp hE hlook (o := o) hn (ev := evalK S.gl ks s.t) (ρ := a.eval) (fun f => rfl) (fun x hx => evalK_rel hE hK x fun u hxu => by
      subst hxu
      refine usesOf_get (ops := ops) (o := o) rfl hu ?_
      exact List.mem_append_left _ (List.mem_filterMap.2 ⟨.tmp u, by simpa using hx, rfl⟩)) h1
  · cases h2

theorem yielded_of {j u : Nat} {b : Bool} {tmps : Array Value} (hj : (ops[j]?).bind (·.dst) = some u) (hv : tmps.toList.getD u undef = .bool b) : yielded ops tmps j = some b := by
  unfold yielded
  rw [hj]
  simp only [Option.bind_some]
  rw [List.getD_eq_getElem?_getD, Array.getElem?_toList] at hv
  cases h : tmps[u]? with
  | none => rw [h] at hv; cases hv
  | some x => rw [h] at hv; simp at hv; rw [hv]

theorem skip_ok {o : Oper} {nid : Nat} {s : St} {j u : Nat} {want b l : Bool} (hg : o.guard = some (j, want)) (hj : (ops[j]?).bind (·.dst) = some u) (hb : getT s.t u = one (.bool l b)) (hne : (b == want) = false) :
    RecOk P S.gl ops o (skipRec S ops o nid s) (fun _ => .dead) := by
  refine ⟨rfl, fun E a hE hu _ _ => ?_⟩
  have hmem : u ∈ o.looksAt ops := by unfold Oper.looksAt; rw [hg]; simp [hj]
  have hv := usesOf_get (E := E) (a := a) (r := skipRec S ops o nid s) rfl hu hmem
  rw [hb] at hv
  have hy := yielded_of hj hv
  have hw : Region.wanted o (yielded ops a.tmps) = false := by
    unfold Region.wanted
    rw [hg]
    simp only [hy]
    simpa using hne
  rw [hw, if_neg (by simp)]
  exact ⟨E.β, E.R, hE, Ext.refl E, trivial⟩

theorem runOne_sound (hsp : SpecOk P S) {o : Oper} {nid : Nat} {ks ks' : Known} {s : St} {r : Rec} (hK : KOk ks s.t) (h : (runOne S P ops o nid ks s).val = some (r, ks')) :
    ∃ look, RecOk P S.gl ops o r look ∧ r.en look { s with h := s.h } = ((∀ m, m < r.n → getB s.h (r.nid + m) = .dead ∧ r.nid + m < s.h.length)) ∧ r.nid = nid ∧ r.n = slots S o ∧ wrOk (nid + slots S o) r.wr = true ∧ KOk ks' (r.apply s).t := by
  have hen : ∀ {r : Rec} {look : Look}, r.uses = usesOf ops s.t o → (∀ b ∈ r.rds, getB s.h b = look b) → r.en look { s with h := s.h } = ((∀ m, m < r.n → getB s.h (r.nid + m) = .dead ∧ r.nid + m < s.h.length)) := fun {r look} h1 h2 => by
    refine propext ⟨fun h => h.2.2, fun h => ⟨fun p hp => ?_, h2, h⟩⟩
    rw [h1] at hp
    obtain ⟨u, _, rfl⟩ := List.mem_map.1 hp
    rfl
  have hlk : ∀ {rds : List Nat}, ∀ b ∈ rds, getB s.h b = lookOf s.h rds b := fun {rds} b hb => by unfold lookOf; rw [if_pos (seen_iff.2 hb)]
  unfold runOne at h
  split at h
  · rename_i hg
    obtain ⟨r', h1, h2⟩ := val_bind h
    have := val_ret h2
    simp only [Prod.mk.injEq] at this
    obtain ⟨rfl, rfl⟩ := this
    obtain ⟨q1, q2, q3, q4, q5, q6⟩ := exec1_sound hsp hK h1
    refine ⟨_, ⟨q1, fun E a hE hu hr hn => ?_⟩, hen q2 hlk, q3, q4, q5, by rw [← q1]; exact hK.kill⟩
    have : Region.wanted o (yielded ops a.tmps) = true := by unfold Region.wanted; rw [hg]
    rw [this, if_pos rfl]
    exact q6 E a hE hu hr hn
  · rename_i j want hg
    split at h
    · cases h
    · rename_i u hj
      have run : ∀ {ks0 : Known} {l b : Bool}, KOk ks0 s.t → getT s.t u = one (.bool l b) → (b == want) = true → ((exec1 S P ops o nid ks0 s).bind fun r => .ret (r, killK o.dst ks0)).val = some (r, ks') →
          ∃ look, RecOk P S.gl ops o r look ∧ r.en look { s with h := s.h } = ((∀ m, m < r.n → getB s.h (r.nid + m) = .dead ∧ r.nid + m < s.h.length)) ∧ r.nid = nid ∧ r.n = slots S o ∧ wrOk (nid + slots S o) r.wr = true ∧ KOk ks' (r.apply s).t := by
        intro ks0 l b hK0 hb hw h
        obtain ⟨r', h1, h2⟩ := val_bind h
        have := val_ret h2
        simp only [Prod.mk.injEq] at this
        obtain ⟨rfl, rfl⟩ := this
        obtain ⟨q1, q2, q3, q4, q5, q6⟩ := exec1_sound hsp hK0 h1
        refine ⟨_, ⟨q1, fun E a hE hu hr hn => ?_⟩, hen q2 hlk, q3, q4, q5, by rw [← q1]; exact hK0.kill⟩
        have hmem : u ∈ o.looksAt ops := by unfold Oper.looksAt; rw [hg]; simp [hj]
        have hv := usesOf_get (E := E) (a := a) q2 hu hmem
        rw [hb] at hv
        have hy := yielded_of hj hv
        have : Region.wanted o (yielded ops a.tmps) = true := by
          unfold Region.wanted; rw [hg]; simp only [hy]; simpa using hw
        rw [this, if_pos rfl]
        exact q6 E a hE hu hr hn
      have skip : ∀ {ks0 : Known} {l b : Bool}, KOk ks0 s.t → getT s.t u = one (.bool l b) → (b == want) = false → (skipRec S ops o nid s, killK o.dst ks0) = (r, ks') →
          ∃ look, RecOk P S.gl ops o r look ∧ r.en look { s with h := s.h } = ((∀ m, m < r.n → getB s.h (r.nid + m) = .dead ∧ r.nid + m < s.h.length)) ∧ r.nid = nid ∧ r.n = slots S o ∧ wrOk (nid + slots S o) r.wr = true ∧ KOk ks' (r.apply s).t := by
        intro ks0 l b hK0 hb hw h
        simp only [Prod.mk.injEq] at h
        obtain ⟨rfl, rfl⟩ := h
        exact ⟨_, skip_ok hg hj hb hw, hen rfl (fun b hb => by cases hb), rfl, rfl, rfl, KOk.kill (r := skipRec S ops o nid s) hK0⟩
      split at h
      · rename_i b hb
        obtain ⟨l', hl⟩ := litize_bool hK hb
        split at h
        · rename_i hw; exact run hK hl hw h
        · rename_i hw; exact skip hK hl hw (val_ret h)
      · rename_i b hb
        obtain ⟨l', hl⟩ := litize_bool hK hb
        simp only [Tree.val] at h
        split at h
        · rename_i hw
          refine run (fun p hp => ?_) hl hw h
          rcases List.mem_cons.1 hp with rfl | hp
          · have : b = want := by simpa using hw
            subst this
            exact ⟨l', hl⟩
          · exact hK p hp
        · rename_i hw
          have hw : (b == want) = false := by simpa using hw
          refine skip (fun p hp => ?_) hl hw (Option.some.inj h)
          rcases List.mem_cons.1 hp with rfl | hp
          · have : b = !want := by cases b <;> cases want <;> simp_all
            subst this
            exact ⟨l', hl⟩
          · exact hK p hp
      · cases h

theorem wrOk_spec {n : Nat} {wr : List (Nat × Blk)} (h : wrOk n wr = true) : ∀ p ∈ wr, p.1 < n := fun p hp => by
  have := List.all_eq_true.1 h p hp
  simpa using this

theorem runOps_sound (hsp : SpecOk P S) : ∀ {os : List Oper} {k nid : Nat} {ks : Known} {s s' : St} {acc recs : List Rec}, (runOps S P ops os nid ks s acc).val = some (s', recs) → (∀ i o, os[i]? = some o → ops[k + i]? = some o) → KOk ks s.t →
    (∀ m, m < sumSlots S os → getB s.h (nid + m) = .dead ∧ nid + m < s.h.length) →
    ∃ l : List NRec, recs = (l.map (·.r)).reverse ++ acc ∧ Chain s l s' ∧ l.map (·.i) = List.range' k os.length ∧ ∀ x ∈ l, ∃ o, ops[x.i]? = some o ∧ RecOk P S.gl ops o x.r x.look
  | [], k, nid, ks, s, s', acc, recs, h, ho, hK, hn => by
    have := val_ret h
    simp only [Prod.mk.injEq] at this
    obtain ⟨rfl, rfl⟩ := this
    exact ⟨[], rfl, rfl, rfl, fun x hx => by cases hx⟩
  | o :: os, k, nid, ks, s, s', acc, recs, h, ho, hK, hn => by
    simp only [runOps] at h
    obtain ⟨⟨r, ks'⟩, h1, h2⟩ := val_bind h
    obtain ⟨look, q1, q2, q3, q4, q5, q6⟩ := runOne_sound hsp hK h1
    have hw := wrOk_spec q5
    simp only [sumSlots] at hn
    obtain ⟨l, g1, g2, g3, g4⟩ := runOps_sound hsp (k := k + 1) h2 (fun i o' hi => by rw [show k + 1 + i = k + (i + 1) from by omega]; exact ho (i + 1) o' (by simpa using hi)) q6 (fun m hm => by
      obtain ⟨z1, z2⟩ := hn (slots S o + m) (by omega)
      rw [apply_h, length_setBs, getB_setBs_not _ _ _ (fun p hp e => by have := hw p hp; omega), Nat.add_assoc]
      exact ⟨z1, z2⟩)
    refine ⟨⟨k, r, look⟩ :: l, by rw [g1]; simp, ⟨?_, g2⟩, ?_, fun x hx => ?_⟩
    · have : r.en look s := by
        have : r.en look { s with h := s.h } := by
          rw [q2]; intro m hm; rw [q3]; exact hn m (by rw [q4] at hm; omega)
        exact this
      exact this
    · rw [List.map_cons, g3]; rfl
    · rcases List.mem_cons.1 hx with rfl | hx
      · exact ⟨o, by have := ho 0 o rfl; simpa using this, q1⟩
      · exact g4 x hx

theorem apartGo_spec {m : Nat} {r : Rec} : ∀ {qs : List Rec} {i : Nat}, apartGo m r i qs = true → ∀ k q, qs[k]? = some q → m.testBit (i + k) = true ∨ Apart q r
  | [], _, _, k, q, hq => by simp at hq
  | x :: qs, i, h, k, q, hq => by
    simp only [apartGo, Bool.and_eq_true, Bool.or_eq_true] at h
    cases k with
    | zero =>
      simp at hq; subst hq
      exact h.1.imp id Rec.apart_spec
    | succ k =>
      have := apartGo_spec h.2 k q (by simpa using hq)
      rwa [show i + 1 + k = i + (k + 1) from by omega] at this

theorem apartAll_spec : ∀ {rs : List Rec} {ms : List Nat} {j : Nat} {done : List Rec}, apartAll ms j done rs = true → ∀ k r, rs[k]? = some r → ∃ m, ms[k]? = some m ∧ ∀ i q, (done ++ rs.take k)[i]? = some q → m.testBit i = true ∨ Apart q r
  | [], _, _, _, _, k, r, hr => by simp at hr
  | x :: rs, [], j, done, h, k, r, hr => by cases h
  | x :: rs, m :: ms, j, done, h, k, r, hr => by
    simp only [apartAll, Bool.and_eq_true] at h
    cases k with
    | zero =>
      simp at hr; subst hr
      refine ⟨m, rfl, fun i q hq => ?_⟩
      have := apartGo_spec h.1 i q (by simpa using hq)
      rwa [Nat.zero_add] at this
    | succ k =>
      obtain ⟨m', g1, g2⟩ := apartAll_spec h.2 k r (by simpa using hr)
      refine ⟨m', by simpa using g1, fun i q hq => g2 i q ?_⟩
      simpa using hq

theorem textOk_spec : ∀ {os : List Oper} {n : Nat}, textOk os n = true → ∀ i o, os[i]? = some o → ∀ e ∈ o.after.toList, Region.binds .any e = true → e.on < n + i
  | [], _, _, i, o, ho, _, _, _ => by simp at ho
  | x :: os, n, h, i, o, ho, e, he, hb => by
    simp only [textOk, Bool.and_eq_true] at h
    cases i with
    | zero =>
      simp at ho; subst ho
      have := List.all_eq_true.1 h.1 e he
      rw [hb] at this
      simpa using this
    | succ i =>
      have := textOk_spec h.2 i o (by simpa using ho) e he hb
      omega

theorem getB_pad (H : Heap) (n b : Nat) : getB (H ++ List.replicate n .dead) b = getB H b := by
  rw [getB_eq, getB_eq]
  rcases Nat.lt_or_ge b H.length with h | h
  · rw [List.getElem?_append_left h]
  · rw [List.getElem?_append_right h, List.getElem?_eq_none h, List.getElem?_replicate]
    split <;> rfl

theorem env_pad (hE : RepH G E) (n : Nat) : RepH G ⟨E.β, E.H ++ List.replicate n .dead, E.w, E.R⟩ ∧ Ext E ⟨E.β, E.H ++ List.replicate n .dead, E.w, E.R⟩ := by
  have x : Ext E ⟨E.β, E.H ++ List.replicate n .dead, E.w, E.R⟩ := {
    os := rfl, tape := rfl, output := rfl, size := Nat.le_refl _, ro := fun _ h => h, rnew := fun _ h => .inl h, keep := fun _ _ _ => rfl
    cells := fun k c e fz h => ⟨c, fz, h, rfl⟩
    blk := fun b => by rw [getB_pad]; cases getB E.H b <;> simp [BExt]
    fresh := fun b k h1 h2 => .inl ⟨b, by rw [getB_pad] at h1; exact h1, h2⟩ }
  refine ⟨⟨fun k hk => ⟨(hE.ro k hk).1, fun b hb => ?_⟩, fun b b' k h1 h2 => ?_, fun b => ?_, hE.globExt x⟩, x⟩
  · rw [getB_pad] at hb; exact (hE.ro k hk).2 b hb
  · rw [getB_pad] at h1 h2; exact hE.inj b b' k h1 h2
  · rw [getB_pad]
    refine (hE.blk b).ext hE x rfl (fun _ _ _ h => h) (fun t xs k hf hk b' hl hb' => ?_)
    rw [getB_pad] at hl ⊢
    exact hE.shares hf hk hl hb'

theorem opsX_way {main : Bool} {Stop : Goroutine → World → Prop} {b : Frame} {k : List Item} {cs : List Frame} (hb : b.kind = .normal) : ∀ {is : List Nat} {a : Act} {w : World}, opsX P ops Q is a w →
    (∀ a' w', Q a' w' → Way P main Stop (Conc.G (b.at a' (.inRegion ops [] :: k)) cs) w') → Way P main Stop (Conc.G (b.at a (.inRegion ops is :: k)) cs) w
  | [], a, w, h, hk => hk a w h
  | i :: is, a, w, h, hk => h main Stop b is k cs hb fun a' w' q => opsX_way hb q hk

theorem runRegion_sound (hsp : SpecOk P S) (hm : P.follows .mixedOrders = true) {draw : Bool} {s s' : St} {a : Act} {id : Nat} (hs : Rp S.gl E s a) (h : (runRegion S P ops draw s).val = some s')
    {main : Bool} {Stop : Goroutine → World → Prop} {b : Frame} {k : List Item} {cs : List Frame} (hb : b.kind = .normal)
    (hQ : ∀ E' a', Ext E E' → Rp S.gl E' s' a' → Way P main Stop (Conc.G (b.at a' k) cs) E'.w) : Way P main Stop (Conc.G (b.at a (.code (.region id ops draw) :: k)) cs) E.w := by
  unfold runRegion at h
  obtain ⟨⟨s1, recs⟩, h1, h2⟩ := val_bind h
  obtain ⟨hp1, hp2⟩ := env_pad hs.h (sumSlots S ops.toList)
  obtain ⟨l, g1, g2, g3, g4⟩ := runOps_sound hsp (k := 0) h1 (fun i o hi => by simpa using hi) (fun p hp => by cases hp) (fun m hm => by
    refine ⟨?_, by simp; omega⟩
    show getB (s.h ++ _) _ = _
    rw [getB_pad, getB_eq, List.getElem?_eq_none (by omega)]; rfl)
  have hs0 : Rp S.gl ⟨E.β, E.H ++ List.replicate (sumSlots S ops.toList) .dead, E.w, E.R⟩ { s with h := s.h ++ List.replicate (sumSlots S ops.toList) .dead } a :=
    ⟨hp1, by show E.H ++ _ = s.h ++ _; rw [hs.eq], RelTs.ext hs.h hp2 _ _ hs.t, hs.d⟩
  rw [List.range'_eq_map_range] at g3
  have hi : l.map (·.i) = List.range ops.size := by simpa using g3
  cases draw with
  | false =>
    obtain rfl := val_ret h2
    refine Way.ctl rfl (fun _ => Conc.stepG_region) ?_
    have hc := chain_text (Q := fun a' w' => Way P main Stop (Conc.G (b.at a' k) cs) w') (E := ⟨E.β, E.H ++ List.replicate (sumSlots S ops.toList) .dead, E.w, E.R⟩) g4 g2 hs0 (fun E' a' q1 q2 => hQ E' a' (hp2.trans q1) q2)
    rw [hi] at hc
    exact opsX_way hb hc (fun a' w' q => Way.ctl rfl (fun _ => Conc.stepG_region_end) q)
  | true =>
    simp only at h2
    split at h2
    · rename_i hc
      obtain rfl := val_ret h2
      simp only [Bool.and_eq_true] at hc
      obtain ⟨hc1, hc2⟩ := hc
      have hlen : l.length = ops.size := by have := congrArg List.length hi; simpa using this
      have hidx : ∀ (i : Nat) (hi' : i < l.length), (l[i]).i = i := fun i hi' => by
        have : (l.map (·.i))[i]? = (List.range ops.size)[i]? := by rw [hi]
        rw [List.getElem?_map, List.getElem?_eq_getElem hi', List.getElem?_range (by omega)] at this
        simpa using this
      refine Way.go rfl (fun w₁ g => ⟨_, _, _, stepG_draw, ?_⟩)
      have g9 : Grow E.w { w₁ with drawn := w₁.drawn + 1 } := ⟨g.os, g.tape, g.output, g.size, g.heap⟩
      obtain ⟨e2, hs1⟩ := hs0.grow (w₁ := { w₁ with drawn := w₁.drawn + 1 }) g9
      simp only [Region.schedule, hm, Bool.true_or, if_true]
      refine opsX_way hb (anyX_sound (Q := fun a' w' => Way P main Stop (Conc.G (b.at a' k) cs) w') ops.size _ _ a { w₁ with drawn := w₁.drawn + 1 } ?_) (fun a' w' q => Way.ctl rfl (fun _ => Conc.stepG_region_end) q)
      refine anyX_chain (G := S.gl) (E := ⟨E.β, E.H ++ List.replicate (sumSlots S ops.toList) .dead, { w₁ with drawn := w₁.drawn + 1 }, E.R⟩) (bit := fun i j => ∃ m, (masks ops.toList [])[i]? = some m ∧ m.testBit j = true) ?_ ?_ ops.size hlen (by simp) ?_ ?_ ?_ g4 g2 hs1
        (fun E' a' q1 q2 => hQ E' a' ((hp2.trans e2).trans q1) q2)
      · rintro listed hcl i o ho hes j ⟨m, hm1, hm2⟩
        obtain ⟨z1, _⟩ := masks_spec (listed := fun i => listed.getD i false) (all := ops.toList) (fun i o ho hl => hcl i o (by simpa using ho) hl) (os := ops.toList) (acc := []) (pre := []) rfl rfl (fun i o m _ hm => by simp at hm)
        exact z1 i o m (by simpa using ho) hm1 hes j hm2
      · intro i o ho e he hb
        have := textOk_spec hc1 i o (by simpa using ho) e he hb
        omega
      · intro i hi'
        constructor
        · intro _
          exact ⟨l[i]'(by omega), List.getElem_mem _, hidx i (by omega)⟩
        · intro _
          simp [Array.getD, hi']
      · intro i o ho hl
        exfalso
        by_cases hi' : i < ops.size <;> simp [Array.getD, hi'] at hl
      · rw [List.pairwise_iff_getElem]
        intro i j hi' hj hij
        rw [hidx i hi', hidx j hj]
        refine ⟨hij, ?_⟩
        rw [g1] at hc2
        simp only [List.append_nil, List.reverse_reverse] at hc2
        obtain ⟨m, z1, z2⟩ := apartAll_spec hc2 j (l[j]).r (by rw [List.getElem?_map, List.getElem?_eq_getElem hj]; rfl)
        have := z2 i (l[i]).r (by
          rw [List.nil_append, List.getElem?_take, if_pos hij, List.getElem?_map, List.getElem?_eq_getElem hi']; rfl)
        exact this.imp (fun q => ⟨m, z1, q⟩) (fun q => q)
    · cases h2
end Go.SX
