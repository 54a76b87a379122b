/-
  SX, part 20: a call, as the caller sees it.
-/
import Derived.Test.YticfnbhbpcpgeaaDoorSx19
namespace Go.SX
open Go
variable {P : Program} {G : GlobT} {E : Env} {look : Look} {ids : List Nat} {nid : Nat}

theorem val_bind {α β : Type} : ∀ {t : Tree α} {f : α → Tree β} {r : β}, (t.bind f).val = some r → ∃ a, t.val = some a ∧ (f a).val = some r
  | .ret a, f, r, h => ⟨a, rfl, h⟩
  | .fail, f, r, h => by cases h
  | .br b t e, f, r, h => by
    cases b with
    | true => exact val_bind (t := t) h
    | false => exact val_bind (t := e) h

theorem freezeAll_sound : ∀ {l : List Nat} {fz : List (Nat × Blk)} {E : Env}, freezeAll look l = some fz → RepH G E → (∀ b ∈ l, real (look b) → getB E.H b = look b) →
    ∃ R0, RepH G ⟨E.β, setBs E.H fz, E.w, R0⟩ ∧ Ext E ⟨E.β, setBs E.H fz, E.w, R0⟩ ∧ (∀ b ∈ l, ∀ k, E.β b = some k → R0 k) ∧ (∀ b, b ∉ l → getB (setBs E.H fz) b = getB E.H b) ∧
      (∀ b ∈ l, ∃ t xs lo par, look b = .arr t xs lo par ∧ getB (setBs E.H fz) b = .frz t xs)
  | [], fz, E, h, hE, hk => by
    obtain rfl := Option.some.inj h
    exact ⟨E.R, hE, Ext.refl E, fun _ hb => (by cases hb), fun _ _ => rfl, fun _ hb => (by cases hb)⟩
  | b :: bs, fz, E, h, hE, hk => by
    simp only [freezeAll] at h
    split at h
    · rename_i hs
      have hs := seen_iff.1 hs
      obtain ⟨R0, h1, h2, h3, h4, h5⟩ := freezeAll_sound h hE (fun c hc => hk c (List.mem_cons_of_mem _ hc))
      refine ⟨R0, h1, h2, fun c hc => ?_, fun c hc => h4 c (fun hm => hc (List.mem_cons_of_mem _ hm)), fun c hc => ?_⟩
      · rcases List.mem_cons.1 hc with rfl | hc
        · exact h3 _ hs
        · exact h3 c hc
      · rcases List.mem_cons.1 hc with rfl | hc
        · exact h5 _ hs
        · exact h5 c hc
    · rename_i hs
      have hs : b ∉ bs := fun hm => hs (seen_iff.2 hm)
      split at h
      · rename_i p r hp hr
        obtain rfl := Option.some.inj h
        unfold freezeB at hp
        split at hp
        · rename_i t xs lo par hb
          obtain rfl := Option.some.inj hp
          have hbE : getB E.H b = .arr t xs lo par := by rw [hk b List.mem_cons_self (by rw [hb]; trivial), hb]
          obtain ⟨g1, g2⟩ := env_freeze hE hbE True
          have hlen : b < E.H.length := getB_len (by rw [hbE]; intro h; cases h)
          obtain ⟨R0, h1, h2, h3, h4, h5⟩ := freezeAll_sound hr g1 (fun c hc hrl => by
            have hne : c ≠ b := fun e => hs (e ▸ hc)
            show getB (setB E.H b _) c = _
            rw [getB_setB_ne hne]
            exact hk c (List.mem_cons_of_mem _ hc) hrl)
          refine ⟨R0, h1, g2.trans h2, fun c hc k hck => ?_, fun c hc => ?_, fun c hc => ?_⟩
          · rcases List.mem_cons.1 hc with rfl | hc
            · exact h2.ro k (.inr ⟨trivial, hck⟩)
            · exact h3 c hc k hck
          · show getB (setBs (setB E.H b _) r) c = _
            rw [List.mem_cons, not_or] at hc
            exact (h4 c hc.2).trans (getB_setB_ne hc.1)
          · rcases List.mem_cons.1 hc with rfl | hc
            · exact ⟨t, xs, lo, par, hb, (h4 c hs).trans (getB_setB_same hlen)⟩
            · exact h5 c hc
        · cases hp
      · cases h

theorem callT_sound {S : Tab} (hsp : SpecOk P S) (hE : RepH S.gl E) (hk : LookOk E look) {f : FuncId} (hn : ∀ m, m < S.n f → fresh1 E (nid + m)) {args : List SV} {us : Array Value} {r : Res} (ha : RelTs E args us.toList)
    (h : (callT S look nid f args).val = some r) : CallOk P S.gl E f us r := by
  unfold callT at h
  simp only at h
  generalize hids : idsOf S look f args = ids at h
  clear hids
  split at h
  case h_2 => cases h
  rename_i vs hl hvs hhl
  obtain ⟨⟨r', hl'⟩, hT, h⟩ := val_bind h
  split at h
  case isFalse => cases h
  rename_i hcond
  obtain ⟨hc1, hc2, hc3⟩ := hcond
  have hnd := nodup_of hc3
  have hsr := shown_real hvs hhl
  generalize hshown : args.flatMap (shownS look ids) ++ ids.flatMap (fun b => shownB look ids (look b)) = shown at h hsr
  have hs1 : ∀ b ∈ args.flatMap (shownS look ids), b ∈ shown := fun b hb => by rw [← hshown]; exact List.mem_append_left _ hb
  have hs2 : ∀ b ∈ ids.flatMap (fun b => shownB look ids (look b)), b ∈ shown := fun b hb => by rw [← hshown]; exact List.mem_append_right _ hb
  have hre : ∀ b ∈ shown, getB E.H b = look b := fun b hb => by
    have hr := (hsr b hb).1
    refine hk.eq rfl (fun e => ?_)
    rw [e] at hr; exact hr
  have hreal : ∀ b ∈ shown, real (getB E.H b) := fun b hb => by rw [hre b hb]; exact (hsr b hb).1
  have hlids : ∀ b ∈ ids, look b = .dead ∨ look b = getB E.H b := fun b _ => hk b
  simp only at hc1 hc2
  split at h
  · -- something that is only read comes back
    rename_i hro
    split at h
    case h_2 => cases h
    rename_i fz hfz
    obtain rfl := val_ret h
    obtain ⟨R0, g1, g2, g3, g4, g5⟩ := freezeAll_sound hfz hE (fun b hb _ => hre b hb)
    have hp : PassOk S.gl ⟨E.β, setBs E.H fz, E.w, R0⟩ look ids hl R0 shown := {
      hE := g1
      hlook := fun b => by
        by_cases hb : b ∈ shown
        · obtain ⟨t, xs, lo, par, q1, q2⟩ := g5 b hb
          exact .inr (.inr ⟨t, xs, lo, par, q1, q2⟩)
        · rcases hk b with q | q
          · exact .inl q
          · exact .inr (.inl (q.trans (g4 b hb).symm))
      hnd := hnd
      hhl := hhl
      hlids := fun b hb => by
        rcases hk b with q | q
        · exact .inl q
        · exact .inr (q.trans (g4 b (fun hm => (hsr b hm).2 hb)).symm)
      sub := fun _ hk => hk
      hshown := g3
      from_ := fun _ hk => .inl hk
      hout := fun b hb => (hsr b hb).2 }
    have hreal0 : ∀ b ∈ shown, real (getB (setBs E.H fz) b) := fun b hb => by
      obtain ⟨t, xs, lo, par, q1, q2⟩ := g5 b hb
      rw [q2]; trivial
    have hrep := hp.rep hreal0 hs2
    have hrel := hp.vs hvs hs1 (RelTs.ext hE g2 _ _ ha)
    refine (hsp f vs hl r' hl' hT _ us rfl hrep hrel).mono (fun u w' hq => ?_)
    obtain ⟨β', R', q1, q2, q3⟩ := hq
    have hb : BackOk S.gl ⟨E.β, setBs E.H fz, E.w, R0⟩ look ids hl R0 shown nid (S.n f) ⟨β', hl', w', R'⟩ R' := {
      p := hp
      hE' := q1
      hx := q2
      hfresh := fun m hm => by
        obtain ⟨z1, z2⟩ := hn m hm
        refine ⟨by show _ < (setBs E.H fz).length; rw [length_setBs]; exact z1, ?_⟩
        have : nid + m ∉ shown := fun hms => by
          have := hreal _ hms
          rw [z2] at this; exact this
        exact (g4 _ this).trans z2
      hlen1 := hc1
      hlen2 := hc2
      r1 := fun k hk => q2.ro k hk
      r2 := fun _ hk => hk
      r3 := fun k hk => by
        rcases q2.rnew k hk with z | z | ⟨j, z1, z2⟩
        · exact .inl z
        · exact .inr (.inl z)
        · obtain ⟨b, y1, y2, _⟩ := hp.live z1
          rw [PassOk.beta y1] at z2
          exact .inr (.inr ⟨b, List.mem_of_getElem? y1, y2, z2⟩) }
    have e1 := hb.rep (.inr fun _ hk => hk)
    have e2 := g2.trans hb.ext
    have e3 := hb.s (.inr fun _ hk => hk) q3
    have hH : (caller ⟨E.β, setBs E.H fz, E.w, R0⟩ ids nid ⟨β', hl', w', R'⟩ R').H = setBs E.H (fz ++ writes ids nid (renOf ids nid) 0 hl') := (setBs_append _ _ _).symm
    refine ⟨(caller ⟨E.β, setBs E.H fz, E.w, R0⟩ ids nid ⟨β', hl', w', R'⟩ R').β, R', ?_, ?_, ?_⟩
    · show RepH _ ⟨_, setBs E.H (fz ++ writes ids nid (renOf ids nid) 0 hl'), _, _⟩
      rw [← hH]; exact e1
    · show Ext _ ⟨_, setBs E.H (fz ++ writes ids nid (renOf ids nid) 0 hl'), _, _⟩
      rw [← hH]; exact e2
    · show RelS ⟨_, setBs E.H (fz ++ writes ids nid (renOf ids nid) 0 hl'), _, _⟩ _ _
      rw [← hH]; exact e3
  · -- nothing of it comes back
    rename_i hro
    obtain rfl := val_ret h
    have hro' : roS r' = false ∧ hl'.any roB = false := by
      simpa [Bool.or_eq_false_iff] using hro
    have hp : PassOk S.gl E look ids hl (fun k => E.R k ∨ ∃ b ∈ shown, E.β b = some k) shown := {
      hE := hE
      hlook := fun b => (hk b).elim .inl (fun q => .inr (.inl q))
      hnd := hnd
      hhl := hhl
      hlids := hlids
      sub := fun _ hk => .inl hk
      hshown := fun b hb k hk => .inr ⟨b, hb, hk⟩
      from_ := fun _ hk => hk
      hout := fun b hb => (hsr b hb).2 }
    have hrep := hp.rep hreal hs2
    have hrel := hp.vs hvs hs1 ha
    refine (hsp f vs hl r' hl' hT _ us rfl hrep hrel).mono (fun u w' hq => ?_)
    obtain ⟨β', R', q1, q2, q3⟩ := hq
    have hb : BackOk S.gl E look ids hl (fun k => E.R k ∨ ∃ b ∈ shown, E.β b = some k) shown nid (S.n f) ⟨β', hl', w', R'⟩ E.R := {
      p := hp
      hE' := q1
      hx := q2
      hfresh := hn
      hlen1 := hc1
      hlen2 := hc2
      r1 := fun k hk => hk
      r2 := fun k hk => q2.ro k (.inl hk)
      r3 := fun k hk => .inl hk }
    exact ⟨(caller E ids nid ⟨β', hl', w', R'⟩ E.R).β, E.R, hb.rep (.inl hro'.2), hb.ext, hb.s (.inl hro'.1) q3⟩
end Go.SX
