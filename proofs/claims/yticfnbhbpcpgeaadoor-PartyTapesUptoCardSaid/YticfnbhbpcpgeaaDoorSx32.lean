/-
  SX, part 32: entries that are handed blocks whose literal marks are struck.
-/
import Derived.Test.YticfnbhbpcpgeaaDoorSx31
namespace Go.SX
open Go

def unlB : Blk → Blk
  | .vals fs => .vals (unlF fs)
  | b => b
theorem getB_unl : ∀ (H : Heap) (b : Nat), getB (H.map unlB) b = unlB (getB H b)
  | [], _ => rfl
  | _ :: _, 0 => rfl
  | _ :: H, n + 1 => getB_unl H n
theorem live_unl (b : Blk) : live (unlB b) = live b := by cases b <;> rfl

section
variable {P : Program} {G : GlobT}
theorem unlH_ext {E : Env} : Ext E ⟨E.β, E.H.map unlB, E.w, E.R⟩ where
  os := rfl
  tape := rfl
  output := rfl
  size := Nat.le_refl _
  ro := fun _ h => h
  rnew := fun _ h => .inl h
  keep := fun _ _ _ => rfl
  cells := fun k c e fz h => ⟨c, fz, h, rfl⟩
  blk := fun b => by
    show BExt _ _ b (getB E.H b) (getB (E.H.map unlB) b)
    rw [getB_unl]
    cases getB E.H b <;> simp [BExt, unlB]
  fresh := fun b k h1 h2 => .inl ⟨b, by
    have h1 : live (getB (E.H.map unlB) b) = true := h1
    rwa [getB_unl, live_unl] at h1, h2⟩
theorem unlH_rep {E : Env} (h : RepH G E) : RepH G ⟨E.β, E.H.map unlB, E.w, E.R⟩ where
  ro := fun k hk => ⟨(h.ro k hk).1, fun b hb => (h.ro k hk).2 b (by
    have hb : live (getB (E.H.map unlB) b) = true := hb
    rwa [getB_unl, live_unl] at hb)⟩
  inj := fun b b' k hb hb' => by
    have hb : live (getB (E.H.map unlB) b) = true := hb
    have hb' : live (getB (E.H.map unlB) b') = true := hb'
    rw [getB_unl, live_unl] at hb hb'
    exact h.inj b b' k hb hb'
  blk := fun b => by
    show RepB _ b (getB (E.H.map unlB) b)
    rw [getB_unl]
    have hb := h.blk b
    have hx : Ext E ⟨E.β, E.H.map unlB, E.w, E.R⟩ := unlH_ext
    cases hg : getB E.H b with
    | vals fs =>
      rw [hg] at hb
      obtain ⟨k, c, e, fz, h1, h2, h3, h4⟩ := hb
      exact ⟨k, c, e, fz, h1, h2, h3, unlF_rel (RelFs.ext h hx fs _ h4)⟩
    | arr t xs lo par =>
      rw [hg] at hb
      obtain ⟨h1, h2, h3⟩ := hb
      refine ⟨h1, h2, h3.imp id fun ⟨k, c, e, fz, h4, h5, h6, h7⟩ => ⟨k, c, e, fz, h4, h5, h6, fun i hi => ?_⟩⟩
      obtain ⟨us, q1, q2⟩ := h7 i hi
      exact ⟨us, RoT.ext h hx t _ _ q1, q2⟩
    | frz t xs =>
      rw [hg] at hb
      obtain ⟨h1, h2⟩ := hb
      refine ⟨h1, h2.imp id fun ⟨k, c, e, fz, h4, h5, h6, h7⟩ => ⟨k, c, e, fz, h4, h5, fun i hi => ?_, fun b' hl hb' => ?_⟩⟩
      · obtain ⟨us, q1, q2⟩ := h6 i hi
        exact ⟨us, RoT.ext h hx t _ _ q1, q2⟩
      · have hl : live (getB (E.H.map unlB) b') = true := hl
        rw [getB_unl, live_unl] at hl
        obtain ⟨xs', lo, par, e1, e2, e3⟩ := h7 b' hl hb'
        refine ⟨xs', lo, par, ?_, e2, e3⟩
        show getB (E.H.map unlB) b' = _
        rw [getB_unl, e1]; rfl
    | gone => trivial
    | dead => trivial
  glob := h.globExt unlH_ext

theorem EntryOk.unlitH {f : FuncId} {T : List V1 → Heap → Tree (SV × Heap)} (h : EntryOk P G f T) : EntryOk P G f (fun vs hl => T (vs.map unlG) (hl.map unlB)) := by
  intro vs hl r hl' hr E us hE hrep hv
  have hx : Ext E ⟨E.β, E.H.map unlB, E.w, E.R⟩ := unlH_ext
  refine (h _ _ r hl' hr ⟨E.β, E.H.map unlB, E.w, E.R⟩ us (by rw [← hE]) (unlH_rep hrep) (unlGs_rel (RelVs.ext hrep hx vs _ hv))).mono fun u w' hq => ?_
  obtain ⟨β', R', h1, h2, h3⟩ := hq
  exact ⟨β', R', h1, hx.trans h2, h3⟩

/-! ### what is known of blocks -/
def okB : Blk → Prop
  | .vals fs => okF fs
  | _ => True
def okH (hl : Heap) : Prop := ∀ b ∈ hl, okB b
theorem getB_mem : ∀ {H : Heap} {x : Blk}, x ∈ H → ∃ b, getB H b = x
  | y :: H, x, h => by
    rcases List.mem_cons.1 h with rfl | h
    · exact ⟨0, rfl⟩
    · obtain ⟨b, hb⟩ := getB_mem h
      exact ⟨b + 1, hb⟩
theorem okH_of {E : Env} (h : RepH G E) : okH E.H := by
  intro x hx
  obtain ⟨b, hb⟩ := getB_mem hx
  have h1 := h.blk b
  rw [hb] at h1
  cases x with
  | vals fs =>
    obtain ⟨_, _, _, _, _, _, _, h4⟩ := h1
    exact okF_of h4
  | _ => trivial
theorem EntryOk.subH {f : FuncId} {T T' : List V1 → Heap → Tree (SV × Heap)} (h : EntryOk P G f T') (hs : ∀ vs hl r, okVs vs → okH hl → (T vs hl).val = some r → (T' (vs.map unlG) (hl.map unlB)).val = some r) : EntryOk P G f T :=
  fun vs hl r hl' hr E us hE hrep hv => h.unlitH vs hl r hl' (hs vs hl (r, hl') (okVs_of hv) (hE ▸ okH_of hrep) hr) E us hE hrep hv
theorem EntryOk.unlitHRuns {S : Tab} {f : FuncId} {fn : Func} {c : Code} {T : List V1 → Heap → Tree (SV × Heap)} (hf : P.funcs[f]? = some fn) (hb : fn.body = some c) (hn : (fn.name == "runtime.NumGoroutine") = false)
    (h : ∀ vs hl r hl', okVs vs → okH hl → (T vs hl).val = some (r, hl') → Runs P S fn (hl.map unlB).length [.code c] ⟨enterT fn (vs.map unlG), hl.map unlB⟩ r hl') : EntryOk P S.gl f T := by
  intro vs hl r hl' hr E us hE hrep hv
  have hx : Ext E ⟨E.β, E.H.map unlB, E.w, E.R⟩ := unlH_ext
  refine (Runs.spec hf hb hn (h vs hl r hl' (okVs_of hv) (hE ▸ okH_of hrep) hr) ⟨E.β, E.H.map unlB, E.w, E.R⟩ us (by rw [← hE]) (unlH_rep hrep) (unlGs_rel (RelVs.ext hrep hx vs _ hv))).mono fun u w' hq => ?_
  obtain ⟨β', R', h1, h2, h3⟩ := hq
  exact ⟨β', R', h1, hx.trans h2, h3⟩
end
end Go.SX
