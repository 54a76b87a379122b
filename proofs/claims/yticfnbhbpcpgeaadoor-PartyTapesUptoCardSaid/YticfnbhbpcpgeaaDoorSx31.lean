/-
  SX, part 31: tables over more listed variables.
-/
import Derived.Test.YticfnbhbpcpgeaaDoorSx30
namespace Go.SX
open Go

section
variable {P : Program} {S : Tab} {G G' : GlobT}
def GSub (G G' : GlobT) : Prop := ∀ g x, G g = some x → G' g = some x
theorem RepH.sub {E : Env} (h : RepH G' E) (hs : GSub G G') : RepH G E where
  ro := h.ro
  inj := h.inj
  blk := h.blk
  glob := fun g t d e => h.glob g t d (hs g _ e)
theorem RepH.more {E E' : Env} (h : RepH G' E) (x : Ext E E') (h' : RepH G E') : RepH G' E' where
  ro := h'.ro
  inj := h'.inj
  blk := h'.blk
  glob := h.globExt x
theorem EntryOk.more {f : FuncId} {T : List V1 → Heap → Tree (SV × Heap)} (h : EntryOk P G f T) (hs : GSub G G') : EntryOk P G' f T := by
  intro vs hl r hl' hr E us hE hrep hv
  refine (h vs hl r hl' hr E us hE (hrep.sub hs) hv).mono fun u w' hx => ?_
  obtain ⟨β', R', h3, h4, h5⟩ := hx
  exact ⟨β', R', hrep.more h4 h3, h4, h5⟩
theorem SpecOk.more (h : SpecOk P S) (hs : GSub S.gl G') : SpecOk P { S with gl := G' } := by
  intro g vs hl r hl' hr E us
  exact EntryOk.more (f := g) (T := S.T g) (fun vs hl r hl' hr E us => h g vs hl r hl' hr E us) hs vs hl r hl' hr E us
/-- the functions that are shown a literal's slices as bytes that are only read -/
def Tab.view (S : Tab) (l : List FuncId) : Tab := { S with vw := fun f => seen f l }
theorem SpecOk.view {l : List FuncId} (h : SpecOk P S) : SpecOk P (S.view l) := fun f vs hl r hl' hr E us => h f vs hl r hl' hr E us
/-- the functions that are handed the slices among their arguments -/
def Tab.hand (S : Tab) (l : List FuncId) : Tab := { S with ow := fun f => seen f l }
theorem SpecOk.hand {l : List FuncId} (h : SpecOk P S) : SpecOk P (S.hand l) := fun f vs hl r hl' hr E us => h f vs hl r hl' hr E us
end
end Go.SX
