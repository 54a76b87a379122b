/- SX, part 39: goroutine 0 in sync.WaitGroup's Add(1) and Wait, the others doing what they do: where it stops. -/
import Derived.Test.YtdblbibjggeikaaGreatDoorB7
import Derived.Conc.WgGenN3
set_option linter.unusedSectionVars false
set_option linter.unusedVariables false
set_option linter.unusedSimpArgs false
namespace Go.SX
open Go Go.Conc Go.ConcN
open Go.ConcR (KK wgBlock WgAt stA smA rd wr mk DC0)
def RL (ty : TypeId) (Wg : Nat) (w w₁ : World) : Prop := WgLive ty Wg w -> WgLive ty Wg w₁
theorem RL.rely {ty : TypeId} {Wg : Nat} {w w₁ : World} (h : WgLive ty Wg w) (r : RL ty Wg w w₁) : WgLive ty Wg w₁ := r h
theorem RL.tr {ty : TypeId} {Wg : Nat} (a b d : World) (h : RL ty Wg a b) (h' : RL ty Wg b d) : RL ty Wg a d := fun x => h' (h x)
def SaidOn (Wg : Nat) (es : Array Event) : Prop := ∀ e ∈ es, ∃ a, (e.loc = .mark (.read a) \/ e.loc = .mark (.write a)) /\ a.block = Wg
inductive LibW (P : Program) (ty : TypeId) (Wg : Nat) (Stop : Goroutine -> World -> Prop) : Goroutine -> World -> Prop
 | stop {g : Goroutine} {w : World} : (∀ w₁, RL ty Wg w w₁ -> Stop g w₁) -> LibW P ty Wg Stop g w
 | step {g : Goroutine} {w : World} (g' : World -> Goroutine) (es : World -> Array Event) : g.status = .running -> (∀ w₁, RL ty Wg w w₁ -> stepG P true g w₁ = .go (g' w₁) w₁ (es w₁) /\ SaidOn Wg (es w₁)) -> (∀ w₁, RL ty Wg w w₁ -> LibW P ty Wg Stop (g' w₁) w₁) -> LibW P ty Wg Stop g w
section
variable {P : Program} {ty : TypeId} {Wg : Nat} {Stop : Goroutine -> World -> Prop}
theorem LibW.next {g : Goroutine} {w : World} (hs : g.status = .running) (h : ∀ w₁, RL ty Wg w w₁ -> ∃ g' es, stepG P true g w₁ = .go g' w₁ es /\ SaidOn Wg es /\ LibW P ty Wg Stop g' w₁) : LibW P ty Wg Stop g w := by
 classical
 have h' : ∀ w₁, ∃ g' es, RL ty Wg w w₁ -> stepG P true g w₁ = .go g' w₁ es /\ SaidOn Wg es /\ LibW P ty Wg Stop g' w₁ := fun w₁ => by
  by_cases hg : RL ty Wg w w₁
  ·obtain ⟨a, b, q⟩ := h w₁ hg; exact ⟨a, b, fun _ => q⟩
  ·exact ⟨g, #[], fun q => (hg q).elim⟩
 have hh := fun w₁ => Classical.choose_spec (Classical.choose_spec (h' w₁))
 exact .step (fun w₁ => Classical.choose (h' w₁)) (fun w₁ => Classical.choose (Classical.choose_spec (h' w₁))) hs (fun w₁ hg => ⟨(hh w₁ hg).1, (hh w₁ hg).2.1⟩) fun w₁ hg => (hh w₁ hg).2.2
theorem LibW.of_goes : ∀ {m : Nat} {g : Goroutine} {w : World}, Goes P true (RL ty Wg) DC0 (LibW P ty Wg Stop) m g w -> LibW P ty Wg Stop g w
 | 0, _, _, h => h _ fun x => x
 | m + 1, g, w, h => by
  rcases h with h | ⟨hs, h⟩
  ·exact h _ fun x => x
  ·refine .next hs fun w₁ r => ?_
   obtain ⟨g', w', es, h1, ⟨h2, h3⟩, h4⟩ := goes_elim (h w₁ r);subst h2 h3;exact ⟨g', #[], h1, fun e he => by simp at he, .of_goes h4⟩
end
section
variable (P : Program) (ty : TypeId) (Wg : Nat) (Fin : Goroutine -> Prop)
def Was (g : Goroutine) (_ : World) : Prop := Fin g
def SKe (g : Goroutine) (w : World) : Prop := g.status = .running /\ ∃ g', stepG P true g w = .go g' w #[mk .enable] /\ LibW P ty Wg (Was Fin) g' w
def SA1 (g : Goroutine) (w : World) : Prop := g.status = .running /\ ∀ v : Nat, v < 2147483647 -> WgAt ty Wg w (v * KK) 0 ->
 ∃ g', stepG P true g w = .go g' (w.setCell (stA Wg) (.int .u64 ((v + 1) * KK))) #[rd (stA Wg), wr (stA Wg)] /\ LibW P ty Wg (SKe P ty Wg Fin) g' (w.setCell (stA Wg) (.int .u64 ((v + 1) * KK)))
def SKd (g : Goroutine) (w : World) : Prop := g.status = .running /\ ∃ g', stepG P true g w = .go g' w #[mk .disable] /\ LibW P ty Wg (SA1 P ty Wg Fin) g' w
def QAcq (g : Goroutine) (w : World) : Prop := g.status = .running /\ ∃ g', stepG P true g w = .go g' w #[mk (.acquire (stA Wg))] /\ LibW P ty Wg (Was Fin) g' w
def QKe (g : Goroutine) (w : World) : Prop := g.status = .running /\ ∃ g', stepG P true g w = .go g' w #[mk .enable] /\ LibW P ty Wg (QAcq P ty Wg Fin) g' w
def QW4 (g : Goroutine) (w : World) : Prop := g.status = .running /\ (WgAt ty Wg w 0 0 -> ∃ g', stepG P true g w = .go g' w #[rd (stA Wg)] /\ LibW P ty Wg (QKe P ty Wg Fin) g' w)
def QW3 (g : Goroutine) (w : World) : Prop := g.status = .running /\ g.offers = none /\
 ((∃ st, WgAt ty Wg w st 0) -> stepG P true g w = .go { g with status := .blocked } w #[]) /\
 (WgAt ty Wg w 0 1 -> ∃ g', stepG P true g w = .go g' (w.setCell (smA Wg) (.int .u32 0)) (semEvents (smA Wg)) /\ LibW P ty Wg (QW4 P ty Wg Fin) g' (w.setCell (smA Wg) (.int .u32 0)))
variable (Anch : Goroutine -> World -> Prop)
def QW2 (vs : Nat) (g : Goroutine) (w : World) : Prop := g.status = .running /\ ∀ v : Nat, v < 2147483648 -> WgAt ty Wg w (v * KK) 0 ->
 (v = vs -> ∃ g', stepG P true g w = .go g' (w.setCell (stA Wg) (.int .u64 (v * KK + 1))) #[rd (stA Wg), wr (stA Wg)] /\ LibW P ty Wg (QW3 P ty Wg Fin) g' (w.setCell (stA Wg) (.int .u64 (v * KK + 1)))) /\
 (v ≠ vs -> ∃ g', stepG P true g w = .go g' w #[rd (stA Wg)] /\ LibW P ty Wg Anch g' w)
def QW1 (g : Goroutine) (w : World) : Prop := g.status = .running /\ ∀ v : Nat, v < 2147483648 -> WgAt ty Wg w (v * KK) 0 -> ∃ g', stepG P true g w = .go g' w #[rd (stA Wg)] /\
 (v = 0 -> LibW P ty Wg (QKe P ty Wg Fin) g' w) /\ (v ≠ 0 -> LibW P ty Wg (QW2 P ty Wg Fin Anch v) g' w)
def QKd (g : Goroutine) (w : World) : Prop := g.status = .running /\ ∃ g', stepG P true g w = .go g' w #[mk .disable] /\ LibW P ty Wg Anch g' w
end
end Go.SX
namespace Go.SX
open Go Go.Conc Go.ConcN Go.ConcN.Gen Go.RowKit Go.Conc.Lib Go.ConcR.Gen
open Go.ConcR (KK wgBlock WgAt stA smA rd wr mk DC0)
variable {L : WgLink}
section
variable {P : Program} {Wg : Nat} {Fin : Goroutine -> Prop} {b₀ : Frame} {a₀ : Act} {ops₀ : Array Oper} {i₀ : Nat} {rest₀ : List Nat} {k₀ : List Item} {cs : List Frame}
set_option maxRecDepth 100000 in
set_option maxHeartbeats 8000000 in
theorem add_script (H : WgLib P L) (hT : Fin (G (b₀.at (a₀.put ((ops₀[i₀]?).bind (·.dst)) (.tuple #[])) (.inRegion ops₀ rest₀ :: k₀)) cs)) (w : World) (hF : WgLive L.tWg Wg w) :
  LibW P L.tWg Wg (SKd P L.tWg Wg Fin) (G (Frame.enter P L.add #[.pointer (some ⟨Wg, 0, none⟩), .int .i64 1] .normal) (b₀.at a₀ (.inRegion ops₀ (i₀ :: rest₀) :: k₀) :: cs)) w := by
 lib_facts
 refine LibW.of_goes (m := 400) ?_
 rw [enter_at (c := body_add L) _ H.f_add rfl];simp only [body_add, addFn, Option.getD_some]
 walk_nrm
 u_c stepG_seq RL.rely hF
 u_cond true RL.rely hF
 u_c stepG_seq RL.rely hF
 u_c stepG_seq RL.rely hF
 u_reg RL.rely hF
 u_op RL.rely hF
 u_op RL.rely hF
 u_c stepG_region_end RL.rely hF
 u_cond false RL.rely hF
 u_c stepG_skip RL.rely hF
 u_c stepG_seq RL.rely hF
 u_reg RL.rely hF
 refine Goes.stop (fun w₀ h₀ => LibW.stop fun w₁ h₁ => ?_)
 replace hF := RL.rely (RL.rely hF h₀) h₁
 clear h₁ h₀;refine ⟨rfl, _, stepG_mark0 .disable (by simp) rfl rfl (by k_ne) rfl H.f_disable (x_disable_n L) (x_disable_b L) (x_disable_x L) (x_disable_f L), LibW.of_goes (m := 400) ?_⟩
 walk_nrm
 u_c stepG_region_end RL.rely hF
 u_reg RL.rely hF
 u_defer RL.rely hF
 u_c stepG_region_end RL.rely hF
 u_c stepG_seq RL.rely hF
 u_reg RL.rely hF
 u_op RL.rely hF
 u_c stepG_region_end RL.rely hF
 u_c stepG_seq RL.rely hF
 u_c stepG_seq RL.rely hF
 u_reg RL.rely hF
 u_bub RL.rely hF
 u_c stepG_region_end RL.rely hF
 u_cond false RL.rely hF
 u_c stepG_skip RL.rely hF
 u_c stepG_seq RL.rely hF
 u_reg RL.rely hF
 u_op RL.rely hF
 u_op RL.rely hF
 u_op RL.rely hF
 u_op RL.rely hF
 u_op RL.rely hF
 u_op RL.rely hF
 u_call H.f_uAdd (nm_uAdd L) uAddFn RL.rely hF
 u_c stepG_seq RL.rely hF
 u_reg RL.rely hF
 u_op RL.rely hF
 u_c stepG_region_end RL.rely hF
 u_c stepG_seq RL.rely hF
 u_reg RL.rely hF
 u_op RL.rely hF
 u_op RL.rely hF
 u_op RL.rely hF
 u_op RL.rely hF
 refine Goes.stop (fun w₁ h₁ => LibW.stop fun w₂ h₂ => ?_)
 replace hF := RL.rely (RL.rely hF h₁) h₂
 clear h₁ h₂;refine ⟨rfl, fun v hv hw => ?_⟩
 rcases Nat.eq_zero_or_pos v with rfl | hvp
 ·replace hw : WgAt L.tWg Wg w₂ 0 0 := by simpa using hw
  have z : (((0 : Nat) : Int) + 1) * KK = KK := by simp
  rw [z];have e0 : IntKind.u64.wrap (0 + 4294967296) = KK := by decide
  refine ⟨_, (stepG_add_atomic rfl rfl (by k_ne) rfl H.f_addU64 (x_addU64_n L) (x_addU64_b L) (x_addU64_x L) .u64 (x_addU64_f L) rfl rfl hw.cellSt (hw.thaw 0)).trans (by rw [e0]; rfl), LibW.of_goes (m := 400) ?_⟩
  replace hF : WgLive L.tWg Wg (w₂.setCell (stA Wg) (.int .u64 KK)) := ⟨_, _, hw.setSt _⟩
  clear hw;simp only [KK] at hF ⊢
  walk_nrm
  u_op RL.rely hF
  u_c stepG_region_end RL.rely hF
  u_c Go.Conc.stepG_ret' RL.rely hF
  u_leave1 H.f_uAdd RL.rely hF
  u_op RL.rely hF
  u_c stepG_region_end RL.rely hF
  u_c stepG_seq RL.rely hF
  u_c stepG_seq RL.rely hF
  u_reg RL.rely hF
  u_op RL.rely hF
  u_op RL.rely hF
  u_op RL.rely hF
  u_op RL.rely hF
  u_skip RL.rely hF
  u_skip RL.rely hF
  u_op RL.rely hF
  u_c stepG_region_end RL.rely hF
  u_cond false RL.rely hF
  u_c stepG_skip RL.rely hF
  u_c stepG_seq RL.rely hF
  u_reg RL.rely hF
  u_op RL.rely hF
  u_op RL.rely hF
  u_op RL.rely hF
  u_op RL.rely hF
  u_c stepG_region_end RL.rely hF
  u_c stepG_seq RL.rely hF
  u_reg RL.rely hF
  u_op RL.rely hF
  u_op RL.rely hF
  u_op RL.rely hF
  u_op RL.rely hF
  u_c stepG_region_end RL.rely hF
  u_c stepG_seq RL.rely hF
  u_c stepG_seq RL.rely hF
  u_reg RL.rely hF
  u_op RL.rely hF
  u_op RL.rely hF
  u_op RL.rely hF
  u_op RL.rely hF
  u_op RL.rely hF
  u_op RL.rely hF
  u_op RL.rely hF
  u_op RL.rely hF
  u_op RL.rely hF
  u_op RL.rely hF
  u_c stepG_region_end RL.rely hF
  u_cond true RL.rely hF
  u_reg RL.rely hF
  u_op RL.rely hF
  u_op RL.rely hF
  u_op RL.rely hF
  u_conv H.underlying_tPU32 H.room_tU32 (WgLive.cell1 hF).choose_spec RL.rely hF
  refine Goes.stop (fun w₃ h₃ => LibW.next rfl fun w₄ h₄ => ?_)
  replace hF := RL.rely (RL.rely hF h₃) h₄
  clear h₃ h₄;refine ⟨_, _, stepG_markAt .read (by simp) rfl rfl (by k_ne) rfl H.f_raceRead (x_raceRead_n L) (x_raceRead_b L) (x_raceRead_x L) (x_raceRead_f L) (ad := ⟨Wg, 1, none⟩) (by simp [Act.eval]), fun e he => ?_, LibW.of_goes (m := 400) ?_⟩
  ·rw [Array.mem_singleton] at he;subst he;exact ⟨_, .inl rfl, rfl⟩
  walk_nrm
  u_c stepG_region_end RL.rely hF
  u_c stepG_seq RL.rely hF
  u_c stepG_seq RL.rely hF
  u_reg RL.rely hF
  u_op RL.rely hF
  u_op RL.rely hF
  u_c stepG_region_end RL.rely hF
  u_cond false RL.rely hF
  u_c stepG_skip RL.rely hF
  u_c stepG_seq RL.rely hF
  u_c stepG_seq RL.rely hF
  u_reg RL.rely hF
  u_op RL.rely hF
  u_op RL.rely hF
  u_op RL.rely hF
  u_skip RL.rely hF
  u_skip RL.rely hF
  u_op RL.rely hF
  u_op RL.rely hF
  u_skip RL.rely hF
  u_skip RL.rely hF
  u_skip RL.rely hF
  u_skip RL.rely hF
  u_op RL.rely hF
  u_c stepG_region_end RL.rely hF
  u_cond false RL.rely hF
  u_c stepG_skip RL.rely hF
  u_c stepG_seq RL.rely hF
  u_c stepG_seq RL.rely hF
  u_reg RL.rely hF
  u_op RL.rely hF
  u_op RL.rely hF
  u_op RL.rely hF
  u_skip RL.rely hF
  u_skip RL.rely hF
  u_op RL.rely hF
  u_c stepG_region_end RL.rely hF
  u_cond true RL.rely hF
  u_c Go.Conc.stepG_ret' RL.rely hF
  refine Goes.stop (fun w₃ h₃ => LibW.stop fun w₄ h₄ => ?_)
  replace hF := RL.rely (RL.rely hF h₃) h₄
  clear h₃ h₄;refine ⟨rfl, _, stepG_unwind_entry (v := .tuple #[]) (evs := #[mk .enable]) rfl H.f_enable (x_enable_n L) (x_enable_b L) (x_enable_x L) (x_enable_f L) (by simp [Extern.Race.none_]) (by simp [mk]) (by simp [mk]), LibW.of_goes (m := 2) ?_⟩
  u_leave0 H.f_add RL.rely hF
  exact Goes.stop fun _ _ => LibW.stop fun _ _ => hT
 ·obtain ⟨V, hV⟩ : ∃ V : Int, V = (v : Int) + 1 := ⟨_, rfl⟩;obtain ⟨S, hS⟩ : ∃ S : Int, S = V * KK := ⟨_, rfl⟩;have eS : IntKind.u64.wrap ((v : Int) * KK + 4294967296) = S := by rw [IntKind.wrap_u64, hS, hV]; simp only [KK]; omega
  rw [<- hV, <- hS];have a1 : S / 4294967296 = V := by rw [hS]; simp only [KK]; omega
  have b1 : bits .and .u64 S 2147483648 = 0 := by rw [hS, hV]; have := st_flag (v + 1) 0 (by omega) (by omega); simpa [KK] using this
  have b2 : bits .and .u64 S 2147483647 = 0 := by rw [hS, hV]; have := st_waiters (v + 1) 0 (by omega) (by omega); simpa [KK] using this
  have c1 : IntKind.i32.wrap V = V := by rw [IntKind.wrap_i32]; omega
  have hV1 : 1 < V := by omega
  have hV2 : V < 2147483648 := by omega
  have q1 : (V == 1) = false := by simp; omega
  have q2 : decide (V = 1) = false := deF (by omega)
  have q3 : decide (V < 0) = false := deF (by omega)
  have q4 : decide (0 < V) = true := deT (by omega)
  have q5 : (V == 0) = false := by simp; omega
  have q6 : decide (V = 0) = false := deF (by omega)
  refine ⟨_, (stepG_add_atomic rfl rfl (by k_ne) rfl H.f_addU64 (x_addU64_n L) (x_addU64_b L) (x_addU64_x L) .u64 (x_addU64_f L) rfl rfl hw.cellSt (hw.thaw 0)).trans (by rw [eS]; rfl), LibW.of_goes (m := 400) ?_⟩
  replace hF : WgLive L.tWg Wg (w₂.setCell (stA Wg) (.int .u64 S)) := ⟨_, _, hw.setSt _⟩
  clear hw hS hV eS
  walk_nrm
  u_op RL.rely hF
  u_c stepG_region_end RL.rely hF
  u_c Go.Conc.stepG_ret' RL.rely hF
  u_leave1 H.f_uAdd RL.rely hF
  u_op RL.rely hF
  u_c stepG_region_end RL.rely hF
  u_c stepG_seq RL.rely hF
  u_c stepG_seq RL.rely hF
  u_reg RL.rely hF
  u_op RL.rely hF
  u_op RL.rely hF
  u_op RL.rely hF
  u_op RL.rely hF
  u_skip RL.rely hF
  u_skip RL.rely hF
  u_op RL.rely hF
  u_c stepG_region_end RL.rely hF
  u_cond false RL.rely hF
  u_c stepG_skip RL.rely hF
  u_c stepG_seq RL.rely hF
  u_reg RL.rely hF
  u_op RL.rely hF
  u_op RL.rely hF
  u_op RL.rely hF
  u_op RL.rely hF
  u_c stepG_region_end RL.rely hF
  u_c stepG_seq RL.rely hF
  u_reg RL.rely hF
  u_op RL.rely hF
  u_op RL.rely hF
  u_op RL.rely hF
  u_op RL.rely hF
  u_c stepG_region_end RL.rely hF
  u_c stepG_seq RL.rely hF
  u_c stepG_seq RL.rely hF
  u_reg RL.rely hF
  u_op RL.rely hF
  u_op RL.rely hF
  u_op RL.rely hF
  u_op RL.rely hF
  u_op RL.rely hF
  u_op RL.rely hF
  u_op RL.rely hF
  u_op RL.rely hF
  u_op RL.rely hF
  u_op RL.rely hF
  u_c stepG_region_end RL.rely hF
  u_cond false RL.rely hF
  u_c stepG_skip RL.rely hF
  u_c stepG_seq RL.rely hF
  u_c stepG_seq RL.rely hF
  u_reg RL.rely hF
  u_op RL.rely hF
  u_op RL.rely hF
  u_c stepG_region_end RL.rely hF
  u_cond false RL.rely hF
  u_c stepG_skip RL.rely hF
  u_c stepG_seq RL.rely hF
  u_c stepG_seq RL.rely hF
  u_reg RL.rely hF
  u_op RL.rely hF
  u_op RL.rely hF
  u_op RL.rely hF
  u_skip RL.rely hF
  u_skip RL.rely hF
  u_op RL.rely hF
  u_op RL.rely hF
  u_skip RL.rely hF
  u_skip RL.rely hF
  u_skip RL.rely hF
  u_skip RL.rely hF
  u_op RL.rely hF
  u_c stepG_region_end RL.rely hF
  u_cond false RL.rely hF
  u_c stepG_skip RL.rely hF
  u_c stepG_seq RL.rely hF
  u_c stepG_seq RL.rely hF
  u_reg RL.rely hF
  u_op RL.rely hF
  u_op RL.rely hF
  u_op RL.rely hF
  u_skip RL.rely hF
  u_skip RL.rely hF
  u_op RL.rely hF
  u_c stepG_region_end RL.rely hF
  u_cond true RL.rely hF
  u_c Go.Conc.stepG_ret' RL.rely hF
  refine Goes.stop (fun w₃ h₃ => LibW.stop fun w₄ h₄ => ?_)
  replace hF := RL.rely (RL.rely hF h₃) h₄
  clear h₃ h₄;refine ⟨rfl, _, stepG_unwind_entry (v := .tuple #[]) (evs := #[mk .enable]) rfl H.f_enable (x_enable_n L) (x_enable_b L) (x_enable_x L) (x_enable_f L) (by simp [Extern.Race.none_]) (by simp [mk]) (by simp [mk]), LibW.of_goes (m := 2) ?_⟩
  u_leave0 H.f_add RL.rely hF
  exact Goes.stop fun _ _ => LibW.stop fun _ _ => hT
end
def Anch0 (L : WgLink) (Wg : Nat) (c : Frame) (cs : List Frame) (g : Goroutine) (_ : World) : Prop :=
 ∃ T : Array Value, g = G ((base L.wait).at ⟨T, []⟩ [.code (L7 L), .inLoop (L7 L), .inBlock 0]) (c :: cs) /\ T.size = 84 /\ T[0]? = some (.pointer (some ⟨Wg, 0, none⟩))
section
variable {P : Program} {Wg : Nat} {Fin : Goroutine -> Prop} {b₀ : Frame} {a₀ : Act} {ops₀ : Array Oper} {i₀ : Nat} {rest₀ : List Nat} {k₀ : List Item} {cs : List Frame}
set_option maxRecDepth 100000 in
set_option maxHeartbeats 8000000 in
theorem wait_start (H : WgLib P L) (w : World) (hF : WgLive L.tWg Wg w) :
  LibW P L.tWg Wg (QKd P L.tWg Wg (Anch0 L Wg (b₀.at a₀ (.inRegion ops₀ (i₀ :: rest₀) :: k₀)) cs)) (G (Frame.enter P L.wait #[.pointer (some ⟨Wg, 0, none⟩)] .normal) (b₀.at a₀ (.inRegion ops₀ (i₀ :: rest₀) :: k₀) :: cs)) w := by
 lib_facts
 refine LibW.of_goes (m := 40) ?_
 rw [enter_at (c := body_wait L) _ H.f_wait rfl];simp only [body_wait, waitFn, Option.getD_some]
 walk_nrm
 u_c stepG_seq RL.rely hF
 u_cond true RL.rely hF
 u_reg RL.rely hF
 refine Goes.stop (fun w₀ h₀ => LibW.stop fun w₁ h₁ => ?_)
 replace hF := RL.rely (RL.rely hF h₀) h₁
 clear h₁ h₀;refine ⟨rfl, _, stepG_mark0 .disable (by simp) rfl rfl (by k_ne) rfl H.f_disable (x_disable_n L) (x_disable_b L) (x_disable_x L) (x_disable_f L), LibW.of_goes (m := 3) ?_⟩
 walk_nrm
 u_c stepG_region_end RL.rely hF
 u_c stepG_block RL.rely hF
 u_c stepG_loop RL.rely hF
 exact Goes.stop (fun _ _ => LibW.stop fun _ _ => ⟨_, rfl, by simp, by simp⟩)
set_option maxRecDepth 100000 in
set_option maxHeartbeats 8000000 in
theorem wait_round (H : WgLib P L) (hT : Fin (G (b₀.at (a₀.put ((ops₀[i₀]?).bind (·.dst)) (.tuple #[])) (.inRegion ops₀ rest₀ :: k₀)) cs)) (g : Goroutine) (w : World) (h : Anch0 L Wg (b₀.at a₀ (.inRegion ops₀ (i₀ :: rest₀) :: k₀)) cs g w) (hF : WgLive L.tWg Wg w) :
  g.status = .running /\ LibW P L.tWg Wg (QW1 P L.tWg Wg Fin (Anch0 L Wg (b₀.at a₀ (.inRegion ops₀ (i₀ :: rest₀) :: k₀)) cs)) g w := by
 lib_facts
 obtain ⟨T, rfl, hT84, t0⟩ := h;obtain ⟨v0, v1, v2, v3, v4, v5, v6, v7, v8, v9, v10, v11, v12, v13, v14, v15, v16, v17, v18, v19, v20, v21, v22, v23, v24, v25, v26, v27, v28, v29, v30, v31, v32, v33, v34, v35, v36, v37, v38, v39, v40, v41, v42, v43, v44, v45, v46, v47, v48, v49, v50, v51, v52, v53, v54, v55, v56, v57, v58, v59, v60, v61, v62, v63, v64, v65, v66, v67, v68, v69, v70, v71, v72, v73, v74, v75, v76, v77, v78, v79, v80, v81, v82, v83, rfl⟩ := array84 T hT84;simp only [List.getElem?_toArray, List.getElem?_cons_zero, Option.some.injEq] at t0
 subst t0;refine ⟨rfl, LibW.of_goes (m := 400) ?_⟩
 simp only [L7, body_wait, waitFn, Option.getD_some]
 u_c stepG_block RL.rely hF
 u_c stepG_seq RL.rely hF
 u_reg RL.rely hF
 u_op RL.rely hF
 u_op RL.rely hF
 u_op RL.rely hF
 u_call H.f_uLoad (nm_uLoad L) uLoadFn RL.rely hF
 u_c stepG_seq RL.rely hF
 u_reg RL.rely hF
 u_op RL.rely hF
 u_c stepG_region_end RL.rely hF
 u_c stepG_seq RL.rely hF
 u_reg RL.rely hF
 u_op RL.rely hF
 u_op RL.rely hF
 u_op RL.rely hF
 refine Goes.stop (fun w₀ h₀ => LibW.stop fun w₁ h₁ => ?_)
 replace hF := RL.rely (RL.rely hF h₀) h₁
 clear h₁ h₀;refine ⟨rfl, fun v hv hw => ?_⟩
 rcases Nat.eq_zero_or_pos v with rfl | hvp
 ·replace hw : WgAt L.tWg Wg w₁ 0 0 := by simpa using hw
  refine ⟨_, stepG_load_atomic (v := 0) rfl rfl (by k_ne) rfl H.f_loadU64 (x_loadU64_n L) (x_loadU64_b L) (x_loadU64_x L) .u64 (x_loadU64_f L) rfl hw.cellSt, fun _ => LibW.of_goes (m := 400) ?_, fun h => absurd rfl h⟩
  clear hw
  walk_nrm
  u_op RL.rely hF
  u_c stepG_region_end RL.rely hF
  u_c Go.Conc.stepG_ret' RL.rely hF
  u_leave1 H.f_uLoad RL.rely hF
  u_op RL.rely hF
  u_c stepG_region_end RL.rely hF
  u_c stepG_seq RL.rely hF
  u_reg RL.rely hF
  u_op RL.rely hF
  u_op RL.rely hF
  u_op RL.rely hF
  u_op RL.rely hF
  u_c stepG_region_end RL.rely hF
  u_c stepG_seq RL.rely hF
  u_reg RL.rely hF
  u_op RL.rely hF
  u_op RL.rely hF
  u_op RL.rely hF
  u_op RL.rely hF
  u_c stepG_region_end RL.rely hF
  u_c stepG_seq RL.rely hF
  u_c stepG_seq RL.rely hF
  u_reg RL.rely hF
  u_op RL.rely hF
  u_op RL.rely hF
  u_c stepG_region_end RL.rely hF
  u_cond true RL.rely hF
  u_c stepG_seq RL.rely hF
  u_cond true RL.rely hF
  u_c stepG_seq RL.rely hF
  u_reg RL.rely hF
  refine Goes.stop (fun w₀ h₀ => LibW.stop fun w₁ h₁ => ?_)
  replace hF := RL.rely (RL.rely hF h₀) h₁
  clear h₁ h₀;refine ⟨rfl, _, stepG_mark0 .enable (by simp) rfl rfl (by k_ne) rfl H.f_enable (x_enable_n L) (x_enable_b L) (x_enable_x L) (x_enable_f L), LibW.of_goes (m := 400) ?_⟩
  walk_nrm
  u_c stepG_region_end RL.rely hF
  u_reg RL.rely hF
  u_op RL.rely hF
  u_conv H.underlying_tWgP H.room_tWg (WgLive.cell0 hF).choose_spec RL.rely hF
  refine Goes.stop (fun w₀ h₀ => LibW.stop fun w₁ h₁ => ?_)
  replace hF := RL.rely (RL.rely hF h₀) h₁
  clear h₁ h₀;refine ⟨rfl, _, stepG_markAt .acquire (by simp) rfl rfl (by k_ne) rfl H.f_acquire (x_acquire_n L) (x_acquire_b L) (x_acquire_x L) (x_acquire_f L) (by simp [Act.eval, stA]), LibW.of_goes (m := 400) ?_⟩
  walk_nrm
  u_c stepG_region_end RL.rely hF
  u_c stepG_seq RL.rely hF
  u_c stepG_seq RL.rely hF
  u_reg RL.rely hF
  u_op RL.rely hF
  u_op RL.rely hF
  u_op RL.rely hF
  u_op RL.rely hF
  u_op RL.rely hF
  u_op RL.rely hF
  u_op RL.rely hF
  u_op RL.rely hF
  u_skip RL.rely hF
  u_skip RL.rely hF
  u_op RL.rely hF
  u_c stepG_region_end RL.rely hF
  u_cond false RL.rely hF
  u_c stepG_skip RL.rely hF
  u_c Go.Conc.stepG_ret' RL.rely hF
  u_leave0 H.f_wait RL.rely hF
  exact Goes.stop fun _ _ => LibW.stop fun _ _ => hT
 ·obtain ⟨S, hS⟩ : ∃ S : Int, (v : Int) * KK = S := ⟨_, rfl⟩;have a1 : S / 4294967296 = (v : Int) := by rw [<- hS]; simp only [KK]; omega
  have b1 : bits .and .u64 S 2147483648 = 0 := by rw [<- hS]; have := st_flag v 0 (by omega) (by omega); simpa [KK] using this
  have b2 : bits .and .u64 S 2147483647 = 0 := by rw [<- hS]; have := st_waiters v 0 (by omega) (by omega); simpa [KK] using this
  have c1 : IntKind.i32.wrap (v : Int) = (v : Int) := by rw [IntKind.wrap_i32]; omega
  have w1 : IntKind.u64.wrap (S + 1) = S + 1 := by rw [IntKind.wrap_u64, <- hS]; simp only [KK]; omega
  have q3 : decide ((v : Int) < 0) = false := deF (by omega)
  have q4 : decide (0 < (v : Int)) = true := deT (by omega)
  have q5 : ((v : Int) == 0) = false := by simp; omega
  have q6 : decide ((v : Int) = 0) = false := deF (by omega)
  rw [hS] at hw;refine ⟨_, stepG_load_atomic (v := S) rfl rfl (by k_ne) rfl H.f_loadU64 (x_loadU64_n L) (x_loadU64_b L) (x_loadU64_x L) .u64 (x_loadU64_f L) rfl hw.cellSt, fun h0 => absurd h0 (by omega), fun _ => LibW.of_goes (m := 400) ?_⟩
  clear hw
  walk_nrm
  u_op RL.rely hF
  u_c stepG_region_end RL.rely hF
  u_c Go.Conc.stepG_ret' RL.rely hF
  u_leave1 H.f_uLoad RL.rely hF
  u_op RL.rely hF
  u_c stepG_region_end RL.rely hF
  u_c stepG_seq RL.rely hF
  u_reg RL.rely hF
  u_op RL.rely hF
  u_op RL.rely hF
  u_op RL.rely hF
  u_op RL.rely hF
  u_c stepG_region_end RL.rely hF
  u_c stepG_seq RL.rely hF
  u_reg RL.rely hF
  u_op RL.rely hF
  u_op RL.rely hF
  u_op RL.rely hF
  u_op RL.rely hF
  u_c stepG_region_end RL.rely hF
  u_c stepG_seq RL.rely hF
  u_c stepG_seq RL.rely hF
  u_reg RL.rely hF
  u_op RL.rely hF
  u_op RL.rely hF
  u_c stepG_region_end RL.rely hF
  u_cond false RL.rely hF
  u_c stepG_skip RL.rely hF
  u_c stepG_seq RL.rely hF
  u_reg RL.rely hF
  u_op RL.rely hF
  u_op RL.rely hF
  u_op RL.rely hF
  u_op RL.rely hF
  u_op RL.rely hF
  u_op RL.rely hF
  u_call H.f_uCas (nm_uCas L) uCasFn RL.rely hF
  u_c stepG_seq RL.rely hF
  u_reg RL.rely hF
  u_op RL.rely hF
  u_c stepG_region_end RL.rely hF
  u_c stepG_seq RL.rely hF
  u_reg RL.rely hF
  u_op RL.rely hF
  u_op RL.rely hF
  u_op RL.rely hF
  u_op RL.rely hF
  u_op RL.rely hF
  refine Goes.stop (fun w₀ h₀ => LibW.stop fun w₂ h₁ => ?_)
  replace hF := RL.rely (RL.rely hF h₀) h₁
  clear h₁ h₀;refine ⟨rfl, fun v' hv' hw => ⟨fun e => ?_, fun e => ?_⟩⟩
  ·subst e;rw [hS] at hw ⊢;refine ⟨_, (stepG_cas_hit (v := S) (n := S + 1) rfl rfl (by k_ne) rfl H.f_casU64 (x_casU64_n L) (x_casU64_b L) (x_casU64_x L) .u64 (x_casU64_f L) rfl rfl rfl hw.cellSt (hw.thaw 0)).trans (by rfl), LibW.of_goes (m := 400) ?_⟩
   replace hF : WgLive L.tWg Wg (w₂.setCell (stA Wg) (.int .u64 (S + 1))) := ⟨_, _, hw.setSt _⟩
   clear hw
   walk_nrm
   u_op RL.rely hF
   u_c stepG_region_end RL.rely hF
   u_c Go.Conc.stepG_ret' RL.rely hF
   u_leave1 H.f_uCas RL.rely hF
   u_c stepG_region_end RL.rely hF
   u_cond true RL.rely hF
   u_c stepG_seq RL.rely hF
   u_c stepG_seq RL.rely hF
   u_reg RL.rely hF
   u_op RL.rely hF
   u_op RL.rely hF
   u_op RL.rely hF
   u_op RL.rely hF
   u_c stepG_region_end RL.rely hF
   u_cond true RL.rely hF
   u_reg RL.rely hF
   u_op RL.rely hF
   u_op RL.rely hF
   u_op RL.rely hF
   u_conv H.underlying_tPU32 H.room_tU32 (WgLive.cell1 hF).choose_spec RL.rely hF
   refine Goes.stop (fun w₃ h₃ => LibW.next rfl fun w₄ h₄ => ?_)
   replace hF := RL.rely (RL.rely hF h₃) h₄
   clear h₃ h₄;refine ⟨_, _, stepG_markAt .write (by simp) rfl rfl (by k_ne) rfl H.f_raceWrite (x_raceWrite_n L) (x_raceWrite_b L) (x_raceWrite_x L) (x_raceWrite_f L) (ad := ⟨_, 1, none⟩) (by simp [Act.eval] <;> rfl), fun e he => ?_, LibW.of_goes (m := 400) ?_⟩
   ·rw [Array.mem_singleton] at he;subst he;exact ⟨_, .inr rfl, rfl⟩
   walk_nrm
   u_c stepG_region_end RL.rely hF
   u_c stepG_seq RL.rely hF
   u_reg RL.rely hF
   u_op RL.rely hF
   u_c stepG_region_end RL.rely hF
   u_c stepG_seq RL.rely hF
   u_c stepG_seq RL.rely hF
   u_reg RL.rely hF
   u_op RL.rely hF
   u_op RL.rely hF
   u_op RL.rely hF
   u_op RL.rely hF
   u_skip RL.rely hF
   u_op RL.rely hF
   u_c stepG_region_end RL.rely hF
   u_cond false RL.rely hF
   u_c stepG_skip RL.rely hF
   u_c stepG_seq RL.rely hF
   u_reg RL.rely hF
   u_op RL.rely hF
   u_op RL.rely hF
   u_op RL.rely hF
   u_op RL.rely hF
   refine Goes.stop (fun w₀ h₀ => LibW.stop fun w₃ h₁ => ?_)
   replace hF := RL.rely (RL.rely hF h₀) h₁
   clear h₁ h₀;refine ⟨rfl, rfl, fun ⟨st, hw⟩ => stepG_semacquire_wait rfl rfl rfl H.f_semacquire (x_semacquire_n L) (x_semacquire_b L) (x_semacquire_x L) (x_semacquire_f L) (by simp [Act.eval, smA]) hw.cellSm, fun hf => ?_⟩
   refine ⟨_, (stepG_semacquire (n := 1) rfl rfl (by k_ne) rfl H.f_semacquire (x_semacquire_n L) (x_semacquire_b L) (x_semacquire_x L) (x_semacquire_f L) (by simp [Act.eval, smA]) hf.cellSm (by k_ne) (hf.thaw 1)).trans (by rfl), LibW.of_goes (m := 400) ?_⟩
   replace hF : WgLive L.tWg Wg (w₃.setCell (smA Wg) (.int .u32 0)) := ⟨_, _, hf.setSm 0⟩
   clear hf
   walk_nrm
   u_c stepG_region_end RL.rely hF
   u_c stepG_seq RL.rely hF
   u_reg RL.rely hF
   u_op RL.rely hF
   u_op RL.rely hF
   u_op RL.rely hF
   u_call H.f_uLoad (nm_uLoad L) uLoadFn RL.rely hF
   u_c stepG_seq RL.rely hF
   u_reg RL.rely hF
   u_op RL.rely hF
   u_c stepG_region_end RL.rely hF
   u_c stepG_seq RL.rely hF
   u_reg RL.rely hF
   u_op RL.rely hF
   u_op RL.rely hF
   u_op RL.rely hF
   refine Goes.stop (fun w₀ h₀ => LibW.stop fun w₁ h₁ => ?_)
   replace hF := RL.rely (RL.rely hF h₀) h₁
   clear h₁ h₀;refine ⟨rfl, fun hw => ⟨_, stepG_load_atomic (v := 0) rfl rfl (by k_ne) rfl H.f_loadU64 (x_loadU64_n L) (x_loadU64_b L) (x_loadU64_x L) .u64 (x_loadU64_f L) rfl hw.cellSt, LibW.of_goes (m := 400) ?_⟩⟩
   walk_nrm
   u_op RL.rely hF
   u_c stepG_region_end RL.rely hF
   u_c Go.Conc.stepG_ret' RL.rely hF
   u_leave1 H.f_uLoad RL.rely hF
   u_op RL.rely hF
   u_op RL.rely hF
   u_c stepG_region_end RL.rely hF
   u_c stepG_seq RL.rely hF
   u_cond true RL.rely hF
   u_c stepG_seq RL.rely hF
   u_reg RL.rely hF
   refine Goes.stop (fun w₀ h₀ => LibW.stop fun w₁ h₁ => ?_)
   replace hF := RL.rely (RL.rely hF h₀) h₁
   clear h₁ h₀;refine ⟨rfl, _, stepG_mark0 .enable (by simp) rfl rfl (by k_ne) rfl H.f_enable (x_enable_n L) (x_enable_b L) (x_enable_x L) (x_enable_f L), LibW.of_goes (m := 400) ?_⟩
   walk_nrm
   u_c stepG_region_end RL.rely hF
   u_reg RL.rely hF
   u_op RL.rely hF
   u_conv H.underlying_tWgP H.room_tWg (WgLive.cell0 hF).choose_spec RL.rely hF
   refine Goes.stop (fun w₀ h₀ => LibW.stop fun w₁ h₁ => ?_)
   replace hF := RL.rely (RL.rely hF h₀) h₁
   clear h₁ h₀;refine ⟨rfl, _, stepG_markAt .acquire (by simp) rfl rfl (by k_ne) rfl H.f_acquire (x_acquire_n L) (x_acquire_b L) (x_acquire_x L) (x_acquire_f L) (by simp [Act.eval, stA]), LibW.of_goes (m := 400) ?_⟩
   walk_nrm
   u_c stepG_region_end RL.rely hF
   u_c stepG_seq RL.rely hF
   u_c stepG_seq RL.rely hF
   u_reg RL.rely hF
   u_op RL.rely hF
   u_c stepG_region_end RL.rely hF
   u_cond false RL.rely hF
   u_c stepG_skip RL.rely hF
   u_c Go.Conc.stepG_ret' RL.rely hF
   u_leave0 H.f_wait RL.rely hF
   exact Goes.stop fun _ _ => LibW.stop fun _ _ => hT
  ·refine ⟨_, stepG_cas_miss (v := (v' : Int) * KK) (old := S) (n := S + 1) rfl rfl (by k_ne) rfl H.f_casU64 (x_casU64_n L) (x_casU64_b L) (x_casU64_x L) .u64 (x_casU64_f L) rfl rfl rfl hw.cellSt (hw.thaw 0) (by rw [<- hS]; simp only [KK]; omega), LibW.of_goes (m := 400) ?_⟩
   clear hw
   walk_nrm
   u_op RL.rely hF
   u_c stepG_region_end RL.rely hF
   u_c Go.Conc.stepG_ret' RL.rely hF
   u_leave1 H.f_uCas RL.rely hF
   u_c stepG_region_end RL.rely hF
   u_cond false RL.rely hF
   u_c stepG_skip RL.rely hF
   u_c stepG_inBlock RL.rely hF
   u_c stepG_inLoop RL.rely hF
   exact Goes.stop (fun _ _ => LibW.stop fun _ _ => ⟨_, rfl, by simp, by simp⟩)
end
end Go.SX
namespace Go.SX
open Go Go.Conc
open Go.ConcN (ShN WgLive PayAt)
variable {P : Program} {main : Bool} [Level]
inductive Tr where
 | node (f : Int -> World -> Tr)
 | leaf
inductive Tr.Sub : Tr -> Tr -> Prop
 | mk (f : Int -> World -> Tr) (n : Int) (w : World) : Sub (f n w) (.node f)
theorem Tr.wf : WellFounded Tr.Sub := ⟨fun t => by
 induction t with
 | leaf => exact ⟨_, fun y h => by cases h⟩
 | node f ih => exact ⟨_, fun y h => by cases h; exact ih _ _⟩⟩
def Tr.ofNat : Nat -> Tr
 | 0 => .leaf
 | n + 1 => .node fun _ _ => Tr.ofNat n
theorem Tr.ofNat_sub (n : Nat) : Tr.Sub (Tr.ofNat n) (Tr.ofNat (n + 1)) := .mk (fun _ _ => Tr.ofNat n) 0 default
def Tr.ext : Tr -> Tr
 | .leaf => .node fun _ _ => .leaf
 | .node f => .node fun n w => (f n w).ext
theorem Tr.ext_sub (f : Int -> World -> Tr) (n : Int) (w : World) : Tr.Sub (f n w).ext (Tr.ext (.node f)) := .mk (fun n w => (f n w).ext) n w
inductive LR : List Tr -> List Tr -> Prop
 | head {t' t : Tr} {l : List Tr} : Tr.Sub t' t -> LR (t' :: l) (t :: l)
 | tail {t : Tr} {l' l : List Tr} : LR l' l -> LR (t :: l') (t :: l)
theorem LR.acc_cons {t : Tr} (ht : Acc Tr.Sub t) : ∀ {l : List Tr}, Acc LR l -> Acc LR (t :: l) := by
 induction ht with
 | intro t _ iht =>
  intro l hl
  induction hl with
  | intro l hl ihl =>
   constructor
   intro y hy;cases hy with
   | head h => exact iht _ h (Acc.intro l hl)
   | tail h => exact ihl _ h
theorem LR.wf : WellFounded LR := ⟨fun l => by
 induction l with
 | nil => exact ⟨_, fun y h => by cases h⟩
 | cons t l ih => exact LR.acc_cons (Tr.wf.apply t) ih⟩
theorem LR.set {t' t : Tr} : ∀ {l : List Tr} {i : Nat}, l[i]? = some t -> Tr.Sub t' t -> LR (l.set i t') l
 | _ :: _, 0, h, hs => by
  simp only [List.getElem?_cons_zero, Option.some.injEq] at h
  subst h;exact .head hs
 | _ :: l, i + 1, h, hs => .tail (LR.set (by simpa using h) hs)
def WayT (P : Program) (main : Bool) (Stop : Goroutine -> World -> Prop) : Tr -> Goroutine -> World -> Prop
 | .leaf, g, w => ∀ w₁, Grow w w₁ -> Stop g w₁
 | .node f, g, w => g.status = .running /\
  ((∃ (g' : World -> Goroutine) (w' : World -> World) (es : World -> Array Event), (∀ w₁, Grow w w₁ -> Lock P main g w₁) /\ (∀ w₁, Grow w w₁ -> stepG P main g w₁ = .go (g' w₁) (w' w₁) (es w₁)) /\ ∀ w₁, Grow w w₁ -> WayT P main Stop (f 0 w₁) (g' w₁) (w' w₁)) \/
  (∃ (a : Addr) (δ : Int) (g' : Int -> Goroutine), Level.vol a /\ VolStep P main g a δ g' /\ ∀ n, IntKind.i64.min <= n /\ n <= IntKind.i64.max -> ∀ w₁, Grow w w₁ -> WayT P main Stop (f n w₁) (g' n) w₁))
section
variable {Stop : Goroutine -> World -> Prop} {g : Goroutine} {w : World}
theorem Way0.tree (hb : Level.both = true) (h : Way0 P main Stop g w) : ∃ t, WayT P main Stop t g w := by
 classical
 induction h with
 | stop h => exact ⟨.leaf, h⟩
 | step g' w' es hs hl h k ih =>
  rename_i g w;have ih' : ∀ w₁, ∃ t, Grow w w₁ -> WayT P main Stop t (g' w₁) (w' w₁) := fun w₁ => by
   by_cases hg : Grow w w₁
   ·obtain ⟨t, ht⟩ := ih w₁ hg; exact ⟨t, fun _ => ht⟩
   ·exact ⟨.leaf, fun q => (hg q).elim⟩
  exact ⟨.node fun _ w₁ => Classical.choose (ih' w₁), hs, .inl ⟨g', w', es, hl, h, fun w₁ hg => Classical.choose_spec (ih' w₁) hg⟩⟩
 | vol a δ g' hs ha h k ih =>
  rename_i g w;have ih' : ∀ (n : Int) (w₁ : World), ∃ t, (IntKind.i64.min <= n /\ n <= IntKind.i64.max) -> Grow w w₁ -> WayT P main Stop t (g' n) w₁ := fun n w₁ => by
   by_cases hg : (IntKind.i64.min <= n /\ n <= IntKind.i64.max) /\ Grow w w₁
   ·obtain ⟨t, ht⟩ := ih n hg.1 w₁ hg.2; exact ⟨t, fun _ _ => ht⟩
   ·exact ⟨.leaf, fun q1 q2 => (hg ⟨q1, q2⟩).elim⟩
  exact ⟨.node fun n w₁ => Classical.choose (ih' n w₁), hs, .inr ⟨a, δ, g', ha, h, fun n hn w₁ hg => Classical.choose_spec (ih' n w₁) hn hg⟩⟩
 | big K _ hm _ _ _ => rw [hb] at hm; cases hm
theorem WayT.running (hS : ∀ g w, Stop g w -> g.status = .running) {t : Tr} (h : WayT P main Stop t g w) : g.status = .running := by
 cases t with
 | leaf => exact hS _ _ (h w (Grow.refl w))
 | node f => exact h.1
end
def LibT (P : Program) (ty : TypeId) (Wg : Nat) (Stop : Goroutine -> World -> Prop) : Tr -> Goroutine -> World -> Prop
 | .leaf, g, w => ∀ w₁, RL ty Wg w w₁ -> Stop g w₁
 | .node f, g, w => g.status = .running /\ ∃ (g' : World -> Goroutine) (es : World -> Array Event), (∀ w₁, RL ty Wg w w₁ -> stepG P true g w₁ = .go (g' w₁) w₁ (es w₁) /\ SaidOn Wg (es w₁)) /\ ∀ w₁, RL ty Wg w w₁ -> LibT P ty Wg Stop (f 0 w₁) (g' w₁) w₁
section
variable {ty : TypeId} {Wg : Nat} {Stop : Goroutine -> World -> Prop} {g : Goroutine} {w w₁ : World}
theorem LibW.tree (h : LibW P ty Wg Stop g w) : ∃ t, LibT P ty Wg Stop t g w := by
 classical
 induction h with
 | stop h => exact ⟨.leaf, h⟩
 | step g' es hs h k ih =>
  rename_i g w;have ih' : ∀ w₁, ∃ t, RL ty Wg w w₁ -> LibT P ty Wg Stop t (g' w₁) w₁ := fun w₁ => by
   by_cases hg : RL ty Wg w w₁
   ·obtain ⟨t, ht⟩ := ih w₁ hg; exact ⟨t, fun _ => ht⟩
   ·exact ⟨.leaf, fun q => (hg q).elim⟩
  exact ⟨.node fun _ w₁ => Classical.choose (ih' w₁), hs, g', es, h, fun w₁ hg => Classical.choose_spec (ih' w₁) hg⟩
theorem LibT.running (hS : ∀ g w, Stop g w -> g.status = .running) {t : Tr} (h : LibT P ty Wg Stop t g w) : g.status = .running := by
 cases t with
 | leaf => exact hS _ _ (h w fun x => x)
 | node f => exact h.1
theorem LibT.rely {t : Tr} (h : LibT P ty Wg Stop t g w) (r : RL ty Wg w w₁) : LibT P ty Wg Stop t g w₁ := by
 cases t with
 | leaf => exact fun w₂ h₂ => h w₂ (RL.tr _ _ _ r h₂)
 | node f =>
  obtain ⟨h1, g', es, h2, h3⟩ := h;exact ⟨h1, g', es, fun w₂ h₂ => h2 w₂ (RL.tr _ _ _ r h₂), fun w₂ h₂ => h3 w₂ (RL.tr _ _ _ r h₂)⟩
end
inductive Ow where
 | of (k : Nat) | sh | vol | off
def gk (ob : Nat -> Ow) (s k : Nat) : Nat -> Kd := fun b => if s <= b then .own else match ob b with
 | .of k' => if k' = k then .own else .off
 | .sh => .lock
 | .vol => .off
 | .off => .off
def view (ob : Nat -> Ow) (k : Nat) (w : World) : World := ghost (gk ob w.heap.size k) w
def owned (ob : Nat -> Ow) (k s s' : Nat) : Nat -> Ow := fun b => if s <= b /\ b < s' then .of k else ob b
section
variable {ob ob' : Nat -> Ow} {k k' : Nat} {w w' : World}
theorem gk_fit (ob : Nat -> Ow) (k : Nat) (w : World) : Fit (gk ob w.heap.size k) w := fun b hb => by simp [gk, hb]
theorem gk_owned {s s' : Nat} (hs : s <= s') : gk (owned ob k s s') s' k = gk ob s k := by
 funext b
 unfold gk owned;by_cases h1 : s' <= b
 ·have h2 : s <= b := Nat.le_trans hs h1
  simp [h1, h2]
 ·by_cases h2 : s <= b
  ·have h3 : b < s' := by omega
   simp [h1, h2, h3]
  ·simp [h1, h2]
theorem view_self (hs : w.heap.size <= w'.heap.size) : ghost (gk ob w.heap.size k) w' = view (owned ob k w.heap.size w'.heap.size) k w' := by
 unfold view;rw [gk_owned hs]
theorem view_grow (hs : w.heap.size <= w'.heap.size) (ho : w'.os = w.os) (ht : w'.tape = w.tape) (hu : w'.output = w.output)
  (h : ∀ b, b < w.heap.size -> gk ob' w'.heap.size k b = gk ob w.heap.size k b /\ (gk ob w.heap.size k b ≠ .off -> w'.heap[b]? = w.heap[b]?)) : Grow (view ob k w) (view ob' k w') := by
 refine ⟨ho, ht, hu, by simpa [view, ghost_size] using hs, fun b hb => ?_⟩
 have hb : b < w.heap.size := by simpa [view, ghost_size] using hb
 obtain ⟨h1, h2⟩ := h b hb;rw [view, view, ghost_get, ghost_get, h1];cases hk : gk ob w.heap.size k b with
 | off =>
  have hb' : b < w'.heap.size := Nat.lt_of_lt_of_le hb hs
  rw [Array.getElem?_eq_getElem hb, Array.getElem?_eq_getElem hb']
  rfl
 | own => rw [h2 (by rw [hk]; decide)]
 | lock => rw [h2 (by rw [hk]; decide)]
end
structure Cw where
 P : Program
 L : Go.Conc.Lib.WgLink
 Wg : Nat
 C : Nat
 mt : Nat
 tyM : TypeId
 nM : Nat
 n : Nat
 ez : Nat
 sz : Nat
 l0 : Nat
 Shun : Loc -> Prop
 w0 : World
 T0 : Nat
 ob0 : Nat -> Ow
 R : Nat -> List Value -> World -> Prop
 Hd : Nat -> Goroutine -> Prop
 Kg : Goroutine -> Prop
namespace Cw
variable [Go.ConcR.Payload] (c : Cw)
def s0 : Nat := c.w0.heap.size
structure Ok : Prop where
 both : Level.both = true
 l0 : 0 < c.l0
 ez : 0 < c.ez
 sz : c.n * c.ez <= c.sz
 n : c.n < 2147483648
 wg : c.Wg < c.s0
 cc : c.C < c.s0
 mt : c.mt < c.s0
 cw : c.C ≠ c.Wg
 mc : c.mt ≠ c.C
 mw : c.mt ≠ c.Wg
 obw : c.ob0 c.Wg = .vol
 obm : c.ob0 c.mt = .vol
 obc : c.ob0 c.C = .off
 ob : ∀ b k, c.ob0 b ≠ .of k
 shun : ∀ a, c.Shun (.cell a) -> c.ob0 a.block = .off /\ a.block ≠ c.C
 vol : ∀ a, Level.vol a ↔ a.block = c.mt /\ a.spot = none /\ a.off < c.nM
def VolOk (w : World) : Prop := ∃ cs : Array Value, w.heap[c.mt]? = some (.cells cs c.tyM) /\ cs.size = c.nM /\ ∀ o, o < c.nM -> ∃ n : Int, (IntKind.i64.min <= n /\ n <= IntKind.i64.max) /\ cs[o]? = some (.int .i64 n)
def Live (w : World) : Prop := WgLive c.L.tWg c.Wg w
def Pay (w : World) : Prop := PayAt c.C c.sz w
structure Eff (k : Nat) (ob ob' : Nat -> Ow) (w w' : World) : Prop where
 size : w.heap.size <= w'.heap.size
 os : w'.os = w.os
 tape : w'.tape = w.tape
 output : w'.output = w.output
 blk : ∀ b, b < w.heap.size -> b ≠ c.Wg -> b ≠ c.C -> b ≠ c.mt -> ob b ≠ .of k -> w'.heap[b]? = w.heap[b]?
 live : c.Live w -> c.Live w'
 pay : c.Pay w -> c.Pay w'
 cell : ∀ o, (∀ i, k = c.l0 + i -> o < c.ez * i \/ c.ez * i + c.ez <= o) -> w'.cell? ⟨c.C, o, none⟩ = w.cell? ⟨c.C, o, none⟩
 vol : c.VolOk w -> c.VolOk w'
 ob : ∀ b, b < w.heap.size -> ob' b = ob b
 obn : ∀ b, w.heap.size <= b -> b < w'.heap.size -> ob' b = .of k
structure Base (ob : Nat -> Ow) (w : World) : Prop where
 s0 : c.s0 <= w.heap.size
 os : w.os = c.w0.os
 tape : w.tape = c.w0.tape
 output : w.output = c.w0.output
 ob0 : ∀ b, b < c.s0 -> ob b = c.ob0 b
 new : ∀ b, c.s0 <= b -> b < w.heap.size -> ∃ k, ob b = .of k
 base : ∀ b, b < c.s0 -> b ≠ c.Wg -> b ≠ c.C -> b ≠ c.mt -> w.heap[b]? = c.w0.heap[b]?
variable {c : Cw} {ob ob' : Nat -> Ow} {k k' : Nat} {w w' : World}
theorem Eff.at (ob : Nat -> Ow) (k : Nat) (w : World) (d : Nat) : c.Eff k ob ob w (w.at d) :=
 ⟨Nat.le_refl _, rfl, rfl, rfl, fun _ _ _ _ _ _ => rfl, id, id, fun _ _ => rfl, id, fun _ _ => rfl, fun b h1 h2 => by simp [World.at] at h2; omega⟩
theorem Base.eff (h : c.Base ob w) (hO : c.Ok) (he : c.Eff k ob ob' w w') : c.Base ob' w' := by
 refine ⟨Nat.le_trans h.s0 he.size, he.os.trans h.os, he.tape.trans h.tape, he.output.trans h.output, fun b hb => (he.ob b (Nat.lt_of_lt_of_le hb h.s0)).trans (h.ob0 b hb), fun b hb hb' => ?_, fun b hb h1 h2 h3 => ?_⟩
 ·rcases Nat.lt_or_ge b w.heap.size with hlt | hge
  ·obtain ⟨k, hk⟩ := h.new b hb hlt;exact ⟨k, (he.ob b hlt).trans hk⟩
  ·exact ⟨k, he.obn b hge hb'⟩
 ·have hlt := Nat.lt_of_lt_of_le hb h.s0
  exact (he.blk b hlt h1 h2 h3 (by rw [h.ob0 b hb]; exact hO.ob b k)).trans (h.base b hb h1 h2 h3)
theorem Eff.grow (hO : c.Ok) (hB : c.Base ob w) (he : c.Eff k ob ob' w w') (hne : k' ≠ k) : Grow (view ob k' w) (view ob' k' w') := by
 refine view_grow he.size he.os he.tape he.output fun b hb => ⟨?_, fun hk => ?_⟩
 ·unfold gk;have h1 : ¬ w.heap.size <= b := by omega
  have h2 : ¬ w'.heap.size <= b := by have := he.size; omega
  simp only [h1, h2, if_false, he.ob b hb]
 ·have h1 : ¬ w.heap.size <= b := by omega
  unfold gk at hk;simp only [h1, if_false] at hk;have off : ∀ x, x < c.s0 -> (c.ob0 x = .vol \/ c.ob0 x = .off) -> b ≠ x := fun x hx ho e => by
   subst e;rw [hB.ob0 b hx] at hk;rcases ho with ho | ho <;> rw [ho] at hk <;> exact hk rfl
  refine he.blk b hb (off _ hO.wg (.inl hO.obw)) (off _ hO.cc (.inr hO.obc)) (off _ hO.mt (.inl hO.obm)) (fun e => ?_)
  rw [e] at hk;simp [Ne.symm hne] at hk
end Cw
end Go.SX
