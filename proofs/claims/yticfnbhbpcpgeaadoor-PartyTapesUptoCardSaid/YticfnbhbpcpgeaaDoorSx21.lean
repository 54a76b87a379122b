/-
  SX, part 21: one operation.
-/
import Derived.Test.YticfnbhbpcpgeaaDoorSx20
namespace Go.SX
open Go
variable {P : Program} {G : GlobT} {E : Env} {look : Look} {nid : Nat}

def StepOk (P : Program) (G : GlobT) (E : Env) (s : Sem Next) (r : Res) : Prop :=
  (∃ v w', s.run P E.w = .ok (.value v) w' ∧ ResR G E r v w') ∨ (∃ w', s.run P E.w = .ok .skip w' ∧ ResR G E r undef w') ∨
  (∃ f us, s.run P E.w = .ok (.enter f us) E.w ∧ EnterOk P f us E.w fun u w' => ResR G E r u w')

theorem StepOk.v {s : Sem Value} {r : Res} (h : SemOk P G E s r) : StepOk P G E (do pure (.value (← s))) r := by
  obtain ⟨v, w', h1, h2⟩ := h
  exact .inl ⟨v, w', by simp [h1], h2⟩

theorem StepOk.u {s : Sem Unit} {r : Res} (h : UnitOk P G E s r) : StepOk P G E (do s; pure .skip) r := by
  obtain ⟨w', h1, h2⟩ := h
  exact .inr (.inl ⟨w', by simp [h1], h2⟩)

theorem StepOk.val {s : Sem Next} {u : Value} {x : SV} (hE : RepH G E) (h : s.run P E.w = .ok (.value u) E.w) (hr : RelS E x u) : StepOk P G E s (x, []) :=
  .inl ⟨u, E.w, h, ResR.pure hE hr⟩

theorem StepOk.call {s : Sem Next} {f : FuncId} {us : Array Value} {r : Res} (hs : s.run P E.w = (callFunc f us).run P E.w) (h : CallOk P G E f us r) : StepOk P G E s r := by
  rcases h with ⟨h1, h2⟩ | ⟨v, w', h1, h2⟩
  · exact .inr (.inr ⟨f, us, hs.trans h1, h2⟩)
  · exact .inl ⟨v, w', hs.trans h1, h2⟩

theorem relTs_map {ev : Operand → SV} {ρ : Operand → Value} : ∀ {l : List Operand}, (∀ x ∈ l, RelS E (ev x) (ρ x)) → RelTs E (l.map ev) (l.map ρ)
  | [], _ => rfl
  | x :: l, h => ⟨ρ x, l.map ρ, rfl, h x List.mem_cons_self, relTs_map fun y hy => h y (List.mem_cons_of_mem _ hy)⟩

theorem relPs_map {ev : Operand → SV} {ρ : Operand → Value} : ∀ {l : List (Nat × Operand)}, (∀ x ∈ l.map (·.2), RelS E (ev x) (ρ x)) → RelPs E (l.map fun p => (p.1, ev p.2)) (l.map fun p => (p.1, ρ p.2))
  | [], _ => rfl
  | p :: l, h => by
    have hr := relPs_map (l := l) fun y hy => h y (List.mem_cons_of_mem _ hy)
    have h0 := h p.2 List.mem_cons_self
    exact ⟨ρ p.2, _, rfl, h0, hr⟩

theorem relO_map {ev : Operand → SV} {ρ : Operand → Value} {o : Option Operand} (h : ∀ x, o = some x → RelS E (ev x) (ρ x)) : RelO E (o.map ev) (o.map ρ) := by
  cases o with
  | none => trivial
  | some x => exact h x rfl

theorem method_run {T : TypeId} {name : String} {f : FuncId} (h : methodF P T name = some f) (v : Value) (w : World) : (method (P.types.size + Made.depth) T v name).run P w = .ok (f, v) w := by
  unfold methodF at h
  split at h
  · rename_i i hi
    split at h
    · rename_i m hm
      have hti : ∀ w : World, (typeInfo T).run P w = .ok i w := fun w => by simp [typeInfo, hi]
      have hstep : ∀ (g : FuncId) (b : Bool) (d : TypeDesc), m.path.isEmpty = true → m.func = some (g, b) → P.underlying T = some d → (∀ wr, (receiverAt T (.val v) b wr).run P w = .ok v w) →
          (method (P.types.size + Made.depth) T v name).run P w = .ok (g, v) w := fun g b d hp hf hd hr => by
        have hp' : m.path.toList = [] := by simpa using hp
        show (method ((P.types.size + 99) + 1) T v name).run P w = _
        generalize P.types.size + 99 = n
        simp only [method, Sem.run_bind, hti, Result.andThen_ok, hm, hp', follow, Sem.run_pure, hf, hr]
      split at h
      · rename_i q1 q2 q3
        obtain rfl := Option.some.inj h
        refine hstep _ true _ q1 q2 q3 (fun wr => ?_)
        simp only [receiverAt, Sem.run_bind, run_underlying q3, Result.andThen_ok, Place.get, Sem.run_pure]
      · cases h
      · cases h
      · rename_i g d hno q1 q2 q3
        obtain rfl := Option.some.inj h
        refine hstep _ false _ q1 q2 q3 (fun wr => ?_)
        simp only [receiverAt, Sem.run_bind, run_underlying q3, Result.andThen_ok]
        cases d <;> first | rfl | exact (hno _ rfl).elim
      · cases h
    · cases h
  · cases h

theorem step_sound {S : Tab} (hsp : SpecOk P S) (hE : RepH S.gl E) (hk : LookOk E look) {o : Oper} (hn : ∀ m, m < slots S o → fresh1 E (nid + m)) {ev : Operand → SV} {ρ : Operand → Value}
    (hf : ∀ f, ρ (.func f) = .func (.func f) #[] #[]) (hev : ∀ x ∈ o.op.operands, RelS E (ev x) (ρ x)) {r' : Res} (h : (stepT S P look nid ev o).val = some r') : StepOk P S.gl E (execOp ρ o) r' := by
  have hn0 : slots S o = 1 → fresh1 E nid := fun e => hn 0 (by omega)
  unfold slots at hn0
  unfold stepT at h
  unfold execOp
  cases ho : o.op with
  | move x =>
    simp only [ho] at h hev ⊢
    obtain rfl := val_ret h
    exact StepOk.val hE rfl (hev x (by simp [Op.operands]))
  | assign x =>
    simp only [ho] at h hev ⊢
    obtain rfl := val_ret h
    exact StepOk.val hE rfl (hev x (by simp [Op.operands]))
  | pick c a b =>
    simp only [ho] at h hev ⊢
    unfold litB at h
    split at h
    · rename_i l v hc
      have h1 := hev c (by simp [Op.operands])
      rw [hc] at h1
      have h1 : ρ c = .bool v := h1
      rw [val_brl] at h
      cases v with
      | true =>
        obtain rfl := val_ret h
        exact StepOk.val hE (by simp [h1, asBool]) (hev a (by simp [Op.operands]))
      | false =>
        obtain rfl := val_ret h
        exact StepOk.val hE (by simp [h1, asBool]) (hev b (by simp [Op.operands]))
    · cases h
  | alloc T =>
    simp only [ho] at h hev hn0 ⊢
    obtain ⟨fs, hf, h⟩ := val_opt h
    obtain rfl := val_ret h
    obtain ⟨v, h1, h2, _⟩ := zeroF_rel (E := E) hf
    obtain ⟨u, w', h3, h4⟩ := newVar_sound hE (hn0 (by first | trivial | rfl)) (T := T) h2
    exact StepOk.v ⟨u, w', by simpa [Instr.alloc, h1] using h3, h4⟩
  | box T x =>
    simp only [ho] at h hev hn0 ⊢
    have hx := hev x (by simp [Op.operands])
    split at h
    · rename_i v hv
      obtain rfl := val_ret h
      rw [hv] at hx
      exact StepOk.v (newVar_sound hE (hn0 (by first | trivial | rfl)) (T := T) (v1_cells hx))
    · cases h
  | build T parts =>
    simp only [ho] at h hev ⊢
    refine StepOk.v (buildT_sound hE ?_ h)
    have := relPs_map (E := E) (ev := ev) (ρ := ρ) (l := parts.toList) fun x hx => hev x (by simpa [Op.operands] using hx)
    simpa [Array.toList_map] using this
  | buildSlice T len parts =>
    simp only [ho] at h hev hn0 ⊢
    have hps : RelPs E (parts.toList.map fun p => (p.1, ev p.2)) (parts.map fun (i, x) => (i, ρ x)).toList := by
      have := relPs_map (E := E) (ev := ev) (ρ := ρ) (l := parts.toList) fun x hx => hev x (by simpa [Op.operands] using hx)
      simpa [Array.toList_map] using this
    split at h
    · exact StepOk.v (buildSliceV_sound hE (hn0 (by first | trivial | rfl)) hps h)
    · exact StepOk.v (buildSliceT_sound hE hk (hn0 (by first | trivial | rfl)) hps h)
  | load T p =>
    simp only [ho] at h hev ⊢
    exact StepOk.v (loadT_sound hE hk (hev p (by simp [Op.operands])) h)
  | store T p v =>
    simp only [ho] at h hev ⊢
    exact StepOk.u (storeT_sound hE hk (hev p (by simp [Op.operands])) (hev v (by simp [Op.operands])) h)
  | nilCheck p =>
    simp only [ho] at h hev ⊢
    have hp := hev p (by simp [Op.operands])
    split at h
    · rename_i b i es o k n he
      obtain rfl := val_ret h
      rw [he] at hp
      obtain ⟨a, ha⟩ := ptr_known hp
      rw [ha] at hp ⊢
      exact StepOk.val hE rfl hp
    · rename_i t d o k he
      obtain rfl := val_ret h
      rw [he] at hp
      have hp' := hp
      obtain ⟨kb, off, c, e, fz, us, q1, _⟩ := hp'
      rw [q1] at hp ⊢
      exact StepOk.val hE rfl hp
    · cases h
  | binOp op T x y z =>
    simp only [ho] at h hev ⊢
    exact StepOk.v (binT_sound hE (hev x (by simp [Op.operands])) (hev y (by simp [Op.operands])) _ _ h)
  | unOp op T x =>
    simp only [ho] at h hev ⊢
    exact StepOk.v (unT_sound hE (hev x (by simp [Op.operands])) h)
  | convert s d x =>
    simp only [ho] at h hev hn0 ⊢
    exact StepOk.v (convT_sound hE hk (hn0 (by first | trivial | rfl)) (hev x (by simp [Op.operands])) h)
  | sliceToArrayPointer T x =>
    simp only [ho] at h hev ⊢
    exact StepOk.v (arrayAtT_sound hE hk (hev x (by simp [Op.operands])) h)
  | makeInterface T x =>
    simp only [ho] at h hev ⊢
    have hx := hev x (by simp [Op.operands])
    split at h
    · rename_i c d hc hd
      split at h
      · cases h
      · rename_i hni
        obtain rfl := val_ret h
        rw [hc] at hx
        refine StepOk.v ⟨.iface T (ρ x), E.w, ?_, ResR.pure hE ⟨ρ x, rfl, hx⟩⟩
        have : (underlying T).run P E.w = .ok d E.w := by rw [run_underlying hd]
        simp only [Instr.makeInterface, Sem.run_bind, this]
        cases d <;> first | rfl | exact (hni _ rfl).elim
    · rename_i fs d hc hd
      split at h
      · cases h
      · rename_i hni
        split at h
        · rename_i t ht
          obtain ⟨dd, h1, h⟩ := val_opt h
          obtain rfl := val_ret h
          rw [hc] at hx
          obtain ⟨cs, hx1, hx2⟩ := hx
          refine StepOk.v ⟨.iface T (ρ x), E.w, ?_, ResR.pure hE ⟨cs, by rw [hx1], ofFall_rel h1 hx2⟩⟩
          have : (underlying T).run P E.w = .ok d E.w := by rw [run_underlying hd]
          simp only [Instr.makeInterface, Sem.run_bind, this]
          cases d <;> first | rfl | exact (hni _ rfl).elim
        · cases h
    · cases h
  | makeSlice T l c =>
    simp only [ho] at h hev hn0 ⊢
    exact StepOk.v (makeSliceT_sound hE (hn0 (by first | trivial | rfl)) (hev l (by simp [Op.operands])) (hev c (by simp [Op.operands])) h)
  | slice T x lo hi mx =>
    simp only [ho] at h hev ⊢
    exact StepOk.v (sliceT_sound hE hk (hev x (by simp [Op.operands])) (relO_map fun y hy => hev y (by simp [Op.operands, hy])) (relO_map fun y hy => hev y (by simp [Op.operands, hy])) (relO_map fun y hy => hev y (by simp [Op.operands, hy])) h)
  | fieldAddr T x f =>
    simp only [ho] at h hev ⊢
    exact StepOk.v (fieldAddrT_sound hE (hev x (by simp [Op.operands])) h)
  | field T x f =>
    simp only [ho] at h hev ⊢
    exact StepOk.v (fieldT_sound hE (hev x (by simp [Op.operands])) h)
  | indexAddr T x i =>
    simp only [ho] at h hev ⊢
    exact StepOk.v (indexAddrT_sound hE (hev x (by simp [Op.operands])) (hev i (by simp [Op.operands])) h)
  | index T x i =>
    simp only [ho] at h hev ⊢
    exact StepOk.v (indexT_sound hE (hev x (by simp [Op.operands])) (hev i (by simp [Op.operands])) h)
  | extract x i =>
    simp only [ho] at h hev ⊢
    have hx := hev x (by simp [Op.operands])
    split at h
    · rename_i vs hv
      obtain ⟨v, h1, h⟩ := val_opt h
      obtain rfl := val_ret h
      rw [hv] at hx
      exact StepOk.v (extract_sound hE hx h1)
    · cases h
  | call c =>
    simp only [ho] at h hev hn0 ⊢
    have hargs : ∀ x ∈ c.args.toList, RelS E (ev x) (ρ x) := fun x hx => hev x (by
      simp only [Op.operands, Call.operands]
      simp at hx
      cases c.callee <;> simp [hx])
    have hts := relTs_map (E := E) hargs
    have hmap : (c.args.map ρ).toList = c.args.toList.map ρ := by simp
    rw [← hmap] at hts
    cases hc : c.callee with
    | builtin b =>
      simp only [hc] at h hn0
      cases b <;> simp only [] at h <;> try (cases h; done)
      case append =>
        have hs := appendT_sound hE hk (hn0 (by first | trivial | rfl)) (ty := o.type) hts h
        have := StepOk.v hs
        simpa [resolve, hc, invoke, builtin] using this
      case cap =>
        have hs := capT_sound hE (ty := o.type) hts h
        have := StepOk.v hs
        simpa [resolve, hc, invoke, builtin] using this
      case copy =>
        have hs := copyT_sound hE hk (ty := o.type) hts h
        have := StepOk.v hs
        simpa [resolve, hc, invoke, builtin] using this
      case clear =>
        have hs := clearT_sound hE hk (ty := o.type) hts h
        have := StepOk.v hs
        simpa [resolve, hc, invoke, builtin] using this
      case len =>
        have hs := lenT_sound hE (ty := o.type) hts h
        have := StepOk.v hs
        simpa [resolve, hc, invoke, builtin] using this
    | value x =>
      simp only [hc] at h hn0
      cases x with
      | func f =>
        simp only [] at h
        have hρ := hf f
        refine StepOk.call ?_ (callT_sound hsp hE hk (fun m hm => hn m (by unfold slots; simp only [ho, hc]; exact hm)) hts h)
        simp [resolve, hc, Deferred.ofValue, hρ, invoke]
      | _ => cases h
    | invoke r m =>
      simp only [hc] at h hn0
      have hr := hev r (by simp [Op.operands, Call.operands, hc])
      have fin : ∀ {T : TypeId} {x : SV} {u : Value}, ρ r = .iface T u → RelS E x u → (invokeT S P look nid T m x (c.args.toList.map ev)).val = some r' → StepOk P S.gl E (do let d ← resolve ρ c o.type; invoke d.target d.args) r' := by
        intro T x u hu hx h
        unfold invokeT at h
        split at h
        · rename_i f hm
          split at h
          · rename_i hle
            have hts' : RelTs E (x :: c.args.toList.map ev) (#[u] ++ c.args.map ρ).toList := by
              rw [show (#[u] ++ c.args.map ρ).toList = u :: (c.args.map ρ).toList from by simp]
              exact ⟨u, _, rfl, hx, hts⟩
            refine StepOk.call ?_ (callT_sound hsp hE hk (fun k hk' => hn k (by unfold slots; simp only [ho, hc]; omega)) hts' h)
            have hx : (#[Value.iface T u] ++ c.args.map ρ).extract 1 (#[Value.iface T u] ++ c.args.map ρ).size = c.args.map ρ := by
              apply Array.ext'; simp [List.take_of_length_le]
            have h0 : (#[Value.iface T u] ++ c.args.map ρ)[0]? = some (Value.iface T u) := by rw [← Array.getElem?_toList]; simp
            simp only [resolve, hc, hu, Sem.run_bind, Sem.run_pure, Result.andThen_ok, invoke, h0, callMethod, run_program, method_run hm, hx]
          · cases h
        · cases h
      split at h
      · rename_i T t d hv
        rw [hv] at hr
        obtain ⟨cs, hu, hd⟩ := hr
        exact fin (x := .one (.g (toF t d))) (u := .agg cs) hu ⟨cs, rfl, toF_rel t d _ hd⟩ h
      · rename_i T x hv
        rw [hv] at hr
        obtain ⟨u, hu, hx⟩ := hr
        exact fin (x := one x) hu hx h
      · cases h
  | _ => simp only [ho] at h; cases h
end Go.SX
