/- SX, part 21: one operation. -/
import Derived.Test.YtdblbibjggeikaaGreatDoorB1
set_option linter.unusedSectionVars false
set_option linter.unusedVariables false
set_option linter.unusedSimpArgs false
namespace Go.SX
open Go
variable {P : Program} {G : GlobT} {E : Env} {look : Look} {nid : Nat} [Level]
def StepOk (P : Program) (G : GlobT) (E : Env) (s : Sem Next) (r : Res) : Prop :=
 (∃ v w', s.run P E.w = .ok (.value v) w' /\ ResR G E r v w') \/ (∃ w', s.run P E.w = .ok .skip w' /\ ResR G E r undef w') \/
 (∃ f us, s.run P E.w = .ok (.enter f us) E.w /\ EnterOk P f us E.w fun u w' => ResR G E r u w')
theorem StepOk.v {s : Sem Value} {r : Res} (h : SemOk P G E s r) : StepOk P G E (do pure (.value (<- s))) r := by
 obtain ⟨v, w', h1, h2⟩ := h;exact .inl ⟨v, w', by simp [h1], h2⟩
theorem StepOk.u {s : Sem Unit} {r : Res} (h : UnitOk P G E s r) : StepOk P G E (do s; pure .skip) r := by
 obtain ⟨w', h1, h2⟩ := h;exact .inr (.inl ⟨w', by simp [h1], h2⟩)
theorem StepOk.val {s : Sem Next} {u : Value} {x : SV} (hE : RepH G E) (h : s.run P E.w = .ok (.value u) E.w) (hr : RelS E x u) : StepOk P G E s (x, []) :=
 .inl ⟨u, E.w, h, ResR.pure hE hr⟩
def StepV (P : Program) (G : GlobT) (E : Env) (s : Sem Next) (r : Res) : Prop := ∃ a δ, Level.vol a /\ VolSem P s a δ /\ ∀ n, IntKind.i64.min <= n /\ n <= IntKind.i64.max -> ResR G E r (.int .i64 n) E.w
theorem StepOk.call {s : Sem Next} {f : FuncId} {us : Array Value} {r : Res} (hq : ∀ w es, s.runT P w es = (callFunc f us).runT P w es) (h : CallOk false P G E f us r) : StepOk P G E s r := by
 have hs : s.run P E.w = (callFunc f us).run P E.w := by rw [<- Sem.runT_fst P s E.w #[], hq, Sem.runT_fst]
 rcases h.2 with ⟨h1, h2⟩ | ⟨v, w', h1, h2⟩
 ·exact .inr (.inr ⟨f, us, hs.trans h1, h2⟩)
 ·exact .inl ⟨v, w', hs.trans h1, h2⟩
def volOp (S : Tab) (o : Oper) : Bool :=
 match o.op with
 | .call c => (match c.callee with
  | .value (.func f) => S.vf f
  | _ => false)
 | _ => false
theorem relTs_map {ev : Operand -> SV} {ρ : Operand -> Value} : ∀ {l : List Operand}, (∀ x ∈ l, RelS E (ev x) (ρ x)) -> RelTs E (l.map ev) (l.map ρ)
 | [], _ => rfl
 | x :: l, h => ⟨ρ x, l.map ρ, rfl, h x List.mem_cons_self, relTs_map fun y hy => h y (List.mem_cons_of_mem _ hy)⟩
theorem relPs_map {ev : Operand -> SV} {ρ : Operand -> Value} : ∀ {l : List (Nat × Operand)}, (∀ x ∈ l.map (·.2), RelS E (ev x) (ρ x)) -> RelPs E (l.map fun p => (p.1, ev p.2)) (l.map fun p => (p.1, ρ p.2))
 | [], _ => rfl
 | p :: l, h => by
  have hr := relPs_map (l := l) fun y hy => h y (List.mem_cons_of_mem _ hy)
  have h0 := h p.2 List.mem_cons_self
  exact ⟨ρ p.2, _, rfl, h0, hr⟩
theorem capsOf_rel : ∀ {xs : List SV} {cs : List Cell} {us : List Value}, capsOf xs = some cs -> RelTs E xs us -> RelCaps E cs us
 | [], cs, us, h, hr => by obtain rfl := smI h; exact hr
 | x :: xs, cs, us, h, hr => by
  obtain ⟨u, us', rfl, h1, h2⟩ := hr;simp only [capsOf] at h;split at h
  ·rename_i c;split at h
   ·rename_i y r hy hr';obtain rfl := smI h;refine ⟨u, us', rfl, ?_, capsOf_rel hr' h2⟩
    have h1 : RelC E c u := h1
    cases c <;> first | (cases hy; done) | (obtain rfl := smI hy; exact h1)
   ·cases h
  ·cases h
theorem relTs_caps : ∀ {cs : List Cell} {us : List Value}, RelCaps E cs us -> RelTs E (cs.map one) us
 | [], us, h => h
 | c :: cs, us, h => by
  obtain ⟨u, us', rfl, h1, h2⟩ := h;refine ⟨u, us', rfl, ?_, relTs_caps h2⟩
  show RelC E c u
  cases c <;> first | exact h1.elim | exact h1
theorem relTs_append : ∀ {xs ys : List SV} {us vs : List Value}, RelTs E xs us -> RelTs E ys vs -> RelTs E (xs ++ ys) (us ++ vs)
 | [], _, us, _, h, h' => by
  have h : us = [] := h
  subst h; exact h'
 | x :: xs, ys, _, vs, h, h' => by
  obtain ⟨u, us', rfl, h1, h2⟩ := h;exact ⟨u, us' ++ vs, rfl, h1, relTs_append h2 h'⟩
theorem relO_map {ev : Operand -> SV} {ρ : Operand -> Value} {o : Option Operand} (h : ∀ x, o = some x -> RelS E (ev x) (ρ x)) : RelO E (o.map ev) (o.map ρ) := by
 cases o with
 | none => trivial
 | some x => exact h x rfl
theorem method_run {T : TypeId} {name : String} {f : FuncId} (h : methodF P T name = some f) (v : Value) (w : World) : (method (P.types.size + Made.depth) T v name).run P w = .ok (f, v) w := by
 unfold methodF at h;split at h
 ·rename_i i hi;split at h
  ·rename_i m hm;have hti : ∀ w : World, (typeInfo T).run P w = .ok i w := fun w => by simp [typeInfo, hi]
   have hstep : ∀ (g : FuncId) (b : Bool) (d : TypeDesc), m.path.isEmpty = true -> m.func = some (g, b) -> P.underlying T = some d -> (∀ wr, (receiverAt T (.val v) b wr).run P w = .ok v w) ->
     (method (P.types.size + Made.depth) T v name).run P w = .ok (g, v) w := fun g b d hp hf hd hr => by
    have hp' : m.path.toList = [] := by simpa using hp
    show (method ((P.types.size + 99) + 1) T v name).run P w = _
    generalize P.types.size + 99 = n
    simp only [method, Sem.run_bind, hti, Result.andThen_ok, hm, hp', follow, Sem.run_pure, hf, hr]
   split at h
   ·rename_i q1 q2 q3;obtain rfl := smI h;refine hstep _ true _ q1 q2 q3 (fun wr => ?_)
    simp only [receiverAt, Sem.run_bind, run_underlying q3, Result.andThen_ok, Place.get, Sem.run_pure]
   ·cases h
   ·cases h
   ·rename_i g d hno q1 q2 q3;obtain rfl := smI h;refine hstep _ false _ q1 q2 q3 (fun wr => ?_)
    simp only [receiverAt, Sem.run_bind, run_underlying q3, Result.andThen_ok];cases d <;> first | rfl | exact (hno _ rfl).elim
   ·cases h
  ·cases h
 ·cases h
theorem step_sound {S : Tab} (hsp : SpecOk P S) (hE : RepH S.gl E) (hk : LookOk E look) {o : Oper} (hn : ∀ m, m < slots S o -> fresh1 E (nid + m)) {ev : Operand -> SV} {ρ : Operand -> Value}
  (hf : ∀ f, ρ (.func f) = .func (.func f) #[] #[]) (hev : ∀ x ∈ o.op.operands, RelS E (ev x) (ρ x)) {r' : Res} (h : (stepT S P look nid ev o).val = some r') (hv : volOp S o = false) : StepOk P S.gl E (execOp ρ o) r' := by
 have hn0 : slots S o = 1 -> fresh1 E nid := fun e => hn 0 (by omega)
 unfold slots at hn0;unfold stepT at h;unfold execOp;cases ho : o.op with
 | move x =>
  simp only [ho] at h hev ⊢;obtain rfl := val_ret h;exact StepOk.val hE rfl (hev x (by simp [Op.operands]))
 | assign x =>
  simp only [ho] at h hev ⊢;obtain rfl := val_ret h;exact StepOk.val hE rfl (hev x (by simp [Op.operands]))
 | pick c a b =>
  simp only [ho] at h hev ⊢;unfold litB at h;split at h
  ·rename_i l v hc;have h1 := hev c (by simp [Op.operands])
   rw [hc] at h1;have h1 : ρ c = .bool v := h1
   rw [val_brl] at h;cases v with
   | true =>
    obtain rfl := val_ret h;exact StepOk.val hE (by simp [h1, asBool]) (hev a (by simp [Op.operands]))
   | false =>
    obtain rfl := val_ret h;exact StepOk.val hE (by simp [h1, asBool]) (hev b (by simp [Op.operands]))
  ·cases h
 | alloc T =>
  simp only [ho] at h hev hn0 ⊢;obtain ⟨fs, hf, h⟩ := val_opt h;obtain rfl := val_ret h;obtain ⟨v, h1, h2, _⟩ := zeroF_rel (E := E) hf;obtain ⟨u, w', h3, h4⟩ := newVar_sound hE (hn0 (by first | trivial | rfl)) (T := T) h2
  exact StepOk.v ⟨u, w', by simpa [Instr.alloc, h1] using h3, h4⟩
 | box T x =>
  simp only [ho] at h hev hn0 ⊢;have hx := hev x (by simp [Op.operands])
  split at h
  ·rename_i v hv;obtain rfl := val_ret h;rw [hv] at hx;exact StepOk.v (newVar_sound hE (hn0 (by first | trivial | rfl)) (T := T) (v1_cells hx))
  ·cases h
 | build T parts =>
  simp only [ho] at h hev ⊢;refine StepOk.v (buildT_sound hE ?_ h)
  have := relPs_map (E := E) (ev := ev) (ρ := ρ) (l := parts.toList) fun x hx => hev x (by simpa [Op.operands] using hx)
  simpa [Array.toList_map] using this
 | buildSlice T len parts =>
  simp only [ho] at h hev hn0 ⊢;have hps : RelPs E (parts.toList.map fun p => (p.1, ev p.2)) (parts.map fun (i, x) => (i, ρ x)).toList := by
   have := relPs_map (E := E) (ev := ev) (ρ := ρ) (l := parts.toList) fun x hx => hev x (by simpa [Op.operands] using hx)
   simpa [Array.toList_map] using this
  split at h
  ·exact StepOk.v (buildSliceV_sound hE (hn0 (by first | trivial | rfl)) hps h)
  ·exact StepOk.v (buildSliceT_sound hE hk (hn0 (by first | trivial | rfl)) hps h)
 | load T p =>
  simp only [ho] at h hev ⊢;exact StepOk.v (loadT_sound hE hk (hev p (by simp [Op.operands])) h)
 | store T p v =>
  simp only [ho] at h hev ⊢;exact StepOk.u (storeT_sound hE hk (hev p (by simp [Op.operands])) (hev v (by simp [Op.operands])) h)
 | nilCheck p =>
  simp only [ho] at h hev ⊢;have hp := hev p (by simp [Op.operands])
  split at h
  ·rename_i b i es o k n he;obtain rfl := val_ret h;rw [he] at hp;obtain ⟨a, ha⟩ := ptr_known hp;rw [ha] at hp ⊢;exact StepOk.val hE rfl hp
  ·rename_i t d o k he;obtain rfl := val_ret h;rw [he] at hp;have hp' := hp
   obtain ⟨kb, off, c, e, fz, us, q1, _⟩ := hp';rw [q1] at hp ⊢;exact StepOk.val hE rfl hp
  ·rename_i a he;obtain rfl := val_ret h;rw [he] at hp;have hp : ρ p = .pointer (some a) := hp
   rw [hp];exact StepOk.val hE rfl rfl
  ·cases h
 | binOp op T x y z =>
  simp only [ho] at h hev ⊢;exact StepOk.v (binT_sound hE (hev x (by simp [Op.operands])) (hev y (by simp [Op.operands])) _ _ h)
 | unOp op T x =>
  simp only [ho] at h hev ⊢;exact StepOk.v (unT_sound hE (hev x (by simp [Op.operands])) h)
 | convert s d x =>
  simp only [ho] at h hev hn0 ⊢;exact StepOk.v (convT_sound hE hk (hn0 (by first | trivial | rfl)) (hev x (by simp [Op.operands])) h)
 | sliceToArrayPointer T x =>
  simp only [ho] at h hev ⊢;exact StepOk.v (arrayAtT_sound hE hk (hev x (by simp [Op.operands])) h)
 | makeInterface T x =>
  simp only [ho] at h hev ⊢;have hx := hev x (by simp [Op.operands])
  split at h
  ·rename_i c d hc hd;split at h
   ·cases h
   ·rename_i hni;obtain rfl := val_ret h;rw [hc] at hx;refine StepOk.v ⟨.iface T (ρ x), E.w, ?_, ResR.pure hE ⟨ρ x, rfl, hx⟩⟩
    have : (underlying T).run P E.w = .ok d E.w := by rw [run_underlying hd]
    simp only [Instr.makeInterface, Sem.run_bind, this];cases d <;> first | rfl | exact (hni _ rfl).elim
  ·rename_i fs d hc hd;split at h
   ·cases h
   ·rename_i hni;split at h
    ·rename_i t ht;obtain ⟨dd, h1, h⟩ := val_opt h;obtain rfl := val_ret h;rw [hc] at hx;obtain ⟨cs, hx1, hx2⟩ := hx;refine StepOk.v ⟨.iface T (ρ x), E.w, ?_, ResR.pure hE ⟨cs, by rw [hx1], ofFall_rel h1 hx2⟩⟩
     have : (underlying T).run P E.w = .ok d E.w := by rw [run_underlying hd]
     simp only [Instr.makeInterface, Sem.run_bind, this];cases d <;> first | rfl | exact (hni _ rfl).elim
    ·cases h
  ·cases h
 | makeSlice T l c =>
  simp only [ho] at h hev hn0 ⊢;exact StepOk.v (makeSliceT_sound hE (hn0 (by first | trivial | rfl)) (hev l (by simp [Op.operands])) (hev c (by simp [Op.operands])) h)
 | slice T x lo hi mx =>
  simp only [ho] at h hev ⊢;exact StepOk.v (sliceT_sound hE hk (hev x (by simp [Op.operands])) (relO_map fun y hy => hev y (by simp [Op.operands, hy])) (relO_map fun y hy => hev y (by simp [Op.operands, hy])) (relO_map fun y hy => hev y (by simp [Op.operands, hy])) h)
 | fieldAddr T x f =>
  simp only [ho] at h hev ⊢;exact StepOk.v (fieldAddrT_sound hE (hev x (by simp [Op.operands])) h)
 | field T x f =>
  simp only [ho] at h hev ⊢;exact StepOk.v (fieldT_sound hE (hev x (by simp [Op.operands])) h)
 | indexAddr T x i =>
  simp only [ho] at h hev ⊢;exact StepOk.v (indexAddrT_sound hE (hev x (by simp [Op.operands])) (hev i (by simp [Op.operands])) h)
 | index T x i =>
  simp only [ho] at h hev ⊢;exact StepOk.v (indexT_sound hE (hev x (by simp [Op.operands])) (hev i (by simp [Op.operands])) h)
 | extract x i =>
  simp only [ho] at h hev ⊢;have hx := hev x (by simp [Op.operands])
  split at h
  ·rename_i vs hv;obtain ⟨v, h1, h⟩ := val_opt h;obtain rfl := val_ret h;rw [hv] at hx;exact StepOk.v (extract_sound hE hx h1)
  ·cases h
 | makeFunc fn first captured =>
  simp only [ho] at h hev ⊢;split at h
  ·rename_i f;split at h
   ·rename_i hfi;obtain ⟨cs, h1, h⟩ := val_opt h;obtain rfl := val_ret h;obtain rfl : first = #[] := by cases first; simp at hfi; rw [hfi]
    have hts := relTs_map (E := E) (ev := ev) (ρ := ρ) (l := captured.toList) fun x hx => hev x (by simpa [Op.operands] using hx)
    refine StepOk.v ⟨_, E.w, rfl, ResR.pure hE ⟨captured.map ρ, by simp, ?_⟩⟩
    rw [show (captured.map ρ).toList = captured.toList.map ρ from by simp]
    exact capsOf_rel h1 hts
   ·cases h
  ·cases h
 | call c =>
  simp only [ho] at h hev hn0 ⊢;have hargs : ∀ x ∈ c.args.toList, RelS E (ev x) (ρ x) := fun x hx => hev x (by
   simp only [Op.operands, Call.operands];simp at hx
   cases c.callee <;> simp [hx])
  have hts := relTs_map (E := E) hargs
  have hmap : (c.args.map ρ).toList = c.args.toList.map ρ := by simp
  rw [<- hmap] at hts;cases hc : c.callee with
  | builtin b =>
   simp only [hc] at h hn0;cases b <;> simp only [] at h <;> try (cases h; done)
   case append =>
    have hs := appendT_sound hE hk (hn0 (by first | trivial | rfl)) (ty := o.type) hts h
    have := StepOk.v hs
    simpa [resolve, hc, invoke, builtin] using this
   case min =>
    have hs := minT_sound (P := P) (types := c.argTypes) hE (ty := o.type) hts h
    have := StepOk.v hs
    simpa [resolve, hc, invoke, builtin] using this
   case len =>
    have hs := lenT_sound hE (ty := o.type) hts h
    have := StepOk.v hs
    simpa [resolve, hc, invoke, builtin] using this
  | value x =>
   simp only [hc] at h hn0;cases x with
   | func f =>
    simp only [] at h;have hρ := hf f
    have e : (do let d <- resolve ρ c o.type; invoke d.target d.args) = callFunc f (c.args.map ρ) := by simp [resolve, hc, Deferred.ofValue, hρ, invoke]
    have hvf : S.vf f = false := by simpa [volOp, ho, hc] using hv
    have hcall := callT_sound hsp hE hk (fun m hm => hn m (by unfold slots; simp only [ho, hc]; exact hm)) hts h
    rw [hvf] at hcall;exact StepOk.call (fun w es => by rw [e]) hcall
   | tmp t =>
    simp only [] at h;have hr := hev (.tmp t) (by simp [Op.operands, Call.operands, hc])
    split at h
    ·rename_i f cs hw;rw [hw] at hr;obtain ⟨us, hu, hcs⟩ := hr;split at h
     ·rename_i hle;have hts' : RelTs E (c.args.toList.map ev ++ cs.map one) (c.args.map ρ ++ us).toList := by
       rw [Array.toList_append];exact relTs_append hts (relTs_caps hcs)
      have e : (do let d <- resolve ρ c o.type; invoke d.target d.args) = callFunc f (c.args.map ρ ++ us) := by simp [resolve, hc, Deferred.ofValue, hu, invoke]
      have hcall := callT_sound hsp hE hk (fun k hk' => hn k (by unfold slots; simp only [ho, hc]; have := hle.1; omega)) hts' h
      rw [hle.2] at hcall;exact StepOk.call (fun w es => by rw [e]) hcall
     ·cases h
    ·cases h
   | _ => cases h
  | invoke r m =>
   simp only [hc] at h hn0;have hr := hev r (by simp [Op.operands, Call.operands, hc])
   have fin : ∀ {T : TypeId} {x : SV} {u : Value}, ρ r = .iface T u -> RelS E x u -> (invokeT S P look nid T m x (c.args.toList.map ev)).val = some r' -> StepOk P S.gl E (do let d <- resolve ρ c o.type; invoke d.target d.args) r' := by
    intro T x u hu hx h;unfold invokeT at h;split at h
    ·rename_i f hm;split at h
     ·rename_i hle;have hts' : RelTs E (x :: c.args.toList.map ev) (#[u] ++ c.args.map ρ).toList := by
       rw [show (#[u] ++ c.args.map ρ).toList = u :: (c.args.map ρ).toList from by simp]
       exact ⟨u, _, rfl, hx, hts⟩
      have hx' : (#[Value.iface T u] ++ c.args.map ρ).extract 1 (#[Value.iface T u] ++ c.args.map ρ).size = c.args.map ρ := by
       apply Array.ext'; simp [List.take_of_length_le]
      have h0 : (#[Value.iface T u] ++ c.args.map ρ)[0]? = some (Value.iface T u) := by rw [<- Array.getElem?_toList]; simp
      have e : (do let d <- resolve ρ c o.type; invoke d.target d.args) = callMethod (.iface T u) m (c.args.map ρ) := by
       simp only [resolve, hc, hu, pure_bind, invoke, h0, hx']
      have hcall := callT_sound hsp hE hk (fun k hk' => hn k (by unfold slots; simp only [ho, hc]; have := hle.1; omega)) hts' h
      rw [hle.2] at hcall;refine StepOk.call (f := f) (us := #[u] ++ c.args.map ρ) (fun w es => ?_) hcall
      rw [e];exact runT_callMethod hm w es
     ·cases h
    ·cases h
   split at h
   ·rename_i T t d hw;rw [hw] at hr;obtain ⟨cs, hu, hd⟩ := hr;exact fin (x := .one (.g (toF t d))) (u := .agg cs) hu ⟨cs, rfl, toF_rel t d _ hd⟩ h
   ·rename_i T x hw;rw [hw] at hr;obtain ⟨u, hu, hx⟩ := hr;exact fin (x := one x) hu hx h
   ·cases h
 | _ => simp only [ho] at h; cases h
theorem stepV_sound {S : Tab} (hsp : SpecOk P S) (hE : RepH S.gl E) (hk : LookOk E look) {o : Oper} (hn : ∀ m, m < slots S o -> fresh1 E (nid + m)) {ev : Operand -> SV} {ρ : Operand -> Value}
  (hf : ∀ f, ρ (.func f) = .func (.func f) #[] #[]) (hev : ∀ x ∈ o.op.operands, RelS E (ev x) (ρ x)) {r' : Res} (h : (stepT S P look nid ev o).val = some r') (hv : volOp S o = true) : StepV P S.gl E (execOp ρ o) r' := by
 unfold volOp at hv;split at hv
 ·rename_i c ho;split at hv
  ·rename_i f hc;unfold stepT at h;simp only [ho, hc] at h hev;have hargs : ∀ x ∈ c.args.toList, RelS E (ev x) (ρ x) := fun x hx => hev x (by
    simp only [Op.operands, Call.operands];simp at hx
    simp [hc, hx])
   have hts := relTs_map (E := E) hargs
   have hmap : (c.args.map ρ).toList = c.args.toList.map ρ := by simp
   rw [<- hmap] at hts;have hρ := hf f
   have e : (do let d <- resolve ρ c o.type; invoke d.target d.args) = callFunc f (c.args.map ρ) := by simp [resolve, hc, Deferred.ofValue, hρ, invoke]
   have hcall := callT_sound hsp hE hk (fun m hm => hn m (by unfold slots; simp only [ho, hc]; exact hm)) hts h
   rw [hv] at hcall;obtain ⟨a, δ, h1, h2, h3⟩ := hcall;refine ⟨a, δ, h1, ?_, h3⟩
   unfold execOp;simp only [ho];rw [e];exact h2
  ·cases hv
 ·cases hv
end Go.SX
namespace Go.SX
open Go
variable {P : Program} {G : GlobT} {E : Env} {look : Look} {nid : Nat} {v : World} [Level]
theorem o_len {ts : Array TypeId} {t : TypeId} {args : Array Value} (h : ∀ t, ts[0]? = some t -> ∀ d, P.underlying t = some d -> (match d with | .map _ _ => false | .chan _ _ => false | _ => true) = true) : Obl P v (Builtin.len_ ts t args) := by
 unfold Builtin.len_;cases h1 : ts[0]? with
 | none => exact Blind.obl b_stuck
 | some ty =>
 cases h2 : args[0]? with
 | none => exact Blind.obl b_stuck
 | some x =>
  refine Obl.bind b_underlying.obl fun d v1 hd => ?_
  have hu : P.underlying ty = some d := by
   cases hu : P.underlying ty with
   | none => simp [underlying, hu, stuck, Sem.run, program] at hd
   | some d' => rw [run_underlying hu] at hd; cases hd; rfl
  have := h ty h1 d hu
  split
  all_goals first | exact o_pure _ | exact Blind.obl b_stuck | exact absurd this Bool.false_ne_true | skip
  refine Obl.bind b_underlying.obl fun d' v2 _ => ?_
  split
  ·exact o_pure _
  ·exact Blind.obl b_stuck
theorem eqF_sc : ∀ {fs gs : List FCell} {r : Bool × Bool} {us ws : List Value}, eqF fs gs = some r -> RelFs E fs us -> RelFs E gs ws -> (∀ c ∈ us, sc c = true) /\ ∀ c ∈ ws, sc c = true
 | [], [], r, us, ws, _, hu, hw => by
  have hu : us = [] := hu
  have hw : ws = [] := hw
  subst hu hw;exact ⟨fun c h => absurd h List.not_mem_nil, fun c h => absurd h List.not_mem_nil⟩
 | [], _ :: _, _, _, _, h, _, _ => by simp [eqF] at h
 | f :: fs, [], _, _, _, h, _, _ => by cases f with | c x => cases x <;> simp [eqF] at h | ws k n xs => simp [eqF] at h
 | f :: fs, g :: gs, r, us, ws, h, hu, hw => by
  obtain ⟨l1, b1, l2, b2, h1, h2, _, _⟩ := eqF_cons (l := r.1) (b := r.2) h;obtain ⟨u1, u2, rfl, hu1, hu2⟩ := hu;obtain ⟨w1, w2, rfl, hw1, hw2⟩ := hw;obtain ⟨q1, q2⟩ := eqF_sc h2 hu2 hw2;have key : (∀ c ∈ u1, sc c = true) /\ ∀ c ∈ w1, sc c = true := by
   cases f with
   | c x =>
    cases g with
    | ws k n xs => cases x <;> simp [eqF] at h1
    | c y =>
     obtain ⟨a, rfl, ha⟩ := hu1;obtain ⟨b, rfl, hb⟩ := hw1;cases x <;> cases y <;> simp only [eqF] at h1 <;> try (cases h1; done)
     ·obtain ⟨rfl, _⟩ := ha;obtain ⟨rfl, _⟩ := hb;simp [sc]
     ·obtain rfl : a = _ := ha;obtain rfl : b = _ := hb;simp [sc]
     ·obtain rfl : a = _ := ha;obtain rfl : b = _ := hb;simp [sc]
   | ws k n xs =>
    cases g with
    | c y => cases y <;> simp [eqF] at h1
    | ws k' n' ys =>
     obtain ⟨_, _, rfl⟩ := hu1;obtain ⟨_, _, rfl⟩ := hw1;simp [sc]
  refine ⟨fun c hc => ?_, fun c hc => ?_⟩
  ·rcases List.mem_append.1 hc with hc | hc
   ·exact key.1 c hc
   ·exact q1 c hc
  ·rcases List.mem_append.1 hc with hc | hc
   ·exact key.2 c hc
   ·exact q2 c hc
theorem binT_obl {op : BinOp} {T : TypeId} {a b : SV} {x y : Value} {r : Res} (ha : RelS E a x) (hb : RelS E b y) (xo yo : Operand) (h : (binT P op T a b).val = some r) : Obl P v (do eqGuard op T xo yo x y; binOp op T x y) := by
 unfold binT at h;split at h
 ·obtain ⟨rfl, hx⟩ := ha;obtain ⟨rfl, hy⟩ := hb;exact o_bin (.inl rfl) (.inl rfl) (fun ⟨_, h⟩ => by cases h)
 ·obtain rfl : x = _ := ha;obtain rfl : y = _ := hb;exact o_bin (.inl rfl) (.inl rfl) (fun ⟨_, h⟩ => by cases h)
 ·obtain rfl : x = _ := ha;obtain rfl : y = _ := hb;exact o_bin (.inl rfl) (.inl rfl) (fun ⟨_, h⟩ => by cases h)
 ·rename_i fs gs;obtain ⟨us, rfl, hu⟩ := ha;obtain ⟨ws, rfl, hw⟩ := hb;split at h
  ·rename_i hp;have hg : P.eqGuardType P.depth T = false := by
    unfold plainT at hp;split at hp
    ·split at hp
     ·simp only [Bool.and_eq_true, Bool.not_eq_true'] at hp; exact hp.2
     ·cases hp
    ·simp only [Bool.and_eq_true, Bool.not_eq_true'] at hp; exact hp.2
    ·cases hp
   split at h
   ·rename_i l bb he;obtain ⟨q1, q2⟩ := eqF_sc he hu hw;exact o_bin (.inr ⟨us, rfl, fun c hc => q1 c (by simpa using hc)⟩) (.inr ⟨ws, rfl, fun c hc => q2 c (by simpa using hc)⟩) (fun _ => hg)
   ·rename_i l bb he;obtain ⟨q1, q2⟩ := eqF_sc he hu hw;exact o_bin (.inr ⟨us, rfl, fun c hc => q1 c (by simpa using hc)⟩) (.inr ⟨ws, rfl, fun c hc => q2 c (by simpa using hc)⟩) (fun _ => hg)
   ·cases h
  ·cases h
 ·obtain ⟨ad, rfl⟩ := ptr_known ha;obtain rfl : y = _ := hb;split at h
  ·rename_i e hT; exact o_binP hT (.inl rfl)
  ·rename_i e hT; exact o_binP hT (.inr rfl)
  ·cases h
 ·obtain rfl : x = _ := ha;obtain rfl : y = _ := hb;split at h
  ·rename_i e hT; exact o_binP hT (.inl rfl)
  ·rename_i e hT; exact o_binP hT (.inr rfl)
  ·cases h
 ·cases h
theorem convT_obl {s d : TypeId} {x : SV} {u : Value} {r : Res} (hx : RelS E x u) (h : (convT P look nid s d x).val = some r) : Obl P v (convert s d u) := by
 have run : ∀ {t : TypeId} {de de' : TypeDesc} {w w' : World}, P.underlying t = some de -> (underlying t).run P w = .ok de' w' -> de' = de := fun hu hr => by
  rw [run_underlying hu] at hr; cases hr; rfl
 unfold convT at h;split at h
 ·rename_i k' k l k2 n hs hd;obtain ⟨rfl, _⟩ := hx;refine Obl.bind b_underlying.obl fun a v1 h1 => Obl.bind b_underlying.obl fun b v2 h2 => ?_
  obtain rfl := run hs h1;obtain rfl := run hd h2;exact o_pure _
 ·cases h
theorem v_obl {s : Sem Value} (h : Obl P v s) : Obl P v (do pure (.value (<- s)) : Sem Next) := Obl.bind h fun _ _ _ => o_pure _
theorem u_obl {s : Sem Unit} (h : Obl P v s) : Obl P v (do s; pure .skip : Sem Next) := Obl.bind h fun _ _ _ => o_pure _
theorem obl_sound {S : Tab} (hsp : SpecOk P S) (hE : RepH S.gl E) (hk : LookOk E look) {o : Oper} (hn : ∀ m, m < slots S o -> fresh1 E (nid + m)) {ev : Operand -> SV} {ρ : Operand -> Value}
  (hf : ∀ f, ρ (.func f) = .func (.func f) #[] #[]) (hev : ∀ x ∈ o.op.operands, RelS E (ev x) (ρ x)) {r' : Res} (h : (stepT S P look nid ev o).val = some r') (hv : volOp S o = false) : Obl P E.w (execOp ρ o) := by
 unfold stepT at h;unfold execOp;cases ho : o.op with
 | move x => exact o_pure _
 | assign x => exact o_pure _
 | pick c a b => exact Obl.bind b_asBool.obl fun _ _ _ => o_pure _
 | alloc T => exact v_obl b_alloc.obl
 | box T x => exact v_obl b_box.obl
 | build T parts => exact v_obl b_build.obl
 | buildSlice T len parts => exact v_obl b_buildSlice.obl
 | load T p => exact v_obl b_loadAt.obl
 | store T p x => exact u_obl b_storeAt.obl
 | nilCheck p =>
  simp only [ho] at h hev ⊢;have hp := hev p (by simp [Op.operands])
  split at h
  ·rename_i b i es o k n he;rw [he] at hp;obtain ⟨a, ha⟩ := ptr_known hp;rw [ha];exact o_pure _
  ·rename_i t d o k he;rw [he] at hp;obtain ⟨kb, off, c, e, fz, us, q1, _⟩ := hp;rw [q1];exact o_pure _
  ·rename_i a he;rw [he] at hp;have hp : ρ p = .pointer (some a) := hp
   rw [hp];exact o_pure _
  ·cases h
 | binOp op T x y z =>
  simp only [ho] at h hev ⊢;exact v_obl (binT_obl (hev x (by simp [Op.operands])) (hev y (by simp [Op.operands])) _ _ h)
 | unOp op T x => exact v_obl b_unary.obl
 | convert s d x =>
  simp only [ho] at h hev ⊢;exact v_obl (convT_obl (hev x (by simp [Op.operands])) h)
 | sliceToArrayPointer T x =>
  simp only [ho] at h;unfold arrayAtT at h;cases h
 | makeInterface T x => exact v_obl b_makeInterface.obl
 | makeSlice T l c => exact v_obl b_makeSlice.obl
 | slice T x lo hi mx => exact v_obl b_sliceAt.obl
 | fieldAddr T x f =>
  simp only [ho] at h hev ⊢;have hfo : ∃ off t, fieldOff P T f = some (off, t) := by
   unfold fieldAddrT at h;split at h
   ·rename_i hf; exact ⟨_, _, hf⟩
   ·rename_i hf; exact ⟨_, _, hf⟩
   ·rename_i hf; exact ⟨_, _, hf⟩
   ·cases h
  obtain ⟨off, t, hfo⟩ := hfo;obtain ⟨fields, fd, h1, h2, rfl, rfl, h5⟩ := fieldOff_run hfo;exact v_obl (o_fieldAt h1 h2 (run_sizeOf' h5) h5)
 | field T x f => exact v_obl b_field.obl
 | indexAddr T x i => exact v_obl b_indexAt.obl
 | index T x i => exact v_obl b_index.obl
 | extract x i => exact v_obl b_extract.obl
 | makeFunc fn first captured => exact v_obl (o_pure _)
 | call c =>
  simp only [ho] at h hev hn ⊢;have hargs : ∀ x ∈ c.args.toList, RelS E (ev x) (ρ x) := fun x hx => hev x (by
   simp only [Op.operands, Call.operands];simp at hx
   cases c.callee <;> simp [hx])
  have hts := relTs_map (E := E) hargs
  have hmap : (c.args.map ρ).toList = c.args.toList.map ρ := by simp
  rw [<- hmap] at hts;cases hc : c.callee with
  | builtin b =>
   simp only [hc] at h;cases b <;> simp only [] at h <;> try (cases h; done)
   case append => simp only [resolve, hc]; exact v_obl b_append.obl
   case min =>
    simp only [resolve, hc];obtain ⟨k, x, y, hv, _, _, _⟩ := minT_args hts h;refine v_obl ?_
    rw [hv, min_pure];exact o_pure _
   case len =>
    simp only [resolve, hc];refine v_obl (o_len fun t ht d hd => ?_)
    unfold lenT at h;split at h
    ·rename_i x T _ ha heq;have e : t = T := by
      have h0 : c.argTypes.toList[0]? = some T := by rw [heq]; rfl
      rw [Array.getElem?_toList, ht] at h0
      exact smI h0
     subst e;rw [hd] at h;cases d <;> first | rfl | cases h
    ·cases h
  | value x =>
   simp only [hc] at h;cases x with
   | func f =>
    simp only [] at h;have hρ := hf f
    have hcall := callT_sound hsp hE hk (fun m hm => hn m (by unfold slots; simp only [ho, hc]; exact hm)) hts h
    have e : (do let d <- resolve ρ c o.type; invoke d.target d.args) = callFunc f (c.args.map ρ) := by simp [resolve, hc, Deferred.ofValue, hρ, invoke]
    rw [show S.vf f = false by simpa [volOp, ho, hc] using hv] at hcall
    rw [e];exact hcall.1
   | tmp t =>
    simp only [] at h;have hr := hev (.tmp t) (by simp [Op.operands, Call.operands, hc])
    split at h
    ·rename_i f cs hw;rw [hw] at hr;obtain ⟨us, hu, hcs⟩ := hr;split at h
     ·rename_i hle;have hts' : RelTs E (c.args.toList.map ev ++ cs.map one) (c.args.map ρ ++ us).toList := by
       rw [Array.toList_append];exact relTs_append hts (relTs_caps hcs)
      have e : (do let d <- resolve ρ c o.type; invoke d.target d.args) = callFunc f (c.args.map ρ ++ us) := by simp [resolve, hc, Deferred.ofValue, hu, invoke]
      have hcall := callT_sound hsp hE hk (fun k hk' => hn k (by unfold slots; simp only [ho, hc]; have := hle.1; omega)) hts' h
      rw [hle.2] at hcall;rw [e];exact hcall.1
     ·cases h
    ·cases h
   | _ => cases h
  | invoke r m =>
   simp only [hc] at h;have hr := hev r (by simp [Op.operands, Call.operands, hc])
   have fin : ∀ {T : TypeId} {x : SV} {u : Value}, ρ r = .iface T u -> RelS E x u -> (invokeT S P look nid T m x (c.args.toList.map ev)).val = some r' -> Obl P E.w (do let d <- resolve ρ c o.type; invoke d.target d.args) := by
    intro T x u hu hx h;unfold invokeT at h;split at h
    ·rename_i f hm;split at h
     ·rename_i hle;have hts' : RelTs E (x :: c.args.toList.map ev) (#[u] ++ c.args.map ρ).toList := by
       rw [show (#[u] ++ c.args.map ρ).toList = u :: (c.args.map ρ).toList from by simp]
       exact ⟨u, _, rfl, hx, hts⟩
      have hcall := callT_sound hsp hE hk (fun k hk' => hn k (by unfold slots; simp only [ho, hc]; have := hle.1; omega)) hts' h
      have hx' : (#[Value.iface T u] ++ c.args.map ρ).extract 1 (#[Value.iface T u] ++ c.args.map ρ).size = c.args.map ρ := by
       apply Array.ext'; simp [List.take_of_length_le]
      have h0 : (#[Value.iface T u] ++ c.args.map ρ)[0]? = some (Value.iface T u) := by rw [<- Array.getElem?_toList]; simp
      have e : (do let d <- resolve ρ c o.type; invoke d.target d.args) = callMethod (.iface T u) m (c.args.map ρ) := by
       simp only [resolve, hc, hu, pure_bind, invoke, h0, hx']
      rw [hle.2] at hcall
      replace hcall := hcall.1
      rw [e];refine Obl.bind b_program.obl fun p v1 h1 => ?_
      cases h1
      refine Obl.bind (o_method hm) fun fr v2 h2 => ?_
      rw [method_run hm] at h2;cases h2
      exact hcall
     ·cases h
    ·cases h
   split at h
   ·rename_i T t d hw;rw [hw] at hr;obtain ⟨cs, hu, hd⟩ := hr;exact fin (x := .one (.g (toF t d))) (u := .agg cs) hu ⟨cs, rfl, toF_rel t d _ hd⟩ h
   ·rename_i T x hw;rw [hw] at hr;obtain ⟨u, hu, hx⟩ := hr;exact fin (x := one x) hu hx h
   ·cases h
 | _ => simp only [ho] at h; cases h
def StepB (b : Bool) (P : Program) (G : GlobT) (E : Env) (s : Sem Next) (r : Res) : Prop :=
 match b with
 | true => StepV P G E s r
 | false => Obl P E.w s /\ StepOk P G E s r
end Go.SX
