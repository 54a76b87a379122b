/- SX, part 18: calls: what the callee sees. -/
import Derived.Test.YtdblbibjggeikaaGreatDoorA9
set_option linter.unusedSectionVars false
set_option linter.unusedVariables false
set_option linter.unusedSimpArgs false
namespace Go.SX
open Go
variable {P : Program} {G : GlobT} {E : Env} {look : Look} {ids : List Nat} {hl : Heap} {Rl : Nat -> Prop} {shown : List Nat} [Level]
def real : Blk -> Prop
 | .vals _ => True
 | .arr .. => True
 | .frz .. => True
 | _ => False
section
variable (h : PassOk G E look ids hl Rl shown)
include h
theorem PassOk.fs : ∀ {fs gs : List FCell} {vs : List Value}, passF look ids fs = some gs -> (∀ b ∈ shownF look ids fs, b ∈ shown) -> RelFs E fs vs -> RelFs (callee E ids hl Rl) gs vs
 | [], gs, vs, hp, _, hr => by obtain rfl := smI hp; exact hr
 | .c x :: fs, gs, vs, hp, hs, hr => by
  simp only [passF] at hp;split at hp
  ·rename_i y r h1 h2;obtain rfl := smI hp;obtain ⟨v1, v2, rfl, ⟨v, rfl, q1⟩, q2⟩ := hr;exact ⟨[v], v2, rfl, ⟨v, rfl, h.cell h1 (fun b hb => hs b (List.mem_append_left _ hb)) q1⟩, PassOk.fs h2 (fun b hb => hs b (List.mem_append_right _ hb)) q2⟩
  ·cases hp
 | .ws k n xs :: fs, gs, vs, hp, hs, hr => by
  simp only [passF] at hp;split at hp
  ·rename_i r h2;obtain rfl := smI hp;obtain ⟨v1, v2, rfl, q1, q2⟩ := hr;exact ⟨v1, v2, rfl, q1, PassOk.fs h2 hs q2⟩
  ·cases hp
theorem PassOk.v : ∀ {x : SV} {y : V1} {u : Value}, passV look ids x = some y -> (∀ b ∈ shownS look ids x, b ∈ shown) -> RelS E x u -> RelV (callee E ids hl Rl) y u
 | .any, _, _, hp, _, _ => by cases hp
 | .tup _, _, _, hp, _, _ => by cases hp
 | .one (.c x), y, u, hp, hs, hr => by
  simp only [passV] at hp;split at hp
  ·rename_i z h1;obtain rfl := smI hp;exact h.cell h1 (fun b hb => hs b (by show b ∈ shownF look ids [.c x]; exact List.mem_append_left _ hb)) hr
  ·cases hp
 | .one (.g fs), y, u, hp, hs, hr => by
  simp only [passV] at hp;split at hp
  ·rename_i z h1;obtain rfl := smI hp;obtain ⟨cs, rfl, q⟩ := hr;exact ⟨cs, rfl, h.fs h1 hs q⟩
  ·cases hp
theorem PassOk.vs : ∀ {xs : List SV} {ys : List V1} {us : List Value}, mapO (passV look ids) xs = some ys -> (∀ b ∈ xs.flatMap (shownS look ids), b ∈ shown) -> RelTs E xs us -> RelVs (callee E ids hl Rl) ys us
 | [], ys, us, hp, _, hr => by obtain rfl := smI hp; exact hr
 | x :: xs, ys, us, hp, hs, hr => by
  simp only [mapO] at hp;split at hp
  ·rename_i y r h1 h2;obtain rfl := smI hp;obtain ⟨u, us', rfl, q1, q2⟩ := hr;exact ⟨u, us', rfl, h.v h1 (fun b hb => hs b (by rw [List.flatMap_cons]; exact List.mem_append_left _ hb)) q1, PassOk.vs h2 (fun b hb => hs b (by rw [List.flatMap_cons]; exact List.mem_append_right _ hb)) q2⟩
  ·cases hp
theorem PassOk.there {j : Nat} (hj : getB hl j ≠ .dead) : ∃ b, ids[j]? = some b /\ passB look ids (look b) = some (getB hl j) /\ look b = getB E.H b := by
 have hlen : j < hl.length := getB_len hj
 have := (mapO_get h.hhl).1
 have hj' : j < ids.length := by omega
 obtain ⟨blk, g1, g2, g3⟩ := h.get (List.getElem?_eq_getElem hj')
 exact ⟨ids[j], List.getElem?_eq_getElem hj', by rw [g2]; exact g1, g3⟩
theorem PassOk.live {j : Nat} (hj : live (getB hl j) = true) : ∃ b, ids[j]? = some b /\ SX.live (getB E.H b) = true /\ (∀ t xs lo par, getB E.H b = .arr t xs lo par -> par = []) := by
 obtain ⟨b, g1, g2, g3⟩ := h.there (live_ne_dead hj);refine ⟨b, g1, ?_, fun t xs lo par hb => ?_⟩
 ·rw [<- g3];cases hb : look b <;> rw [hb] at g2 <;> simp [passB] at g2 <;> rfl
 ·rw [g3, hb] at g2;cases par with
  | nil => rfl
  | cons _ _ => cases g2
theorem PassOk.repB (hreal : ∀ b ∈ shown, real (getB E.H b)) (hsh : ∀ b ∈ ids.flatMap (fun b => shownB look ids (look b)), b ∈ shown) (j : Nat) : RepB (callee E ids hl Rl) j (getB hl j) := by
 by_cases hd : getB hl j = .dead
 ·rw [hd]; trivial
 obtain ⟨b, g1, g2, g3⟩ := h.there hd;have hβ := PassOk.beta (E := E) (hl := hl) (Rl := Rl) g1
 have hb := h.hE.blk b
 rw [<- g3] at hb;have hm : b ∈ ids := List.mem_of_getElem? g1
 cases hk : look b with
 | vals fs =>
  rw [hk] at g2 hb;simp only [passB] at g2;split at g2
  ·rename_i r hr;rw [<- smI g2];obtain ⟨k, c, e, fz, h1, h2, h3, h4⟩ := hb;exact ⟨k, c, e, fz, hβ.trans h1, h2, h3, h.fs hr (fun q hq => hsh q (List.mem_flatMap.2 ⟨b, hm, by rw [hk]; exact hq⟩)) h4⟩
  ·cases g2
 | arr t xs lo par =>
  rw [hk] at g2 hb;cases par with
  | nil =>
   obtain ⟨hf, g2⟩ := passB_arr g2;rw [g2];obtain ⟨h1, h2, h3⟩ := hb;refine ⟨Nat.zero_le _, h2, ?_⟩
   rcases h3 with ⟨h3, h4⟩ | ⟨k, c, e, fz, h3, h4, h5, h6⟩
   ·exact .inl ⟨hβ.trans h3, h4⟩
   ·exact .inr ⟨k, c, e, fz, hβ.trans h3, h4, h5, h6.mono fun a us hq => h.rot hf hq⟩
  | cons _ _ => cases g2
 | frz t xs => rw [hk] at g2; cases g2
 | gone => rw [hk] at g2; cases g2
 | dead => rw [hk] at g2; cases g2
theorem PassOk.apartShown (hreal : ∀ b ∈ shown, real (getB E.H b)) {b k : Nat} (hb : b ∈ shown) (hk : E.β b = some k) : k < E.w.heap.size /\ ∀ j, SX.live (getB hl j) = true -> (callee E ids hl Rl).β j ≠ some k := by
 have hr := hreal b hb
 constructor
 ·cases hg : getB E.H b with
  | vals fs => exact h.hE.lt (by rw [hg]; rfl) hk
  | arr t xs lo par => exact h.hE.lt (by rw [hg]; rfl) hk
  | frz t xs =>
   have hbb := h.hE.blk b
   rw [hg] at hbb;rcases hbb.2 with ⟨h1, _⟩ | ⟨k', c, e, fz, h1, h2, _⟩
   ·rw [h1] at hk; cases hk
   ·rw [h1] at hk; obtain rfl := smI hk; exact (Array.getElem?_eq_some_iff.1 h2).1
  | gone => rw [hg] at hr; exact hr.elim
  | dead => rw [hg] at hr; exact hr.elim
 ·intro j hj hjk;obtain ⟨c, g1, g2, g3⟩ := h.live hj;rw [PassOk.beta g1] at hjk;have hne : c ≠ b := fun e => h.hout b hb (e ▸ List.mem_of_getElem? g1)
  cases hg : getB E.H b with
  | vals fs => exact hne (h.hE.inj c b k g2 (by rw [hg]; rfl) hjk hk)
  | arr t xs lo par => exact hne (h.hE.inj c b k g2 (by rw [hg]; rfl) hjk hk)
  | frz t xs =>
   obtain ⟨xs', lo, par, q1, q2, _⟩ := h.hE.shares hg hk g2 hjk;rw [g3 _ _ _ _ q1] at q2; cases q2
  | gone => rw [hg] at hr; exact hr.elim
  | dead => rw [hg] at hr; exact hr.elim
theorem PassOk.rep (hreal : ∀ b ∈ shown, real (getB E.H b)) (hsh : ∀ b ∈ ids.flatMap (fun b => shownB look ids (look b)), b ∈ shown) : RepH G (callee E ids hl Rl) where
 ro := fun k hk => by
  rcases h.from_ k hk with h1 | ⟨b, hb, h1⟩
  ·refine ⟨(h.hE.ro k h1).1, fun j hj hjk => ?_⟩
   obtain ⟨c, g1, g2, _⟩ := h.live hj;rw [PassOk.beta g1] at hjk;exact (h.hE.ro k h1).2 c g2 hjk
  ·exact h.apartShown hreal hb h1
 inj := fun j j' k hj hj' hk hk' => by
  obtain ⟨b, g1, g2, _⟩ := h.live hj;obtain ⟨b', g1', g2', _⟩ := h.live hj';rw [PassOk.beta g1] at hk;rw [PassOk.beta g1'] at hk';have := h.hE.inj b b' k g2 g2' hk hk'
  subst this;have hlt : j < ids.length := (List.getElem?_eq_some_iff.1 g1).1
  exact (List.getElem?_inj hlt h.hnd).1 (g1.trans g1'.symm)
 blk := fun j => h.repB hreal hsh j
 glob := fun g t d hg => by
  obtain ⟨⟨kb, off, c, e, fz, us, q1, q2, q3, q4, q5, q6⟩, hf⟩ := h.hE.glob g t d hg;exact ⟨⟨kb, off, c, e, fz, us, q1, h.sub kb q2, q3, h.rot hf q4, q5, q6⟩, hf⟩
end
theorem shownC0_none {ids : List Nat} : ∀ {x : Cell}, cellRefs x = [] -> shownC0 ids x = []
 | .sl .., h => by cases h
 | .sla .., h => by cases h
 | .ifc t x, h => shownC0_none (x := x) h
 | .any, _ => rfl
 | .int .., _ => rfl
 | .bool .., _ => rfl
 | .str _, _ => rfl
 | .nilp, _ => rfl
 | .nils, _ => rfl
 | .nilif, _ => rfl
 | .nilfn, _ => rfl
 | .rptr .., _ => rfl
 | .ro .., _ => rfl
 | .ref _, _ => rfl
 | .fn .., _ => rfl
 | .vptr _, _ => rfl
 | .ifd .., _ => rfl
 | .ptr .., _ => rfl
theorem shownC0_real {look : Look} {ids : List Nat} : ∀ {x y : Cell}, passC0 look ids x = some y -> ∀ b ∈ shownC0 ids x, real (look b) /\ b ∉ ids
 | .any, _, _, b, hb => by cases hb
 | .int .., _, _, b, hb => by cases hb
 | .bool .., _, _, b, hb => by cases hb
 | .str _, _, _, b, hb => by cases hb
 | .nilp, _, _, b, hb => by cases hb
 | .nils, _, _, b, hb => by cases hb
 | .nilif, _, _, b, hb => by cases hb
 | .nilfn, _, _, b, hb => by cases hb
 | .ifd .., _, _, b, hb => by cases hb
 | .rptr .., _, _, b, hb => by cases hb
 | .ro .., _, _, b, hb => by cases hb
 | .fn .., _, _, b, hb => by cases hb
 | .vptr _, _, _, b, hb => by cases hb
 | .ptr .., _, _, b, hb => by cases hb
 | .sl q off len, y, h, b, hb => by
  simp only [shownC0] at hb;split at hb
  ·cases hb
  ·rename_i hs;simp only [List.mem_singleton] at hb;subst hb;have hno : b ∉ ids := fun hm => hs (seen_iff.2 hm)
   refine ⟨?_, hno⟩
   simp only [passC0] at h;split at h
   ·rename_i j hj; exact (hno (List.mem_of_getElem? (place_some hj))).elim
   ·split at h
    ·rename_i hl; rw [hl]; trivial
    ·rename_i hl; rw [hl]; trivial
    ·cases h
 | .sla q o n off len, y, h, b, hb => by
  simp only [shownC0] at hb;split at hb
  ·cases hb
  ·rename_i hs;simp only [List.mem_singleton] at hb;subst hb;have hno : b ∉ ids := fun hm => hs (seen_iff.2 hm)
   refine ⟨?_, hno⟩
   simp only [passC0] at h;split at h
   ·rename_i j hj; exact (hno (List.mem_of_getElem? (place_some hj))).elim
   ·split at h
    ·rename_i hl; rw [hl]; trivial
    ·cases h
 | .ifc t x, y, h, b, hb => by
  have hb : b ∈ shownC0 ids x := hb
  cases x with
  | sl q off len => simp [passC0, cellRefs] at h
  | sla q o n off len => simp [passC0, cellRefs] at h
  | ifc t' x' =>
   simp only [passC0] at h;split at h
   ·rename_i hr;rw [shownC0_none hr] at hb; cases hb
   ·cases h
  | _ => cases hb
theorem shownN_real {look : Look} {ids : List Nat} : ∀ {fs : List FCell} {ds : List (List Int × Nat)}, viewL look ids fs = some ds -> ∀ b ∈ shownN ids fs, real (look b) /\ b ∉ ids
 | [], _, _, b, hb => by cases hb
 | .ws .. :: fs, _, h, b, hb => by simp [viewL] at h
 | .c x :: fs, ds, h, b, hb => by
  simp only [viewL] at h;split at h
  ·rename_i d r h1 h2;rcases List.mem_append.1 hb with hb | hb
   ·unfold viewC at h1;split at h1
    ·rename_i hp; exact shownC0_real hp b hb
    ·rename_i hp; exact shownC0_real hp b hb
    ·cases h1
   ·exact shownN_real h2 b hb
  ·cases h
theorem shownC_real {look : Look} {ids : List Nat} {x y : Cell} (h : passC look ids x = some y) : ∀ b ∈ shownC look ids x, real (look b) /\ b ∉ ids := by
 intro b hb;unfold passC at h;split at h
 ·rename_i q o n off len;split at h
  ·rename_i fs hpl hq;split at h
   ·rename_i hw;simp only [shownC, hpl, hq, hw, List.append_nil] at hb;exact shownC0_real h b hb
   ·rename_i hw;simp only [shownC, hpl, hq, hw] at hb;split at h
    ·split at h
     ·rename_i ds hds;rcases List.mem_append.1 hb with hb | hb
      ·simp only [shownC0] at hb;split at hb
       ·cases hb
       ·rename_i hs;simp only [List.mem_singleton] at hb;subst hb;exact ⟨by rw [hq]; trivial, fun hm => hs (seen_iff.2 hm)⟩
      ·exact shownN_real hds b hb
     ·cases h
    ·cases h
  ·rename_i hno;simp only [shownC] at hb;have hb' : b ∈ shownC0 ids (.sla q o n off len) := by
    rcases List.mem_append.1 hb with hb | hb
    ·exact hb
    ·exact nomatch hb
   exact shownC0_real h b hb'
 ·rename_i hx;refine shownC0_real h b ?_
  unfold shownC at hb;split at hb
  ·exact (hx _ _ _ _ _ rfl).elim
  ·exact hb
theorem shownF_real {look : Look} {ids : List Nat} : ∀ {fs gs : List FCell}, passF look ids fs = some gs -> ∀ b ∈ shownF look ids fs, real (look b) /\ b ∉ ids
 | [], _, _, b, hb => by cases hb
 | .c x :: fs, gs, h, b, hb => by
  simp only [passF] at h;split at h
  ·rename_i y r h1 h2;rcases List.mem_append.1 hb with hb | hb
   ·exact shownC_real h1 b hb
   ·exact shownF_real h2 b hb
  ·cases h
 | .ws .. :: fs, gs, h, b, hb => by
  simp only [passF] at h;split at h
  ·rename_i r h2; exact shownF_real h2 b hb
  ·cases h
theorem shownS_real {look : Look} {ids : List Nat} : ∀ {x : SV} {y : V1}, passV look ids x = some y -> ∀ b ∈ shownS look ids x, real (look b) /\ b ∉ ids
 | .any, _, h, _, _ => by cases h
 | .tup _, _, h, _, _ => by cases h
 | .one (.c x), y, h, b, hb => by
  simp only [passV] at h;split at h
  ·rename_i z h1;have hb : b ∈ shownF look ids [.c x] := hb
   rcases List.mem_append.1 hb with hb | hb
   ·exact shownC_real h1 b hb
   ·cases hb
  ·cases h
 | .one (.g fs), y, h, b, hb => by
  simp only [passV] at h;split at h
  ·rename_i z h1; exact shownF_real h1 b hb
  ·cases h
theorem shown_real {look : Look} {ids : List Nat} {args : List SV} {vs : List V1} {hl : Heap} (h1 : mapO (passV look ids) args = some vs) (h2 : mapO (fun b => passB look ids (look b)) ids = some hl) :
  ∀ b ∈ args.flatMap (shownS look ids) ++ ids.flatMap (fun b => shownB look ids (look b)), real (look b) /\ b ∉ ids := by
 intro b hb;rcases List.mem_append.1 hb with hb | hb
 ·obtain ⟨x, hx, hb⟩ := List.mem_flatMap.1 hb;obtain ⟨i, hi, rfl⟩ := List.mem_iff_getElem.1 hx;obtain ⟨y, g1, _⟩ := (mapO_get h1).2 i _ (List.getElem?_eq_getElem hi)
  exact shownS_real g1 b hb
 ·obtain ⟨x, hx, hb⟩ := List.mem_flatMap.1 hb;obtain ⟨i, hi, rfl⟩ := List.mem_iff_getElem.1 hx;obtain ⟨y, g1, _⟩ := (mapO_get h2).2 i _ (List.getElem?_eq_getElem hi)
  cases hk : look ids[i] with
  | vals fs =>
   rw [hk] at g1 hb;simp only [passB] at g1;split at g1
   ·rename_i r hr; exact shownF_real hr b hb
   ·cases g1
  | _ => rw [hk] at hb; cases hb
end Go.SX
namespace Go.SX
open Go
variable {P : Program} {G : GlobT} {E El : Env} {look : Look} {ids : List Nat} {hl : Heap} {Rl R' : Nat -> Prop} {shown : List Nat} {nid n : Nat} [Level]
theorem getB_setBs_all : ∀ (ws : List (Nat × Blk)) (H : Heap) (b : Nat) (k : Blk), (∀ k', (b, k') ∈ ws -> k' = k) -> b < H.length -> ((∃ k', (b, k') ∈ ws) \/ getB H b = k) -> getB (setBs H ws) b = k
 | [], H, b, k, _, _, h => by
  rcases h with ⟨_, h⟩ | h
  ·cases h
  ·exact h
 | (c, kc) :: ws, H, b, k, hall, hlen, h => by
  refine getB_setBs_all ws _ b k (fun k' hk => hall k' (List.mem_cons_of_mem _ hk)) (by rw [length_setB]; exact hlen) ?_
  by_cases hc : b = c
  ·subst hc;right;rw [getB_setB_same hlen];exact hall kc List.mem_cons_self
  ·rcases h with ⟨k', h⟩ | h
   ·rcases List.mem_cons.1 h with h | h
    ·cases h; exact (hc rfl).elim
    ·exact .inl ⟨k', h⟩
   ·right; rw [getB_setB_ne hc]; exact h
theorem mem_writes {ren : Nat -> Nat} : ∀ {bs : Heap} {i b : Nat} {k : Blk}, (b, k) ∈ writes ids nid ren i bs ↔ ∃ m blk, bs[m]? = some blk /\ b = renOf ids nid (i + m) /\ k = backB ren blk
 | [], i, b, k => by simp [writes]
 | x :: bs, i, b, k => by
  simp only [writes, List.mem_cons];constructor
  ·rintro (h | h)
   ·cases h
    exact ⟨0, x, rfl, rfl, rfl⟩
   ·obtain ⟨m, blk, h1, h2, h3⟩ := mem_writes.1 h;exact ⟨m + 1, blk, by simpa using h1, by rw [h2]; congr 1; omega, h3⟩
  ·rintro ⟨m, blk, h1, h2, h3⟩
   cases m with
   | zero =>
    simp at h1; subst h1
    left; rw [h2, h3]; rfl
   | succ m =>
    right;exact mem_writes.2 ⟨m, blk, by simpa using h1, by rw [h2]; congr 1; omega, h3⟩
def caller (E : Env) (ids : List Nat) (nid : Nat) (El : Env) (R' : Nat -> Prop) : Env :=
 ⟨fun b => match place ids b with
  | some j => El.β j
  | none => if nid <= b /\ b < nid + (El.H.length - ids.length) then El.β (ids.length + (b - nid)) else E.β b,
 setBs E.H (writes ids nid (renOf ids nid) 0 El.H), El.w, R'⟩
structure BackOk (G : GlobT) (E : Env) (look : Look) (ids : List Nat) (hl : Heap) (Rl : Nat -> Prop) (shown : List Nat) (nid n : Nat) (El : Env) (R' : Nat -> Prop) : Prop where
 p : PassOk G E look ids hl Rl shown
 hE' : RepH G El
 hx : Ext (callee E ids hl Rl) El
 hfresh : ∀ m, m < n -> fresh1 E (nid + m)
 hlen1 : El.H.length <= ids.length + n
 hlen2 : ids.length <= El.H.length
 r1 : ∀ k, E.R k -> R' k
 r2 : ∀ k, R' k -> El.R k
 r3 : ∀ k, R' k -> E.R k \/ E.w.heap.size <= k \/ ∃ b, b ∈ ids /\ live (getB E.H b) = true /\ E.β b = some k
section
variable (h : BackOk G E look ids hl Rl shown nid n El R')
include h
theorem BackOk.idLive {b : Nat} (hb : b ∈ ids) : live (getB E.H b) = true /\ (∀ t xs lo par, getB E.H b = .arr t xs lo par -> par = []) := by
 obtain ⟨j, hj, rfl⟩ := List.mem_iff_getElem.1 hb;obtain ⟨blk, q1, q2, q3⟩ := h.p.get (List.getElem?_eq_getElem hj)
 have : live (getB hl j) = true := by
  rw [q2];cases hk : look ids[j] with
  | vals fs =>
   rw [hk] at q1;simp only [passB] at q1;split at q1
   ·rw [<- smI q1]; rfl
   ·cases q1
  | arr t xs lo par =>
   rw [hk] at q1;cases par with
   | nil => rw [(passB_arr q1).2]; rfl
   | cons _ _ => cases q1
  | frz t xs => rw [hk] at q1; cases q1
  | gone => rw [hk] at q1; cases q1
  | dead => rw [hk] at q1; cases q1
 obtain ⟨b, g1, g2, g3⟩ := h.p.live this;rw [List.getElem?_eq_getElem hj] at g1
 obtain rfl := smI g1;exact ⟨g2, g3⟩
omit h in
theorem backB_arr {ren : Nat -> Nat} {t : DTy} {xs : List t.den} {lo : Nat} {par : List Nat} : (t.rf = true /\ backB ren (.arr t xs lo par) = .gone) \/ (t.rf = false /\ backB ren (.arr t xs lo par) = .arr t xs 0 []) := by
 cases hf : t.rf <;> simp [backB, hf]
theorem BackOk.fresh {j : Nat} (h1 : ids.length <= j) (h2 : j < El.H.length) : renOf ids nid j = nid + (j - ids.length) /\ fresh1 E (nid + (j - ids.length)) /\ nid + (j - ids.length) ∉ ids := by
 have hf := h.hfresh (j - ids.length) (by have := h.hlen1; omega)
 refine ⟨?_, hf, fun hm => ?_⟩
 ·unfold renOf; rw [List.getElem?_eq_none h1]
 ·have := (h.idLive hm).1
  rw [hf.2] at this; cases this
theorem BackOk.renLen {j : Nat} (h2 : j < El.H.length) : renOf ids nid j < E.H.length := by
 rcases Nat.lt_or_ge j ids.length with h1 | h1
 ·have : renOf ids nid j = ids[j] := by unfold renOf; rw [List.getElem?_eq_getElem h1]
  rw [this];exact getB_len (live_ne_dead (h.idLive (List.getElem_mem h1)).1)
 ·obtain ⟨q1, q2, _⟩ := h.fresh h1 h2;rw [q1]; exact q2.1
theorem BackOk.renInj {i j : Nat} (hi : i < El.H.length) (hj : j < El.H.length) (e : renOf ids nid i = renOf ids nid j) : i = j := by
 rcases Nat.lt_or_ge i ids.length with h1 | h1 <;> rcases Nat.lt_or_ge j ids.length with h2 | h2
 ·unfold renOf at e;rw [List.getElem?_eq_getElem h1, List.getElem?_eq_getElem h2] at e
  exact (List.getElem?_inj h1 h.p.hnd).1 (by rw [List.getElem?_eq_getElem h1, List.getElem?_eq_getElem h2]; exact congrArg some e)
 ·obtain ⟨q1, _, q3⟩ := h.fresh h2 hj;rw [q1] at e;have : renOf ids nid i = ids[i] := by unfold renOf; rw [List.getElem?_eq_getElem h1]
  rw [this] at e;exact (q3 (e ▸ List.getElem_mem h1)).elim
 ·obtain ⟨q1, _, q3⟩ := h.fresh h1 hi;rw [q1] at e;have : renOf ids nid j = ids[j] := by unfold renOf; rw [List.getElem?_eq_getElem h2]
  rw [this] at e;exact (q3 (e ▸ List.getElem_mem h2)).elim
 ·obtain ⟨q1, _⟩ := h.fresh h1 hi;obtain ⟨q2, _⟩ := h.fresh h2 hj;rw [q1, q2] at e;omega
theorem BackOk.inB {j : Nat} (hj : j < El.H.length) : getB (caller E ids nid El R').H (renOf ids nid j) = backB (renOf ids nid) (getB El.H j) := by
 have hjj : El.H[j]? = some (getB El.H j) := by rw [getB_eq, List.getElem?_eq_getElem hj]; rfl
 refine getB_setBs_all _ _ _ _ (fun k' hk => ?_) (h.renLen hj) (.inl ⟨_, mem_writes.2 ⟨j, _, hjj, by rw [Nat.zero_add], rfl⟩⟩)
 obtain ⟨m, blk, h1, h2, h3⟩ := mem_writes.1 hk;rw [Nat.zero_add] at h2;have hm : m < El.H.length := (List.getElem?_eq_some_iff.1 h1).1
 have := h.renInj hj hm h2
 subst this;rw [hjj] at h1;rw [h3, <- smI h1]
theorem BackOk.inβ {j : Nat} (hj : j < El.H.length) : (caller E ids nid El R').β (renOf ids nid j) = El.β j := by
 show (match place ids (renOf ids nid j) with | some j => _ | none => _) = _
 rcases Nat.lt_or_ge j ids.length with h1 | h1
 ·have hr : renOf ids nid j = ids[j] := by unfold renOf; rw [List.getElem?_eq_getElem h1]
  rw [hr];cases hp : place ids ids[j] with
  | none => exact (place_none hp (List.getElem_mem h1)).elim
  | some i =>
   have hi := place_some hp
   have hlt : i < ids.length := (List.getElem?_eq_some_iff.1 hi).1
   have : i = j := (List.getElem?_inj hlt h.p.hnd).1 (hi.trans (List.getElem?_eq_getElem h1).symm)
   rw [this]
 ·obtain ⟨q1, q2, q3⟩ := h.fresh h1 hj;rw [q1];cases hp : place ids (nid + (j - ids.length)) with
  | some i => exact (q3 (List.mem_of_getElem? (place_some hp))).elim
  | none =>
   simp only
   rw [if_pos (by omega)]
   congr 1; omega
omit h in
theorem caller_out {b : Nat} (hb : ∀ j, j < El.H.length -> renOf ids nid j ≠ b) (hlen : ids.length <= El.H.length) : getB (caller E ids nid El R').H b = getB E.H b /\ (caller E ids nid El R').β b = E.β b := by
 constructor
 ·refine getB_setBs_not _ _ _ (fun p hp => ?_)
  obtain ⟨q, k⟩ := p;obtain ⟨m, blk, h1, h2, h3⟩ := mem_writes.1 hp;rw [Nat.zero_add] at h2;intro e;exact hb m (List.getElem?_eq_some_iff.1 h1).1 (by rw [<- h2]; exact e)
 ·show (match place ids b with | some j => _ | none => _) = _
  cases hp : place ids b with
  | some i =>
   have hi := place_some hp
   have hlt : i < ids.length := (List.getElem?_eq_some_iff.1 hi).1
   exact (hb i (by omega) (by unfold renOf; rw [hi])).elim
  | none =>
   simp only
   rw [if_neg];intro hc;refine hb (ids.length + (b - nid)) (by omega) ?_
   unfold renOf;rw [List.getElem?_eq_none (by omega)]
   show nid + (ids.length + (b - nid) - ids.length) = b
   omega
theorem BackOk.sort (b : Nat) : (∃ j, j < El.H.length /\ b = renOf ids nid j /\ getB (caller E ids nid El R').H b = backB (renOf ids nid) (getB El.H j) /\ (caller E ids nid El R').β b = El.β j) \/
  (b ∉ ids /\ getB (caller E ids nid El R').H b = getB E.H b /\ (caller E ids nid El R').β b = E.β b) := by
 by_cases hb : ∃ j, j < El.H.length /\ renOf ids nid j = b
 ·obtain ⟨j, hj, rfl⟩ := hb;exact .inl ⟨j, hj, rfl, h.inB hj, h.inβ hj⟩
 ·have hb' : ∀ j, j < El.H.length -> renOf ids nid j ≠ b := fun j hj e => hb ⟨j, hj, e⟩
  refine .inr ⟨fun hm => ?_, caller_out hb' h.hlen2⟩
  obtain ⟨j, hj, rfl⟩ := List.mem_iff_getElem.1 hm;exact hb' j (by have := h.hlen2; omega) (by unfold renOf; rw [List.getElem?_eq_getElem hj])
omit h in
theorem live_backB {ren : Nat -> Nat} {k : Blk} (hl : live (backB ren k) = true) : live k = true := by
 cases k <;> first | rfl | cases hl
theorem BackOk.from_ {j k : Nat} (hj : live (getB El.H j) = true) (hk : El.β j = some k) : (∃ b ∈ ids, live (getB E.H b) = true /\ E.β b = some k) \/ E.w.heap.size <= k := by
 rcases h.hx.fresh j k hj hk with ⟨b0, h1, h2⟩ | h1
 ·obtain ⟨b, g1, g2, _⟩ := h.p.live h1;rw [PassOk.beta g1] at h2;exact .inl ⟨b, List.mem_of_getElem? g1, g2, h2⟩
 ·exact .inr h1
theorem BackOk.outside {b k j : Nat} (hb : b ∉ ids) (hlb : live (getB E.H b) = true) (hk : E.β b = some k) (hj : live (getB El.H j) = true) : El.β j ≠ some k := by
 intro hjk;rcases h.from_ hj hjk with ⟨c, h1, h2, h3⟩ | h1
 ·exact hb (h.p.hE.inj b c k hlb h2 hk h3 ▸ h1)
 ·have := h.p.hE.lt hlb hk; omega
theorem BackOk.outsideF {b k j : Nat} {t : DTy} {xs : List t.den} (hf : getB E.H b = .frz t xs) (hk : E.β b = some k) (hj : live (getB El.H j) = true) : El.β j ≠ some k := by
 intro hjk;rcases h.from_ hj hjk with ⟨c, h1, h2, h3⟩ | h1
 ·obtain ⟨xs', lo, par, q1, q2, _⟩ := h.p.hE.shares hf hk h2 h3;rw [(h.idLive h1).2 _ _ _ _ q1] at q2; cases q2
 ·have hbb := h.p.hE.blk b
  rw [hf] at hbb;rcases hbb.2 with ⟨h2, _⟩ | ⟨k', c, e, fz, h2, h3, _⟩
  ·rw [h2] at hk; cases hk
  ·rw [h2] at hk; obtain rfl := smI hk; have := (Array.getElem?_eq_some_iff.1 h3).1; omega
theorem BackOk.keep {k : Nat} (hk : k < E.w.heap.size) (hno : ∀ b ∈ ids, live (getB E.H b) = true -> E.β b ≠ some k) : El.w.heap[k]? = E.w.heap[k]? := by
 refine h.hx.keep k hk (fun j hj hjk => ?_)
 obtain ⟨b, g1, g2, _⟩ := h.p.live hj;rw [PassOk.beta g1] at hjk;exact hno b (List.mem_of_getElem? g1) g2 hjk
theorem BackOk.ext : Ext E (caller E ids nid El R') where
 os := h.hx.os
 tape := h.hx.tape
 output := h.hx.output
 size := h.hx.size
 ro := h.r1
 rnew := fun k hk => by
  rcases h.r3 k hk with h1 | h1 | ⟨b, _, h1, h2⟩
  ·exact .inl h1
  ·exact .inr (.inl h1)
  ·exact .inr (.inr ⟨b, h1, h2⟩)
 keep := fun k hk hno => h.keep hk fun b _ hl => hno b hl
 cells := h.hx.cells
 blk := fun b => by
  rcases h.sort b with ⟨j, hj, rfl, h1, h2⟩ | ⟨_, h1, h2⟩
  ·rw [h1];rcases Nat.lt_or_ge j ids.length with hl1 | hl1
   ·have hr : renOf ids nid j = ids[j] := by unfold renOf; rw [List.getElem?_eq_getElem hl1]
    rw [hr] at h2 ⊢;have hb := h.hx.blk j
    obtain ⟨blk, q1, q2, q3⟩ := h.p.get (List.getElem?_eq_getElem hl1)
    have hβ := PassOk.beta (E := E) (hl := hl) (Rl := Rl) (List.getElem?_eq_getElem hl1)
    have q2' : getB (callee E ids hl Rl).H j = blk := q2
    rw [q2'] at hb;rw [<- q3];cases hk : look ids[j] with
    | vals fs =>
     rw [hk] at q1;simp only [passB] at q1;split at q1
     ·rw [<- smI q1] at hb;cases hk' : getB El.H j <;> rw [hk'] at hb <;> try (exact hb.elim)
      ·exact h2.trans (Eq.trans (show El.β j = (callee E ids hl Rl).β j from hb) hβ)
      ·trivial
     ·cases q1
    | arr t xs lo par =>
     rw [hk] at q1;cases par with
     | nil =>
      rw [(passB_arr q1).2] at hb;cases hk' : getB El.H j <;> rw [hk'] at hb <;> try (exact hb.elim)
      ·rcases backB_arr (ren := renOf ids nid) with ⟨_, e⟩ | ⟨_, e⟩ <;> rw [e]
       ·trivial
       ·exact ⟨hb.1, hb.2.1, h2.trans (hb.2.2.trans hβ)⟩
      ·trivial
      ·trivial
     | cons _ _ => cases q1
    | frz t xs => rw [hk] at q1; cases q1
    | gone => rw [hk] at q1; cases q1
    | dead => trivial
   ·obtain ⟨q1, q2, _⟩ := h.fresh hl1 hj;rw [q1, q2.2]; trivial
  ·rw [h1];cases getB E.H b <;> first | exact h2 | trivial | exact ⟨rfl, Nat.le_refl _, h2⟩
 fresh := fun b k hb hk => by
  rcases h.sort b with ⟨j, hj, rfl, h1, h2⟩ | ⟨_, h1, h2⟩
  ·rw [h1] at hb;rw [h2] at hk;rcases h.from_ (live_backB hb) hk with ⟨c, _, q2, q3⟩ | q
   ·exact .inl ⟨c, q2, q3⟩
   ·exact .inr q
  ·rw [h1] at hb;rw [h2] at hk;exact .inl ⟨b, hb, hk⟩
omit h in
theorem rotQ (h1 : E.w = El.w) : ∀ {t : DTy} {d : t.den} {vs : List Value}, t.rf = false -> (t.deep = false \/ ∀ k, El.R k -> E.R k) -> RoT El t d vs -> RoT E t d vs
 | .unit, _, _, _, _, q => q
 | .int _, _, _, _, _, q => q
 | .bool, _, _, _, _, q => q
 | .str, _, _, _, _, q => q
 | .ws _ _, _, _, _, _, q => q
 | .ref, _, _, hf, _, _ => by cases hf
 | .vp, _, _, _, _, q => q
 | .pair a b, d, vs, hf, hq, q => by
  have hf : (a.rf || b.rf) = false := hf
  rw [Bool.or_eq_false_iff] at hf;obtain ⟨v1, v2, q1, q2, q3⟩ := q;have : (a.deep = false \/ ∀ k, El.R k -> E.R k) /\ (b.deep = false \/ ∀ k, El.R k -> E.R k) := by
   rcases hq with hq | hq
   ·simp only [DTy.deep, Bool.or_eq_false_iff] at hq;exact ⟨.inl hq.1, .inl hq.2⟩
   ·exact ⟨.inr hq, .inr hq⟩
  exact ⟨v1, v2, q1, rotQ h1 hf.1 this.1 q2, rotQ h1 hf.2 this.2 q3⟩
 | .sl t, d, vs, hf, hq, q => by
  have hq : ∀ k, El.R k -> E.R k := hq.resolve_left (by simp [DTy.deep])
  obtain ⟨v, q1, a, cap, q2, q3, q4, q5, q6, q7⟩ := q;refine ⟨v, q1, a, cap, q2, q3, q4, q5, q6, fun hne => ?_⟩
  obtain ⟨k, off, c, e, fz, g1, g2, g3, g4⟩ := q7 hne;exact ⟨k, off, c, e, fz, g1, hq k g2, by rw [h1]; exact g3, g4.mono fun a us hu => rotQ h1 (t := t) hf (.inr hq) hu⟩
omit h in
theorem rpQ (h1 : E.w = El.w) (hq : ∀ k, El.R k -> E.R k) {t : DTy} {d : t.den} {o k : Nat} {v : Value} (hf : t.rf = false) (q : RelRp El t d o k v) : RelRp E t d o k v := by
 obtain ⟨kb, off, c, e, fz, us, q1, q2, q3, q4, q5, q6⟩ := q;exact ⟨kb, off, c, e, fz, us, q1, hq kb q2, by rw [h1]; exact q3, rotQ h1 hf (.inr hq) q4, q5, q6⟩
theorem BackOk.relptr {j i es o k m : Nat} {v : Value} (h2 : RelPtr El j i es o k m v) : RelPtr (caller E ids nid El R') (renOf ids nid j) i es o k m v := by
 unfold RelPtr at h2 ⊢;by_cases hd : getB El.H j = .dead
 ·rw [hd] at h2; exact h2.elim
 have hj := getB_len hd
 rw [h.inB hj];have hβ := h.inβ hj
 have hat : PtrAt El j i es o k m v -> PtrAt (caller E ids nid El R') (renOf ids nid j) i es o k m v := fun ⟨⟨kb, q1, q2⟩, q3⟩ => ⟨⟨kb, hβ.trans q1, q2⟩, q3⟩
 cases hk : getB El.H j <;> rw [hk] at h2
 ·exact hat h2
 ·rcases backB_arr (ren := renOf ids nid) with ⟨_, e⟩ | ⟨_, e⟩ <;> rw [e]
  ·exact h2.1
  ·exact ⟨h2.1, fun e => hat (h2.2.1 e), h2.2.2⟩
 ·exact h2.1
 ·exact h2
 ·exact h2.elim
theorem BackOk.caps : ∀ {cs r : List Cell} {us : List Value}, backCaps (renOf ids nid) cs = some r -> ((cs.any fun c => match c with | .rptr .. => true | _ => false) = false \/ ∀ k, El.R k -> R' k) -> RelCaps El cs us -> RelCaps (caller E ids nid El R') r us
 | [], r, us, hp, hq, hv => by obtain rfl := smI hp; exact hv
 | c :: cs, r, us, hp, hq, hv => by
  obtain ⟨u, us', rfl, h1, h2⟩ := hv;simp only [backCaps] at hp;split at hp
  ·rename_i y r' hy hr';obtain rfl := smI hp;refine ⟨u, us', rfl, ?_, BackOk.caps hr' (hq.imp (fun hq => by rw [List.any_cons, Bool.or_eq_false_iff] at hq; exact hq.2) id) h2⟩
   cases c <;> first | exact h1.elim | skip
   ·obtain rfl := smI hy;exact ⟨h1.1, h.relptr h1.2⟩
   ·simp only [backCap] at hy;split at hy
    ·cases hy
    ·rename_i hf;obtain rfl := smI hy;exact rpQ (E := caller E ids nid El R') (El := El) rfl (hq.resolve_left (by simp)) hf h1
   ·obtain rfl := smI hy;exact h1
  ·cases hp
theorem BackOk.c : ∀ {x : Cell} {v : Value}, (roC x = false \/ ∀ k, El.R k -> R' k) -> RelC El x v -> RelC (caller E ids nid El R') (backC (renOf ids nid) x) v
 | .any, v, _, hv => hv
 | .int .., v, _, hv => hv
 | .bool .., v, _, hv => hv
 | .str _, v, _, hv => hv
 | .nilp, v, _, hv => hv
 | .nils, v, _, hv => hv
 | .nilif, v, _, hv => hv
 | .nilfn, v, _, hv => hv
 | .vptr _, v, _, hv => hv
 | .fn f cs, v, hq, hv => by
  obtain ⟨us, rfl, h2⟩ := hv;simp only [backC];split
  ·rename_i r hr;exact ⟨us, rfl, h.caps hr hq h2⟩
  ·trivial
 | .rptr t d o k, v, hq, hv => by
  simp only [backC];split
  ·exact single_of hv
  ·rename_i hf;exact rpQ (E := caller E ids nid El R') (El := El) rfl (hq.resolve_left (by simp [roC])) hf hv
 | .ref d, v, hq, hv => refSingle hv
 | .ro t xs len, v, hq, hv => by
  simp only [backC];split
  ·exact single_of hv
  rename_i hf;have hq := hq.resolve_left (by simp [roC])
  obtain ⟨a, cap, q2, q3, q4, q5, q6, q7⟩ := hv;refine ⟨a, cap, q2, q3, q4, q5, q6, fun hne => ?_⟩
  obtain ⟨k, off, c, e, fz, g1, g2, g3, g4⟩ := q7 hne;exact ⟨k, off, c, e, fz, g1, hq k g2, g3, g4.mono fun a us hu => rotQ (E := caller E ids nid El R') (El := El) rfl hf (.inr hq) hu⟩
 | .ifc t x, v, hq, hv => by
  obtain ⟨u, rfl, hv⟩ := hv;exact ⟨u, rfl, BackOk.c hq hv⟩
 | .ifd T t d, v, hq, hv => by
  simp only [backC];split
  ·exact single_of hv
  rename_i hf;obtain ⟨cs, rfl, hv⟩ := hv;refine ⟨cs, rfl, rotQ (E := caller E ids nid El R') (El := El) rfl hf ?_ hv⟩
  rcases hq with hq | hq
  ·exact .inl (by simpa [roC] using hq)
  ·exact .inr hq
 | .ptr j i es o k m, v, hq, hv => ⟨hv.1, h.relptr hv.2⟩
 | .sl j off len, v, hq, hv => by
  obtain ⟨h1, h2⟩ := hv;refine ⟨h1, ?_⟩
  unfold RelSl at h2 ⊢;by_cases hd : getB El.H j = .dead
  ·rw [hd] at h2; exact h2.elim
  have hj := getB_len hd
  rw [h.inB hj];have hβ := h.inβ hj
  cases hk : getB El.H j <;> rw [hk] at h2
  ·exact h2.elim
  ·rcases backB_arr (ren := renOf ids nid) with ⟨_, e⟩ | ⟨_, e⟩ <;> rw [e]
   ·exact SlAt.gone h2
   ·obtain ⟨a, cap, q1, q2, q3, q4, q5⟩ := h2;refine ⟨a, cap, q1, q2, q3, q4, ?_⟩
    rw [hβ]; exact q5
  ·exact SlAt.gone h2
  ·exact h2
  ·exact h2.elim
 | .sla j o m off len, v, hq, hv => by
  obtain ⟨h1, h2⟩ := hv;refine ⟨h1, ?_⟩
  unfold RelSla at h2 ⊢;by_cases hd : getB El.H j = .dead
  ·rw [hd] at h2; exact h2.elim
  have hj := getB_len hd
  rw [h.inB hj];have hβ := h.inβ hj
  cases hk : getB El.H j <;> rw [hk] at h2
  ·obtain ⟨a, cap, q1, q2, q3, q4, q5⟩ := h2;refine ⟨a, cap, q1, q2, q3, q4, ?_⟩
   rw [hβ]; exact q5
  ·exact h2.elim
  ·exact h2.elim
  ·exact h2
  ·exact h2.elim
theorem BackOk.fs : ∀ {fs : List FCell} {vs : List Value}, (roF fs = false \/ ∀ k, El.R k -> R' k) -> RelFs El fs vs -> RelFs (caller E ids nid El R') (backF (renOf ids nid) fs) vs
 | [], vs, _, hv => hv
 | .c x :: fs, vs, hq, hv => by
  obtain ⟨v1, v2, rfl, ⟨v, rfl, q1⟩, q2⟩ := hv;have : (roC x = false \/ ∀ k, El.R k -> R' k) /\ (roF fs = false \/ ∀ k, El.R k -> R' k) := by
   rcases hq with hq | hq
   ·simp only [roF, Bool.or_eq_false_iff] at hq;exact ⟨.inl hq.1, .inl hq.2⟩
   ·exact ⟨.inr hq, .inr hq⟩
  exact ⟨[v], v2, rfl, ⟨v, rfl, h.c this.1 q1⟩, BackOk.fs this.2 q2⟩
 | .ws k n xs :: fs, vs, hq, hv => by
  obtain ⟨v1, v2, rfl, q1, q2⟩ := hv;exact ⟨v1, v2, rfl, q1, BackOk.fs (fs := fs) hq q2⟩
theorem BackOk.v1 {x : V1} {v : Value} (hq : roV x = false \/ ∀ k, El.R k -> R' k) (hv : RelV El x v) : RelV (caller E ids nid El R') (backV (renOf ids nid) x) v := by
 cases x with
 | c x =>
  refine h.c (hq.imp (fun hq => ?_) id) hv
  have hq : (roC x || roF []) = false := hq
  simpa [roF] using hq
 | g fs =>
  obtain ⟨cs, rfl, q⟩ := hv;exact ⟨cs, rfl, h.fs hq q⟩
theorem BackOk.v1s : ∀ {xs : List V1} {vs : List Value}, (xs.any roV = false \/ ∀ k, El.R k -> R' k) -> RelVs El xs vs -> RelVs (caller E ids nid El R') (xs.map (backV (renOf ids nid))) vs
 | [], _, _, hv => hv
 | x :: xs, vs, hq, hv => by
  obtain ⟨u, us, rfl, q1, q2⟩ := hv;have : (roV x = false \/ ∀ k, El.R k -> R' k) /\ (xs.any roV = false \/ ∀ k, El.R k -> R' k) := by
   rcases hq with hq | hq
   ·simp only [List.any_cons, Bool.or_eq_false_iff] at hq;exact ⟨.inl hq.1, .inl hq.2⟩
   ·exact ⟨.inr hq, .inr hq⟩
  exact ⟨u, us, rfl, h.v1 this.1 q1, BackOk.v1s this.2 q2⟩
theorem BackOk.s {x : SV} {v : Value} (hq : roS x = false \/ ∀ k, El.R k -> R' k) (hv : RelS El x v) : RelS (caller E ids nid El R') (backS (renOf ids nid) x) v := by
 cases x with
 | any => trivial
 | one x => exact h.v1 hq hv
 | tup xs =>
  obtain ⟨us, rfl, q⟩ := hv;exact ⟨us, rfl, h.v1s hq q⟩
theorem BackOk.rep (hq : El.H.any roB = false \/ ∀ k, El.R k -> R' k) : RepH G (caller E ids nid El R') where
 ro := fun k hk => by
  have hk' := h.r2 k hk
  refine ⟨(h.hE'.ro k hk').1, fun b hb hbk => ?_⟩
  rcases h.sort b with ⟨j, hj, rfl, h1, h2⟩ | ⟨hb0, h1, h2⟩
  ·rw [h1] at hb;rw [h2] at hbk;exact (h.hE'.ro k hk').2 j (live_backB hb) hbk
  ·rw [h1] at hb;rw [h2] at hbk;rcases h.r3 k hk with h3 | h3 | ⟨c, h3, h4, h5⟩
   ·exact (h.p.hE.ro k h3).2 b hb hbk
   ·have := h.p.hE.lt hb hbk; omega
   ·exact hb0 (h.p.hE.inj b c k hb h4 hbk h5 ▸ h3)
 inj := fun b b' k hb hb' hk hk' => by
  rcases h.sort b with ⟨j, hj, rfl, h1, h2⟩ | ⟨hb0, h1, h2⟩ <;> rcases h.sort b' with ⟨j', hj', rfl, h1', h2'⟩ | ⟨hb0', h1', h2'⟩ <;> rw [h1] at hb <;> rw [h1'] at hb' <;> rw [h2] at hk <;> rw [h2'] at hk'
  ·rw [h.hE'.inj j j' k (live_backB hb) (live_backB hb') hk hk']
  ·exact (h.outside hb0' hb' hk' (live_backB hb) hk).elim
  ·exact (h.outside hb0 hb hk (live_backB hb') hk').elim
  ·exact h.p.hE.inj b b' k hb hb' hk hk'
 blk := fun b => by
  rcases h.sort b with ⟨j, hj, rfl, h1, h2⟩ | ⟨hb0, h1, h2⟩
  ·rw [h1];have hb := h.hE'.blk j
   have hqj : roB (getB El.H j) = false \/ ∀ k, El.R k -> R' k := by
    refine hq.imp (fun hq => ?_) id
    rw [List.any_eq_false] at hq;have hm : getB El.H j ∈ El.H := by rw [getB_eq, List.getElem?_eq_getElem hj]; exact List.getElem_mem hj
    simpa using hq _ hm
   cases hk : getB El.H j with
   | vals fs =>
    rw [hk] at hb hqj;obtain ⟨k, c, e, fz, q1, q2, q3, q4⟩ := hb;exact ⟨k, c, e, fz, h2.trans q1, q2, q3, h.fs hqj q4⟩
   | arr t xs lo par =>
    rw [hk] at hb hqj;obtain ⟨q1, q2, q3⟩ := hb;simp only [backB];split
    ·trivial
    rename_i hf;refine ⟨Nat.zero_le _, q2, ?_⟩
    rcases q3 with ⟨q3, q4⟩ | ⟨k, c, e, fz, q3, q4, q5, q6⟩
    ·exact .inl ⟨h2.trans q3, q4⟩
    ·exact .inr ⟨k, c, e, fz, h2.trans q3, q4, q5, q6.mono fun a us hu => rotQ (E := caller E ids nid El R') (El := El) rfl hf hqj hu⟩
   | frz t xs => trivial
   | gone => trivial
   | dead => trivial
  ·rw [h1];by_cases hr : getB E.H b = .gone \/ getB E.H b = .dead
   ·rcases hr with hr | hr <;> rw [hr] <;> trivial
   refine (h.p.hE.blk b).ext h.p.hE h.ext h2 (fun k o hk ho => ?_) (fun t xs k hf hk b' hl hb' => ?_)
   ·show El.w.heap[k]? = _
    rw [h.keep (Array.getElem?_eq_some_iff.1 ho).1 (fun c hc hlc hck => ?_)]
    ·exact ho
    ·cases hg : getB E.H b with
     | vals fs => exact hb0 (h.p.hE.inj b c k (by rw [hg]; rfl) hlc hk hck ▸ hc)
     | arr t xs lo par => exact hb0 (h.p.hE.inj b c k (by rw [hg]; rfl) hlc hk hck ▸ hc)
     | frz t xs =>
      obtain ⟨xs', lo, par, q1, q2, _⟩ := h.p.hE.shares hg hk hlc hck;rw [(h.idLive hc).2 _ _ _ _ q1] at q2; cases q2
     | gone => exact hr (.inl hg)
     | dead => exact hr (.inr hg)
   ·rcases h.sort b' with ⟨j, hj, rfl, h3, h4⟩ | ⟨hb1, h3, h4⟩
    ·rw [h3] at hl;rw [h4] at hb';exact (h.outsideF hf hk (live_backB hl) hb').elim
    ·rw [h3] at hl ⊢;rw [h4] at hb';exact h.p.hE.shares hf hk hl hb'
 glob := fun g t d hg => ⟨RelRp.ext h.p.hE h.ext (h.p.hE.glob g t d hg).1, (h.p.hE.glob g t d hg).2⟩
end
end Go.SX
namespace Go.SX
open Go
variable {P : Program} {G : GlobT} {E : Env} {look : Look} {ids : List Nat} {nid : Nat} [Level]
theorem val_bind {α β : Type} : ∀ {t : Tree α} {f : α -> Tree β} {r : β}, (t.bind f).val = some r -> ∃ a, t.val = some a /\ (f a).val = some r
 | .ret a, f, r, h => ⟨a, rfl, h⟩
 | .fail, f, r, h => by cases h
 | .br b t e, f, r, h => by
  cases b with
  | true => exact val_bind (t := t) h
  | false => exact val_bind (t := e) h
theorem freezeAll_sound : ∀ {l : List Nat} {fz : List (Nat × Blk)} {E : Env}, freezeAll look l = some fz -> RepH G E -> (∀ b ∈ l, real (look b) -> getB E.H b = look b) ->
  ∃ R0, RepH G ⟨E.β, setBs E.H fz, E.w, R0⟩ /\ Ext E ⟨E.β, setBs E.H fz, E.w, R0⟩ /\ (∀ b ∈ l, ∀ k, E.β b = some k -> R0 k) /\ (∀ b, b ∉ l -> getB (setBs E.H fz) b = getB E.H b) /\
   (∀ b ∈ l, ∃ t xs lo par, look b = .arr t xs lo par /\ getB (setBs E.H fz) b = .frz t xs)
 | [], fz, E, h, hE, hk => by
  obtain rfl := smI h;exact ⟨E.R, hE, Ext.refl E, fun _ hb => (by cases hb), fun _ _ => rfl, fun _ hb => (by cases hb)⟩
 | b :: bs, fz, E, h, hE, hk => by
  simp only [freezeAll] at h;split at h
  ·rename_i hs;have hs := seen_iff.1 hs
   obtain ⟨R0, h1, h2, h3, h4, h5⟩ := freezeAll_sound h hE (fun c hc => hk c (List.mem_cons_of_mem _ hc))
   refine ⟨R0, h1, h2, fun c hc => ?_, fun c hc => h4 c (fun hm => hc (List.mem_cons_of_mem _ hm)), fun c hc => ?_⟩
   ·rcases List.mem_cons.1 hc with rfl | hc
    ·exact h3 _ hs
    ·exact h3 c hc
   ·rcases List.mem_cons.1 hc with rfl | hc
    ·exact h5 _ hs
    ·exact h5 c hc
  ·rename_i hs;have hs : b ∉ bs := fun hm => hs (seen_iff.2 hm)
   split at h
   ·rename_i p r hp hr;obtain rfl := smI h;unfold freezeB at hp;split at hp
    ·rename_i t xs lo par hb;obtain rfl := smI hp;have hbE : getB E.H b = .arr t xs lo par := by rw [hk b List.mem_cons_self (by rw [hb]; trivial), hb]
     obtain ⟨g1, g2⟩ := env_freeze hE hbE True;have hlen : b < E.H.length := getB_len (by rw [hbE]; intro h; cases h)
     obtain ⟨R0, h1, h2, h3, h4, h5⟩ := freezeAll_sound hr g1 (fun c hc hrl => by
      have hne : c ≠ b := fun e => hs (e ▸ hc)
      show getB (setB E.H b _) c = _
      rw [getB_setB_ne hne];exact hk c (List.mem_cons_of_mem _ hc) hrl)
     refine ⟨R0, h1, g2.trans h2, fun c hc k hck => ?_, fun c hc => ?_, fun c hc => ?_⟩
     ·rcases List.mem_cons.1 hc with rfl | hc
      ·exact h2.ro k (.inr ⟨trivial, hck⟩)
      ·exact h3 c hc k hck
     ·show getB (setBs (setB E.H b _) r) c = _
      rw [List.mem_cons, not_or] at hc;exact (h4 c hc.2).trans (getB_setB_ne hc.1)
     ·rcases List.mem_cons.1 hc with rfl | hc
      ·exact ⟨t, xs, lo, par, hb, (h4 c hs).trans (getB_setB_same hlen)⟩
      ·exact h5 c hc
    ·cases hp
   ·cases h
theorem callT_sound {S : Tab} (hsp : SpecOk P S) (hE : RepH S.gl E) (hk : LookOk E look) {f : FuncId} (hn : ∀ m, m < S.n f -> fresh1 E (nid + m)) {args : List SV} {us : Array Value} {r : Res} (ha : RelTs E args us.toList)
  (h : (callT S look nid f args).val = some r) : CallOk (S.vf f) P S.gl E f us r := by
 unfold callT at h;simp only at h
 generalize hids : idsOf S look f args = ids at h
 clear hids;split at h
 case h_2 => cases h
 rename_i vs hl hvs hhl;obtain ⟨⟨r', hl'⟩, hT, h⟩ := val_bind h;split at h
 case isFalse => cases h
 rename_i hcond;obtain ⟨hc1, hc2, hc3⟩ := hcond;have hnd := nodup_of hc3
 have hsr := shown_real hvs hhl
 generalize hshown : args.flatMap (shownS look ids) ++ ids.flatMap (fun b => shownB look ids (look b)) = shown at h hsr
 have hs1 : ∀ b ∈ args.flatMap (shownS look ids), b ∈ shown := fun b hb => by rw [<- hshown]; exact List.mem_append_left _ hb
 have hs2 : ∀ b ∈ ids.flatMap (fun b => shownB look ids (look b)), b ∈ shown := fun b hb => by rw [<- hshown]; exact List.mem_append_right _ hb
 have hre : ∀ b ∈ shown, getB E.H b = look b := fun b hb => by
  have hr := (hsr b hb).1
  refine hk.eq rfl (fun e => ?_)
  rw [e] at hr; exact hr
 have hreal : ∀ b ∈ shown, real (getB E.H b) := fun b hb => by rw [hre b hb]; exact (hsr b hb).1
 have hlids : ∀ b ∈ ids, look b = .dead \/ look b = getB E.H b := fun b _ => hk b
 simp only at hc1 hc2
 split at h
 ·
  rename_i hro;split at h
  case h_2 => cases h
  rename_i fz hfz;obtain rfl := val_ret h;obtain ⟨R0, g1, g2, g3, g4, g5⟩ := freezeAll_sound hfz hE (fun b hb _ => hre b hb)
  have hp : PassOk S.gl ⟨E.β, setBs E.H fz, E.w, R0⟩ look ids hl R0 shown := {
   hE := g1
   hlook := fun b => by
    by_cases hb : b ∈ shown
    ·obtain ⟨t, xs, lo, par, q1, q2⟩ := g5 b hb;exact .inr (.inr ⟨t, xs, lo, par, q1, q2⟩)
    ·rcases hk b with q | q
     ·exact .inl q
     ·exact .inr (.inl (q.trans (g4 b hb).symm))
   hnd := hnd
   hhl := hhl
   hlids := fun b hb => by
    rcases hk b with q | q
    ·exact .inl q
    ·exact .inr (q.trans (g4 b (fun hm => (hsr b hm).2 hb)).symm)
   sub := fun _ hk => hk
   hshown := g3
   from_ := fun _ hk => .inl hk
   hout := fun b hb => (hsr b hb).2 }
  have hreal0 : ∀ b ∈ shown, real (getB (setBs E.H fz) b) := fun b hb => by
   obtain ⟨t, xs, lo, par, q1, q2⟩ := g5 b hb;rw [q2]; trivial
  have hrep := hp.rep hreal0 hs2
  have hrel := hp.vs hvs hs1 (RelTs.ext hE g2 _ _ ha)
  refine (hsp f vs hl r' hl' hT _ us rfl hrep hrel).mono (fun u w' hq => ?_)
  obtain ⟨β', R', q1, q2, q3⟩ := hq;have hb : BackOk S.gl ⟨E.β, setBs E.H fz, E.w, R0⟩ look ids hl R0 shown nid (S.n f) ⟨β', hl', w', R'⟩ R' := {
   p := hp
   hE' := q1
   hx := q2
   hfresh := fun m hm => by
    obtain ⟨z1, z2⟩ := hn m hm;refine ⟨by show _ < (setBs E.H fz).length; rw [length_setBs]; exact z1, ?_⟩
    have : nid + m ∉ shown := fun hms => by
     have := hreal _ hms
     rw [z2] at this; exact this
    exact (g4 _ this).trans z2
   hlen1 := hc1
   hlen2 := hc2
   r1 := fun k hk => q2.ro k hk
   r2 := fun _ hk => hk
   r3 := fun k hk => by
    rcases q2.rnew k hk with z | z | ⟨j, z1, z2⟩
    ·exact .inl z
    ·exact .inr (.inl z)
    ·obtain ⟨b, y1, y2, _⟩ := hp.live z1;rw [PassOk.beta y1] at z2;exact .inr (.inr ⟨b, List.mem_of_getElem? y1, y2, z2⟩) }
  have e1 := hb.rep (.inr fun _ hk => hk)
  have e2 := g2.trans hb.ext
  have e3 := hb.s (.inr fun _ hk => hk) q3
  have hH : (caller ⟨E.β, setBs E.H fz, E.w, R0⟩ ids nid ⟨β', hl', w', R'⟩ R').H = setBs E.H (fz ++ writes ids nid (renOf ids nid) 0 hl') := (setBs_append _ _ _).symm
  refine ⟨(caller ⟨E.β, setBs E.H fz, E.w, R0⟩ ids nid ⟨β', hl', w', R'⟩ R').β, R', ?_, ?_, ?_⟩
  ·show RepH _ ⟨_, setBs E.H (fz ++ writes ids nid (renOf ids nid) 0 hl'), _, _⟩
   rw [<- hH]; exact e1
  ·show Ext _ ⟨_, setBs E.H (fz ++ writes ids nid (renOf ids nid) 0 hl'), _, _⟩
   rw [<- hH]; exact e2
  ·show RelS ⟨_, setBs E.H (fz ++ writes ids nid (renOf ids nid) 0 hl'), _, _⟩ _ _
   rw [<- hH]; exact e3
 ·
  rename_i hro;obtain rfl := val_ret h;have hro' : roS r' = false /\ hl'.any roB = false := by
   simpa [Bool.or_eq_false_iff] using hro
  have hp : PassOk S.gl E look ids hl (fun k => E.R k \/ ∃ b ∈ shown, E.β b = some k) shown := {
   hE := hE
   hlook := fun b => (hk b).elim .inl (fun q => .inr (.inl q))
   hnd := hnd
   hhl := hhl
   hlids := hlids
   sub := fun _ hk => .inl hk
   hshown := fun b hb k hk => .inr ⟨b, hb, hk⟩
   from_ := fun _ hk => hk
   hout := fun b hb => (hsr b hb).2 }
  have hrep := hp.rep hreal hs2
  have hrel := hp.vs hvs hs1 ha
  refine (hsp f vs hl r' hl' hT _ us rfl hrep hrel).mono (fun u w' hq => ?_)
  obtain ⟨β', R', q1, q2, q3⟩ := hq;have hb : BackOk S.gl E look ids hl (fun k => E.R k \/ ∃ b ∈ shown, E.β b = some k) shown nid (S.n f) ⟨β', hl', w', R'⟩ E.R := {
   p := hp
   hE' := q1
   hx := q2
   hfresh := hn
   hlen1 := hc1
   hlen2 := hc2
   r1 := fun k hk => hk
   r2 := fun k hk => q2.ro k (.inl hk)
   r3 := fun k hk => .inl hk }
  exact ⟨(caller E ids nid ⟨β', hl', w', R'⟩ E.R).β, E.R, hb.rep (.inl hro'.2), hb.ext, hb.s (.inl hro'.1) q3⟩
end Go.SX
