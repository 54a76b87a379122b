/- The buckets, whole, part 2. -/
import Derived.Test.YtdblbibjggeikaaGreatDoorE5
set_option linter.unusedSectionVars false
set_option linter.unusedVariables false
set_option linter.unusedSimpArgs false
namespace Go.Sc
open Go Go.SX Go.Proofs Go.Conc
variable [Level]
theorem ext_flat {E : Env} (h0 : E.H = []) {w' : World} (ho : w'.os = E.w.os) (ht : w'.tape = E.w.tape) (hu : w'.output = E.w.output) (hs : E.w.heap.size <= w'.heap.size) (hk : ∀ q, q < E.w.heap.size -> w'.heap[q]? = E.w.heap[q]?) : Ext E ⟨fun _ => none, [], w', E.R⟩ where
 os := ho
 tape := ht
 output := hu
 size := hs
 ro := fun _ h => h
 rnew := fun _ h => .inl h
 keep := fun q hq _ => hk q hq
 cells := fun q c e fz h => ⟨c, fz, (hk q (Array.getElem?_eq_some_iff.1 h).1).trans h, rfl⟩
 blk := fun b => by rw [h0]; trivial
 fresh := fun b q hb => by cases hb
def winS (ts : MoT) (w n i : Nat) : Int := oneV (encA ts n) ts w i n
theorem sub_self (E : Env) {R : Nat -> Prop} {w' : World} (hR : ∀ k, E.R k -> R k) (hw : ∀ (q : Nat) (o : Obj), E.w.heap[q]? = some o -> w'.heap[q]? = some o) {β : Nat -> Option Nat} {H : Heap} : SubF E ⟨β, H, w', R⟩ := fun q hq => ⟨hR q hq, fun c e fz h => ⟨fz, hw q _ h⟩⟩
theorem ptr_val {E : Env} {b k : Nat} {fs : List FCell} {v : Value} (h : RelC E (.ptr b 0 0 0 0 0) v) (hb : getB E.H b = .vals fs) (hk : E.β b = some k) : v = .pointer (some ⟨k, 0, none⟩) := by
 obtain ⟨_, hp⟩ := h;unfold RelPtr at hp;rw [hb] at hp;obtain ⟨⟨kb, h1, h2⟩, _⟩ := hp;rw [hk] at h1;obtain rfl := smI h1;exact h2
theorem ptr_rel {E : Env} {b k : Nat} {fs : List FCell} (hb : getB E.H b = .vals fs) (hk : E.β b = some k) : RelC E (.ptr b 0 0 0 0 0) (.pointer (some ⟨k, 0, none⟩)) := by
 refine ⟨trivial, ?_⟩
 unfold RelPtr;rw [hb];exact ⟨⟨k, hk, rfl⟩, .inl ⟨rfl, rfl⟩⟩
theorem sl_val {E : Env} {b k len lo : Nat} {t : DTy} {xs : List t.den} {par : List Nat} {v : Value} {c : Array Value} {e : TypeId} {fz : Nat × Nat} (h : RelC E (.sl b 0 len) v) (hb : getB E.H b = .arr t xs lo par) (hk : E.β b = some k) (hc : E.w.heap[k]? = some (.cells c e fz)) (hl : 0 < len) :
  ∃ cap, v = .slice (some ⟨k, 0, none⟩) len cap /\ len <= cap /\ cap < 9223372036854775808 /\ cap * t.size = c.size := by
 obtain ⟨_, hv⟩ := h;unfold RelSl at hv;rw [hb] at hv;obtain ⟨a, cap, h1, h2, h3, h4, h5⟩ := hv;rcases h5 with ⟨h5, h6⟩ | ⟨k', c', e', f', h5, h6, h7, h8⟩
 ·omega
 rw [hk] at h5;obtain rfl := smI h5;rw [hc] at h7;simp only [Option.some.injEq, Obj.cells.injEq] at h7;obtain ⟨rfl, _, _⟩ := h7;refine ⟨cap, ?_, h2, h3, by simpa using h8⟩
 rcases h6 with h6 | h6
 ·omega
 ·rw [h1, h6, Nat.zero_mul]
def thinF : FCell -> Bool
 | .c (.int ..) => true
 | .ws .. => true
 | _ => false
theorem relFs_thin {E E' : Env} : ∀ {fs : List FCell} {us : List Value}, fs.all thinF = true -> RelFs E fs us -> RelFs E' fs us
 | [], _, _, h => h
 | x :: t, _, ht, h => by
  obtain ⟨u, us, rfl, h1, h2⟩ := h;rw [List.all_cons, Bool.and_eq_true] at ht;refine ⟨u, us, rfl, ?_, relFs_thin ht.2 h2⟩
  have ht1 := ht.1
  unfold thinF at ht1;split at ht1
  ·exact h1
  ·exact h1
  ·cases ht1
theorem two_cells {E : Env} {x y : Bool} {n m : Int} {c : Array Value} (h : RelFs E [.c (.int x .i64 n), .c (.int y .i64 m)] c.toList) : c.toList = [.int .i64 n, .int .i64 m] := by
 obtain ⟨v1, v2, e1, ⟨u, e2, e3, _⟩, v3, v4, e4, ⟨u', e5, e6, _⟩, e7⟩ := h;have e7 : v4 = [] := e7
 rw [e1, e4, e2, e3, e5, e6, e7]; rfl
theorem two_of {c : Array Value} {x y : Value} (h : c.size = 2) (h0 : c[0]? = some x) (h1 : c[1]? = some y) : c.toList = [x, y] := by
 apply List.ext_getElem?
 intro i;rw [Array.getElem?_toList]
 match i with
 | 0 => exact h0
 | 1 => exact h1
 | i + 2 => rw [Array.getElem?_eq_none (by omega)]; rfl
theorem cellAt {w : World} {k o : Nat} {c : Array Value} {e : TypeId} {fz : Nat × Nat} (h : w.heap[k]? = some (.cells c e fz)) : w.cell? ⟨k, o, none⟩ = c[o]? := by
 unfold World.cell?;rw [h]; rfl
theorem limbs_k (x : Int) : (limbs x).length = 4 /\ ∀ y ∈ limbs x, InK .u64 y := okL_limbs x
theorem slot_ptr {E : Env} {B : Bk} {i d bb k : Nat} {a : Act} {fs : List FCell} (hs : SlotsAt B i a) (hd : getT (bwH B i).t d = vpS k) (hb : getB E.H bb = .vals fs) (hk : E.β bb = some k) : RelS E (pt bb) (a.tmps.toList.getD d undef) := by
 have := relTs_get (u := d) (hs.1 E)
 rw [hd] at this;rw [show a.tmps.toList.getD d undef = .pointer (some ⟨k, 0, none⟩) from this]
 exact ptr_rel hb hk
set_option maxHeartbeats 1000000 in
theorem bw_mid (hb0 : Level.both = false) {w n : Nat} {ts : MoT} (hw : 1 <= w /\ w <= 12) (hn : 1 <= n /\ n <= 1048576) {b : Frame} {k : List Item} {cs : List Frame} {Stop : Goroutine -> World -> Prop} (hkd : b.kind ≠ .early) {E0 E E2 : Env} (h00 : E0.H = []) (h0 : E.H = []) (x0 : Ext E0 E) (hE : RepH G0 E) (x2 : Ext E E2) {a2 : Act} (hs2 : Rp G0 E2 ⟨(bwA w ts n).t, (bwA w ts n).h ++ []⟩ a2) {w₁ : World} (g₁ : Grow E2.w w₁)
  (hz : ∀ E6 a' x y, Ext E0 E6 -> Rp G0 E6 (bwZ w (255 / w + 1) (sumR (winS ts w n) (255 / w + 1)) x y) a' -> SX.Way Tryz.prog true Stop (G (b.at a' (bwKf.tail ++ k)) cs) E6.w) :
  SX.Way Tryz.prog true Stop (G (b.at (a2.put (some 11) (.pointer (some ⟨w₁.heap.size, 0, none⟩))) (bwKa.tail ++ k)) cs) (w₁.alloc (.cells #[.int .u64 0, .int .u32 0] wgL.tWg)) := by
 obtain ⟨hN1, hN2, hN3⟩ := bwN_eq hw;have hNp : 1 <= 255 / w + 1 := Nat.succ_le_succ (Nat.zero_le _)
 generalize hNe : 255 / w + 1 = N at *
 obtain ⟨w2, hw2⟩ : ∃ w2, w2 = w₁.alloc (.cells #[.int .u64 0, .int .u32 0] wgL.tWg) := ⟨_, rfl⟩;have ga : Grow w₁ w2 := by rw [hw2]; exact grow_alloc _ _
 have hkW : w2.heap[w₁.heap.size]? = some (.cells #[.int .u64 0, .int .u32 0] wgL.tWg) := by rw [hw2]; show (w₁.heap.push _)[_]? = _; simp
 rw [<- hw2];clear hw2;obtain ⟨x3, hs3⟩ := hs2.grow (g₁.trans ga);have hb : ∀ i, getB E2.H i = getB ((bwA w ts n).h ++ []) i := fun i => by rw [hs2.eq]
 have q0 : getB E2.H 0 = .vals [.c (.int false .i64 w)] := hb 0
 have q1 : getB E2.H 1 = .vals [.c (.ro TM ts n)] := hb 1
 have q2 : getB E2.H 2 = .vals [.ws .u64 4 zL] := hb 2
 have q3 : getB E2.H 3 = .vals [.c (.int true .i64 0), .c (.int true .i64 0)] := hb 3
 have q4 : getB E2.H 4 = .vals [.ws .u64 4 zL] := hb 4
 have q5 : getB E2.H 5 = .vals [.c (.int true .i64 0), .c (.int true .i64 0)] := hb 5
 have q6 : getB E2.H 6 = .vals [.c (.ptr 5 0 0 0 0 0)] := hb 6
 have q7 : getB E2.H 7 = .arr B32 (encA ts n) 0 [] := hb 7
 have q8 : getB E2.H 8 = .vals [.c (.sl 7 0 n)] := hb 8
 have q9 : getB E2.H 9 = .arr PL (List.replicate (bwN w).toNat (mkP zL)) 0 [] := hb 9
 have q10 : getB E2.H 10 = .vals [.c (.sl 9 0 (bwN w).toNat)] := hb 10
 rw [hN3] at q9 q10;have hrep := hs3.h
 obtain ⟨k0, c0, e0, b0, m0, r0⟩ := vals_of hrep q0;obtain ⟨k1, c1, e1, b1, m1, r1⟩ := vals_of hrep q1;obtain ⟨k2, c2, e2, b2, m2, r2⟩ := vals_of hrep q2;obtain ⟨k3, c3, e3, b3, m3, r3⟩ := vals_of hrep q3;obtain ⟨k4, c4, e4, b4, m4, r4⟩ := vals_of hrep q4;obtain ⟨k5, c5, e5, b5, m5, r5⟩ := vals_of hrep q5;obtain ⟨k6, c6, e6, b6, m6, r6⟩ := vals_of hrep q6;obtain ⟨k7, c7, e7, f7, b7, m7, z7, r7⟩ := arr_of hrep q7 (by intro h; have := congrArg List.length h; rw [encA_len] at this; have : n = 0 := this; omega)
 obtain ⟨k8, c8, e8, b8, m8, r8⟩ := vals_of hrep q8;obtain ⟨k9, c9, e9, f9, b9, m9, z9, r9⟩ := arr_of hrep q9 (by intro h; have := congrArg List.length h; rw [List.length_replicate] at this; have : N = 0 := this; omega)
 obtain ⟨k10, c10, e10, b10, m10, r10⟩ := vals_of hrep q10;have hf9 : f9 = (0, 0) := z9.2.resolve_left (by intro h; cases h)
 subst hf9;have lv : ∀ {i : Nat} {x : Blk}, getB E2.H i = x -> live x = true -> live (getB E2.H i) = true := fun h1 h2 => by rw [h1]; exact h2
 have l0 := lv q0 rfl
 have l1 := lv q1 rfl
 have l2 := lv q2 rfl
 have l3 := lv q3 rfl
 have l4 := lv q4 rfl
 have l5 := lv q5 rfl
 have l6 := lv q6 rfl
 have l7 := lv q7 rfl
 have l8 := lv q8 rfl
 have l9 := lv q9 rfl
 have l10 := lv q10 rfl
 have ne : ∀ {i j ki kj : Nat}, live (getB E2.H i) = true -> live (getB E2.H j) = true -> E2.β i = some ki -> E2.β j = some kj -> i ≠ j -> ki ≠ kj := fun {i j ki kj} hi hj bi bj hij e => hij (hrep.inj i j ki hi hj bi (e ▸ bj))
 have lt2 : ∀ {i ki : Nat}, live (getB E2.H i) = true -> E2.β i = some ki -> ki < E2.w.heap.size := fun hi bi => hs2.h.lt hi bi
 have neW : ∀ {i ki : Nat}, live (getB E2.H i) = true -> E2.β i = some ki -> ki ≠ w₁.heap.size := fun hi bi => Nat.ne_of_lt (Nat.lt_of_lt_of_le (lt2 hi bi) g₁.size)
 have geE : ∀ {i ki : Nat}, live (getB E2.H i) = true -> E2.β i = some ki -> E.w.heap.size <= ki := fun hi bi => by
  rcases x2.fresh _ _ hi bi with ⟨b', h1, _⟩ | h1
  ·rw [h0] at h1; cases h1
  ·exact h1
 let B : Bk := ⟨k0, k1, k2, k3, k4, k5, k6, k7, k8, k9, k10, w₁.heap.size, N⟩
 have hlen : a2.tmps.toList.length = 59 := (relTs_len hs2.t).trans rfl
 have hset : ∀ d, d ≠ 11 -> (a2.put (some 11) (.pointer (some ⟨w₁.heap.size, 0, none⟩))).tmps.toList.getD d undef = a2.tmps.toList.getD d undef := fun d hd => by
  simp [Act.put, List.getD_eq_getElem?_getD, List.getElem?_set, Ne.symm hd]
 have hset11 : (a2.put (some 11) (.pointer (some ⟨w₁.heap.size, 0, none⟩))).tmps.toList.getD 11 undef = .pointer (some ⟨w₁.heap.size, 0, none⟩) := by
  have : 11 < a2.tmps.size := by rw [<- Array.length_toList, hlen]; decide
  simp [Act.put, List.getD_eq_getElem?_getD, this]
 have hG : Rp T0.gl (dumE w2) (bwG B) (a2.put (some 11) (.pointer (some ⟨w₁.heap.size, 0, none⟩))) := by
  refine { h := { ro := fun k hk => hk.elim, inj := fun b b' k hb => (by cases hb), blk := fun b => trivial, glob := fun g t d hg => (by cases hg) }, eq := rfl, t := relTs_slots (by simp [Act.put, hlen]) fun p hp => ?_, d := hs2.d }
  simp only [List.mem_cons, List.not_mem_nil, or_false] at hp;rcases hp with rfl | rfl | rfl | rfl | rfl | rfl | rfl | rfl | rfl | rfl
  ·exact (hset 2 (by decide)).trans (ptr_slot hs2 rfl q0 b0)
  ·exact (hset 3 (by decide)).trans (ptr_slot hs2 rfl q1 b1)
  ·exact (hset 4 (by decide)).trans (ptr_slot hs2 rfl q2 b2)
  ·exact (hset 5 (by decide)).trans (ptr_slot hs2 rfl q3 b3)
  ·exact (hset 6 (by decide)).trans (ptr_slot hs2 rfl q4 b4)
  ·exact (hset 7 (by decide)).trans (ptr_slot hs2 rfl q6 b6)
  ·exact (hset 8 (by decide)).trans (ptr_slot hs2 rfl q8 b8)
  ·have := relTs_get (u := 9) hs2.t
   have h9 : RelC E2 (.int false .i64 (bwN w)) (a2.tmps.toList.getD 9 undef) := this
   rw [hN1] at h9
   show RelC (dumE w2) (.int false .i64 N) _
   rw [hset 9 (by decide)]
   exact h9
  ·exact (hset 10 (by decide)).trans (ptr_slot hs2 rfl q10 b10)
  ·exact hset11
 refine way_pieceT (E := dumE w2) (E0 := dumE w2) okT0 mx hkd rfl (Ext.refl _) (bw_b B) rfl (by rfl) hG fun E4 a4 x4 hs4 => ?_
 have hsl4 : SlotsAt B 0 a4 := keep_thin hs4.t hs4.d (keepH B 0)
 have g4 : Grow w2 E4.w := grow_of_ext rfl x4
 obtain ⟨h5, x5⟩ := env_grow hrep g4;have get5 : ∀ (q : Nat) (o : Obj), w2.heap[q]? = some o -> E4.w.heap[q]? = some o := fun q o h => (g4.heap q (Array.getElem?_eq_some_iff.1 h).1).trans h
 obtain ⟨v0, y0, z0⟩ := one_cell r0;obtain ⟨v1, y1, z1⟩ := one_cell r1;obtain ⟨v6, y6, z6⟩ := one_cell r6;obtain ⟨v8, y8, z8⟩ := one_cell r8;obtain ⟨v10, y10, z10⟩ := one_cell r10;have fit9 : N * 4 <= c9.size := by
  have := (hrep.fits (b := 9) (.inl ⟨_, _, q9⟩)).2.2 k9 c9 e9 _ b9 m9
  rwa [List.length_replicate] at this
 have fit7 := (hrep.fits (b := 7) (.inl ⟨_, _, q7⟩)).2.2 k7 c7 e7 _ b7 m7
 obtain ⟨cap, p10, cap1, cap2, cap3⟩ := sl_val z10 q9 b9 m9 hNp;have p6 : v6 = .pointer (some ⟨k5, 0, none⟩) := ptr_val z6 q5 b5
 have hL : Lay B w ts n cap ⟨E2.β, E2.H, E4.w, E2.R⟩ := {
  rep := h5
  c0 := ⟨c0, e0, _, get5 _ _ m0, by rw [y0, z0.1], inI.mpr ⟨by omega, by omega⟩⟩
  c1 := ⟨c1, e1, _, v1, get5 _ _ m1, y1, RelC.ext hrep x5 _ _ z1⟩
  c6 := ⟨c6, e6, _, get5 _ _ m6, by rw [y6, p6]⟩
  c8 := ⟨c8, e8, _, v8, get5 _ _ m8, y8, own_ro (E := ⟨E2.β, E2.H, w2, E2.R⟩) (by rfl) (by decide) q7 b7 m7 r7 z8 hn.1 (fun q hq => ⟨.inl hq, fun c e fz h => ⟨fz, get5 _ _ h⟩⟩) (.inr rfl) (get5 _ _ m7) fit7⟩
  c10 := ⟨c10, e10, _, get5 _ _ m10, by rw [y10, p10]⟩
  apart := fun q hq => by
   rcases hq with hq | rfl | rfl | rfl | rfl | rfl | rfl
   ·obtain ⟨h1, h2⟩ := hs2.h.ro q hq;exact ⟨Nat.ne_of_lt (Nat.lt_of_lt_of_le h1 g₁.size), fun e => h2 9 l9 (e ▸ b9), fun e => h2 5 l5 (e ▸ b5)⟩
   ·exact ⟨neW l0 b0, ne l0 l9 b0 b9 (by decide), ne l0 l5 b0 b5 (by decide)⟩
   ·exact ⟨neW l1 b1, ne l1 l9 b1 b9 (by decide), ne l1 l5 b1 b5 (by decide)⟩
   ·exact ⟨neW l6 b6, ne l6 l9 b6 b9 (by decide), ne l6 l5 b6 b5 (by decide)⟩
   ·exact ⟨neW l7 b7, ne l7 l9 b7 b9 (by decide), ne l7 l5 b7 b5 (by decide)⟩
   ·exact ⟨neW l8 b8, ne l8 l9 b8 b9 (by decide), ne l8 l5 b8 b5 (by decide)⟩
   ·exact ⟨neW l10 b10, ne l10 l9 b10 b9 (by decide), ne l10 l5 b10 b5 (by decide)⟩
  l7 := (Array.getElem?_eq_some_iff.1 (get5 _ _ m7)).1
  w1 := hw
  n1 := hn.2
  N1 := hN2 }
 letI : Go.ConcR.Payload := ⟨e9⟩
 have hc5 := two_cells r5
 have hin : (bwC B w ts n c9.size e5 b k cs).In (⟨E2.β, E2.H, E4.w, E2.R⟩ : Env).w := {
  n0 := hNp
  n := by show N < 2147483648; omega
  ez := by show 0 < 4; decide
  sz := fit9
  nM := by show 0 < 2; decide
  cw := neW l9 b9
  mc := ne l5 l9 b5 b9 (by decide)
  mw := neW l5 b5
  wg := get5 _ _ hkW
  pay := ⟨c9, get5 _ _ m9, rfl⟩
  vol := ⟨c5, get5 _ _ m5, by rw [<- Array.length_toList, hc5]; rfl, fun o ho => ⟨0, by decide, by
   rw [<- Array.getElem?_toList, hc5]
   have ho : o < 2 := ho
   match o, ho with
   | 0, _ => rfl
   | 1, _ => rfl⟩⟩ }
 refine bw_crowd (e5 := e5) (sz := c9.size) hb0 hkd hL hin hsl4 fun a' w3 w' g5 hs' hA => ?_
 refine SX.Way.ctl rfl (fun _ => Conc.stepG_region_end) ?_
 obtain ⟨cs9, p1, p2⟩ := hA.pay;obtain ⟨cs5, p3, p4, p5⟩ := hA.vol;obtain ⟨x, hx1, hx2⟩ := p5 0 (by show 0 < 2; decide)
 obtain ⟨y, hy1, hy2⟩ := p5 1 (by show 1 < 2; decide)
 have hc5' := two_of p4 hx2 hy2
 have kp : ∀ (q : Nat) (o : Obj), w2.heap[q]? = some o -> q ≠ w₁.heap.size -> q ≠ k9 -> q ≠ k5 -> w'.heap[q]? = some o := fun q o h n1 n2 n3 => hA.kept.blk q o ((g5.heap q (Array.getElem?_eq_some_iff.1 (get5 _ _ h)).1).trans (get5 _ _ h)) n1 n2 n3
 have gW := g₁.trans ga
 have szW : E2.w.heap.size <= w'.heap.size := Nat.le_trans gW.size (Nat.le_trans g4.size (Nat.le_trans g5.size hA.kept.size))
 have ge9 := geE l9 b9
 have ge5 := geE l5 b5
 have keepE : ∀ q, q < E.w.heap.size -> w'.heap[q]? = E.w.heap[q]? := fun q hq => by
  have hq2 : q < E2.w.heap.size := Nat.lt_of_lt_of_le hq x2.size
  have h1 : E2.w.heap[q]? = E.w.heap[q]? := x2.keep q hq fun b' hb' => by rw [h0] at hb'; cases hb'
  have h2 : w2.heap[q]? = some E.w.heap[q] := (gW.heap q hq2).trans (h1.trans (Array.getElem?_eq_getElem hq))
  rw [kp q _ h2 (Nat.ne_of_lt (Nat.lt_of_lt_of_le hq2 g₁.size)) (by omega) (by omega), Array.getElem?_eq_getElem hq]
 have xf : Ext E ⟨fun _ => none, [], w', E.R⟩ := ext_flat h0 (hA.kept.os.trans (g5.os.trans (g4.os.trans (gW.os.trans x2.os)))) (hA.kept.tape.trans (g5.tape.trans (g4.tape.trans (gW.tape.trans x2.tape)))) (hA.kept.output.trans (g5.output.trans (g4.output.trans (gW.output.trans x2.output)))) (Nat.le_trans x2.size szW) keepE
 have hsp : ∀ (bb q : Nat), ([some k0, some k2, some k3, some k4, some k5, some k6, some k9, some k10][bb]?).getD none = some q -> ∃ i, [0, 2, 3, 4, 5, 6, 9, 10][bb]? = some i /\ E2.β i = some q /\ live (getB E2.H i) = true := fun bb q h => by
  rcases bb with _ | _ | _ | _ | _ | _ | _ | _ | n
  ·exact ⟨0, rfl, b0.trans h, l0⟩
  ·exact ⟨2, rfl, b2.trans h, l2⟩
  ·exact ⟨3, rfl, b3.trans h, l3⟩
  ·exact ⟨4, rfl, b4.trans h, l4⟩
  ·exact ⟨5, rfl, b5.trans h, l5⟩
  ·exact ⟨6, rfl, b6.trans h, l6⟩
  ·exact ⟨9, rfl, b9.trans h, l9⟩
  ·exact ⟨10, rfl, b10.trans h, l10⟩
  ·cases h
 have hge : ∀ (bb q : Nat), ([some k0, some k2, some k3, some k4, some k5, some k6, some k9, some k10][bb]?).getD none = some q -> E.w.heap.size <= q := fun bb q h => by
  obtain ⟨i, _, h2, h3⟩ := hsp bb q h;exact geE h3 h2
 have hrows : SX.Rows PL.size (RoT (mkE w' (bwZ w N (sumR (winS ts w n) N) x y).h [some k0, some k2, some k3, some k4, some k5, some k6, some k9, some k10] E.R) PL) (sumR (winS ts w n) N) 0 cs9 := fun i hi => by
  have hiN : i < N := by simpa [sumR] using hi
  obtain ⟨us, vi, hu1, hu2, _, hu3⟩ := hA.res i hiN;have hu2 : us = (limbs (winS ts w n i % ell)).map (Value.int .u64) := hu2
  refine ⟨us, ?_, hu1, fun j hj => ?_⟩
  ·rw [show (sumR (winS ts w n) N)[i] = mkP (limbs (winS ts w n i % ell)) by simp [sumR]]
   exact ⟨us, [], by simp, ⟨(limbs_k _).1, (limbs_k _).2, hu2⟩, rfl⟩
  ·rw [<- hu3 j hj, Nat.zero_add];have : w'.cell? ⟨k9, 4 * i + j, none⟩ = cs9[4 * i + j]? := cellAt p1
   rw [Nat.mul_comm i];exact this.symm
 have hrep6 : RepH G0 (mkE w' (bwZ w N (sumR (winS ts w n) N) x y).h [some k0, some k2, some k3, some k4, some k5, some k6, some k9, some k10] E.R) := by
  refine lay_rep hE (fun q hq => ⟨hq, keepE q (hE.ro q hq).1⟩) (fun q hq => ⟨Nat.lt_of_lt_of_le (hE.ro q hq).1 (Nat.le_trans x2.size szW), fun bb _ h => absurd (hge bb q h) (Nat.not_le_of_lt (hE.ro q hq).1)⟩) (fun bb bb' q _ _ h1 h2 => ?_) (fun bb hbb => ?_)
  ·obtain ⟨i, i1, i2, i3⟩ := hsp bb q h1;obtain ⟨j, j1, j2, j3⟩ := hsp bb' q h2;have hij : i = j := hrep.inj i j q i3 j3 i2 j2
   subst hij;have hnd : ([0, 2, 3, 4, 5, 6, 9, 10] : List Nat).Nodup := by decide
   exact (List.getElem?_inj (List.getElem?_eq_some_iff.1 i1).1 hnd).1 (i1.trans j1.symm)
  ·have nW : ∀ {i ki : Nat}, live (getB E2.H i) = true -> E2.β i = some ki -> i ≠ 9 -> i ≠ 5 -> ∀ o, w2.heap[ki]? = some o -> w'.heap[ki]? = some o := fun hi bi h9 h5' o ho => kp _ o ho (neW hi bi) (ne hi l9 bi b9 h9) (ne hi l5 bi b5 h5')
   match bb, hbb with
   | 0, _ => exact ⟨k0, c0, e0, _, rfl, nW l0 b0 (by decide) (by decide) _ m0, noFzV0 _, relFs_thin rfl r0⟩
   | 1, _ => exact ⟨k2, c2, e2, _, rfl, nW l2 b2 (by decide) (by decide) _ m2, noFzV0 _, relFs_thin rfl r2⟩
   | 2, _ => exact ⟨k3, c3, e3, _, rfl, nW l3 b3 (by decide) (by decide) _ m3, noFzV0 _, relFs_thin (fs := [.c (.int true .i64 0), .c (.int true .i64 0)]) rfl r3⟩
   | 3, _ => exact ⟨k4, c4, e4, _, rfl, nW l4 b4 (by decide) (by decide) _ m4, noFzV0 _, relFs_thin rfl r4⟩
   | 4, _ => exact ⟨k5, cs5, e5, _, rfl, p3, noFzV0 _, [.int .i64 x], [.int .i64 y], hc5', ⟨_, rfl, rfl, hx1⟩, [.int .i64 y], [], rfl, ⟨_, rfl, rfl, hy1⟩, rfl⟩
   | 5, _ => exact ⟨k6, c6, e6, _, rfl, nW l6 b6 (by decide) (by decide) _ m6, noFzV0 _, [v6], [], y6, ⟨v6, rfl, p6 ▸ ptr_rel rfl rfl⟩, rfl⟩
   | 6, _ => exact ⟨Nat.zero_le _, by decide, .inr ⟨k9, cs9, e9, _, rfl, p1, noFzT0 _ _, hrows⟩⟩
   | 7, _ => exact ⟨k10, c10, e10, _, rfl, nW l10 b10 (by decide) (by decide) _ m10, noFzV0 _, [v10], [], y10, ⟨v10, rfl, by
     rw [p10];exact ⟨trivial, some ⟨k9, 0, none⟩, cap, rfl, cap1, cap2, by simp [sumR], .inr ⟨k9, cs9, e9, _, rfl, .inr (by simp), p1, by rw [Nat.zero_add, p2]; exact cap3⟩⟩⟩, rfl⟩
 have x6 := lay_ext (x0.trans xf) h00 (H := (bwZ w N (sumR (winS ts w n) N) x y).h) (ks := [some k0, some k2, some k3, some k4, some k5, some k6, some k9, some k10]) (R := E.R) (fun q hq => x0.ro q hq) (fun q hq => rnew0 x0 h00 hq) (fun bb q _ h => Nat.le_trans x0.size (hge bb q h))
 have hlen' : a'.tmps.toList.length = 59 := (relTs_len (hs'.1 (dumE w'))).trans rfl
 refine hz _ a' x y x6 { h := hrep6, eq := rfl, t := relTs_slots hlen' fun p hp => ?_, d := hs'.2 }
 simp only [List.mem_cons, List.not_mem_nil, or_false] at hp;rcases hp with rfl | rfl | rfl | rfl | rfl | rfl | rfl
 ·exact slot_ptr hs' rfl rfl rfl
 ·exact slot_ptr hs' rfl rfl rfl
 ·exact slot_ptr hs' rfl rfl rfl
 ·exact slot_ptr hs' rfl rfl rfl
 ·exact slot_ptr hs' rfl rfl rfl
 ·have h9 : RelC E (.int false .i64 N) (a'.tmps.toList.getD 9 undef) := relTs_get (u := 9) (hs'.1 E)
  exact h9
 ·exact slot_ptr hs' rfl rfl rfl
def bwV (w : Nat) (ts : MoT) (n : Nat) : Int := hornU (winS ts w n) w (255 / w + 1) (255 / w + 1)
theorem bw_runs (hb0 : Level.both = false) {w n : Nat} {ts : MoT} (hw : 1 <= w /\ w <= 12) (hn : 1 <= n /\ n <= 1048576) : RZ [.code (cd Tryz.f204)] (bwS w ts n) (bwV w ts n) := by
 intro E0 E a x hm hs main Stop b k cs hb hk;have h0 : E0.H = [] := List.eq_nil_of_length_eq_zero (Nat.le_zero.1 hm)
 match main with
 | false => exact fun h => (h.elim (fun h => by cases h) fun h => by rw [hb0] at h; cases h)
 | true =>
 obtain ⟨hN1, hN2, hN3⟩ := bwN_eq hw;have hEH : E.H = [] := by have := hs.eq; exact this
 refine way_pieceT (E0 := E) okL3 mx hb hEH (Ext.refl _) (bw_a w ts n) ?_ (by rfl) hs fun E2 a2 x2 hs2 => ?_
 ·rw [deT hn.2, deT (show (w : Int) ≠ 0 by omega), deT (show 0 <= bwN w /\ bwN w <= bwN w /\ bwN w <= 281474976710656 /\ ((Tryz.prog.bytesOf 35 : Nat) : Int) * bwN w <= 281474976710656 from ?_)]
  ·have : (((n : Nat) : Int) == 0) = false := beq_false_of_ne (by omega)
   rw [this]
  ·have hb : Tryz.prog.bytesOf 35 = 32 := by kernel_rfl
   rw [hb, hN1];omega
 rw [bw_a0, List.cons_append];refine way_hold okL3 mx hb (bw_h8 _) rfl hs2 fun E3 a3 x3 hs3 => ?_
 rw [show (hdOps bwKa).size - 1 = 0 from sz8]
 refine way_alloc o8_at (o8_w _) hb o8_op wgH.zeroValue_tWg fun w₁ g₁ => ?_
 rw [o8_dst];refine SX.Way.ctl rfl (fun _ => Conc.stepG_region_end) ?_
 refine bw_mid hb0 hw hn hb (E0 := E0) (E := E) h0 hEH x hs.h (x2.trans x3) hs3 g₁ fun E6 a' x' y' x6 hs6 => ?_
 exact z_runs hw.2 ⟨Nat.succ_le_succ (Nat.zero_le _), hN2⟩ E0 E6 a' x6 hm hs6 true Stop b k cs hb hk
end Go.Sc
