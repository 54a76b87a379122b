/- The buckets' body: its pieces. -/
import Derived.Test.YtdblbibjggeikaaGreatDoorE2
import Derived.Test.YtdblbibjggeikaaGreatDoorE3
import Derived.Test.YtdblbibjggeikaaGreatDoorC3
set_option linter.unusedSectionVars false
set_option linter.unusedVariables false
set_option linter.unusedSimpArgs false
namespace Go.Sc
open Go Go.SX Go.Proofs
variable [Level]
def hdOps : List Item -> Array Oper
 | .code (.region _ ops _) :: _ => ops
 | _ => #[]
def hdId : List Item -> Nat
 | .code (.region i _ _) :: _ => i
 | _ => 0
def hdDraw : List Item -> Bool
 | .code (.region _ _ d) :: _ => d
 | _ => false
noncomputable def bwS (w : Int) (ts : MoT) (n : Nat) : St := ⟨enterT Tryz.f204 [.c (.int false .i64 w), .c (.ro TM ts n)], []⟩
noncomputable def bwR (f : Nat) (k : List Item) (s : St) : Tree Out := runK L3 Tryz.prog noLoops f k s
noncomputable def bwKa : List Item := leftT [false, true, true, true] (bwR 18 [.code (cd Tryz.f204)] (bwS 0 [] 0))
def zL : List Int := [0, 0, 0, 0]
def bwN (w : Int) : Int := iw (iw (Int.tdiv 255 w) + 1)
noncomputable def bwA (w : Int) (ts : MoT) (n : Nat) : St :=
 ⟨slotsOf 59 [(2, pt 0), (3, pt 1), (4, pt 2), (5, pt 3), (6, pt 4), (7, pt 6), (8, pt 8), (9, one (.int false .i64 (bwN w))), (10, pt 10)],
  [.vals [.c (.int false .i64 w)], .vals [.c (.ro TM ts n)], .vals [.ws .u64 4 zL], .vals [.c (.int true .i64 0), .c (.int true .i64 0)], .vals [.ws .u64 4 zL], .vals [.c (.int true .i64 0), .c (.int true .i64 0)], .vals [.c (.ptr 5 0 0 0 0 0)],
   .arr B32 (encA ts n) 0 [], .vals [.c (.sl 7 0 n)], .arr PL (List.replicate (bwN w).toNat (mkP zL)) 0 [], .vals [.c (.sl 9 0 (bwN w).toNat)]]⟩
theorem bw_a (w : Int) (ts : MoT) (n : Nat) : pieceT [2, 3, 4, 5, 6, 7, 8, 9, 10] [] (List.range 11) [false, true, true, true] (bwR 18 [.code (cd Tryz.f204)] (bwS w ts n)) =
  some ([((n : Nat) : Int) == 0, decide (n <= 1048576), decide (w ≠ 0), decide (0 <= bwN w /\ bwN w <= bwN w /\ bwN w <= 281474976710656 /\ ((Tryz.prog.bytesOf 35 : Nat) : Int) * bwN w <= 281474976710656)], bwKa, bwA w ts n) := by kernel_rfl
theorem bw_a0 : bwKa = .code (.region (hdId bwKa) (hdOps bwKa) (hdDraw bwKa)) :: bwKa.tail := by kernel_rfl
noncomputable def ops8 : Array Oper := hdOps bwKa
noncomputable def o8 : Oper := ops8.getD 0 default
theorem o8_at : ops8[0]? = some o8 := by kernel_rfl
theorem o8_op : o8.op = .alloc wgL.tWg := by kernel_rfl
theorem o8_dst : o8.dst = some 11 := by kernel_rfl
theorem o8_w (ts : Array Value) : Region.wanted o8 (yielded ops8 ts) = true := by kernel_rfl
def T0 : Tab := Tab.empty (fun _ => none)
theorem okT0 : SpecOk Tryz.prog T0 := SpecOk.empty
noncomputable def tR (f : Nat) (k : List Item) (s : St) : Tree Out := runK T0 Tryz.prog noLoops f k s
structure Bk where
 k0 : Nat
 k1 : Nat
 k2 : Nat
 k3 : Nat
 k4 : Nat
 k5 : Nat
 k6 : Nat
 k7 : Nat
 k8 : Nat
 k9 : Nat
 k10 : Nat
 kW : Nat
 N : Nat
def vpS (k : Nat) : SV := one (.vptr ⟨k, 0, none⟩)
def Bk.sl (B : Bk) : List (Nat × SV) := [(2, vpS B.k0), (3, vpS B.k1), (4, vpS B.k2), (5, vpS B.k3), (6, vpS B.k4), (7, vpS B.k6), (8, vpS B.k8), (9, one (.int false .i64 B.N)), (10, vpS B.k10), (11, vpS B.kW), (28, one (.int false .i64 B.N))]
def bwH (B : Bk) (i : Int) : St := ⟨slotsOf 59 (B.sl ++ [(29, one (.int false .i64 i))]), []⟩
def bwI (B : Bk) (i : Int) : St := ⟨slotsOf 59 (B.sl ++ [(12, pt 0), (29, one (.int false .i64 i))]), [.vals [.c (.int false .i64 i)]]⟩
def bwG (B : Bk) : St := ⟨slotsOf 59 [(2, vpS B.k0), (3, vpS B.k1), (4, vpS B.k2), (5, vpS B.k3), (6, vpS B.k4), (7, vpS B.k6), (8, vpS B.k8), (9, one (.int false .i64 B.N)), (10, vpS B.k10), (11, vpS B.kW)], []⟩
def kpH : List Nat := [2, 3, 4, 5, 6, 7, 8, 9, 10, 11, 28, 29]
noncomputable def bwKc : List Item := leftT [] (tR 10 bwKa.tail (bwG ⟨0, 0, 0, 0, 0, 0, 0, 0, 0, 0, 0, 0, 0⟩))
theorem bw_b (B : Bk) : pieceT kpH [29] [] [] (tR 10 bwKa.tail (bwG B)) = some ([], bwKc, bwH B (0 : Nat)) := by kernel_rfl
noncomputable def bwKd : List Item := leftT [true] (tR 10 bwKc (bwH ⟨0, 0, 0, 0, 0, 0, 0, 0, 0, 0, 0, 0, 0⟩ 0))
theorem bw_c (B : Bk) (i : Nat) : pieceT (12 :: kpH) [] [0] [true] (tR 10 bwKc (bwH B i)) = some ([decide ((i : Int) < B.N)], bwKd, bwI B i) := by kernel_rfl
noncomputable def bwKf : List Item := leftT [false] (tR 6 bwKc (bwH ⟨0, 0, 0, 0, 0, 0, 0, 0, 0, 0, 0, 0, 0⟩ 0))
theorem bw_d (B : Bk) (i : Nat) : pieceT kpH [] [] [false] (tR 6 bwKc (bwH B i)) = some ([decide ((i : Int) < B.N)], bwKf, bwH B i) := by kernel_rfl
theorem bw_d0 : bwKd = .code (.region (hdId bwKd) (hdOps bwKd) (hdDraw bwKd)) :: bwKd.tail := by kernel_rfl
theorem bw_d1 : bwKd.tail = .code (.region (hdId bwKd.tail) (hdOps bwKd.tail) (hdDraw bwKd.tail)) :: bwKd.tail.tail := by kernel_rfl
theorem bw_f0 : bwKf = .code (.region (hdId bwKf) (hdOps bwKf) (hdDraw bwKf)) :: bwKf.tail := by kernel_rfl
noncomputable def bwKe : List Item := bwKd.tail.tail
theorem bw_e (B : Bk) (i : Nat) : pieceT kpH [] [] [] (tR 10 bwKe (bwH B i)) = some ([], bwKc, bwH B (iw ((i : Int) + 1))) := by kernel_rfl
noncomputable def ops12 : Array Oper := hdOps bwKd
noncomputable def o12 : Oper := ops12.getD 0 default
theorem o12_at : ops12[0]? = some o12 := by kernel_rfl
noncomputable def at12 : Array TypeId := match o12.op with | .call c => c.argTypes | _ => #[]
theorem o12_op : o12.op = .call { callee := .value (.func wgL.add), args := #[.tmp 11, .const (.int .i64 1)], argTypes := at12 } := by kernel_rfl
theorem o12_w (ts : Array Value) : Region.wanted o12 (yielded ops12 ts) = true := by kernel_rfl
theorem o12_dst : o12.dst = some 32 := by kernel_rfl
theorem bw_h12 (B : Bk) (i : Nat) : (runHold T0 Tryz.prog ops12 (bwI B i)).path [] = some ([], bwI B i) := by kernel_rfl
noncomputable def ops13 : Array Oper := hdOps bwKd.tail
noncomputable def o13 : Oper := ops13.getD 1 default
theorem o13_at : ops13[1]? = some o13 := by kernel_rfl
noncomputable def at13 : Array TypeId := match o13.op with | .go c => c.argTypes | _ => #[]
theorem o13_op : o13.op = .go { callee := .value (.tmp 33), args := #[], argTypes := at13 } := by kernel_rfl
theorem o13_w (ts : Array Value) : Region.wanted o13 (yielded ops13 ts) = true := by kernel_rfl
theorem o13_dst : o13.dst = none := by kernel_rfl
def bwJ (B : Bk) (i : Int) : St := ⟨slotsOf 59 (B.sl ++ [(12, pt 0), (29, one (.int false .i64 i)), (33, one (.fn 236 [.vptr ⟨B.kW, 0, none⟩, .vptr ⟨B.k6, 0, none⟩, .vptr ⟨B.k0, 0, none⟩, .ptr 0 0 0 0 0 0, .vptr ⟨B.k1, 0, none⟩, .vptr ⟨B.k8, 0, none⟩, .vptr ⟨B.k10, 0, none⟩]))]), [.vals [.c (.int false .i64 i)]]⟩
theorem bw_h13 (B : Bk) (i : Nat) : (runHold T0 Tryz.prog ops13 (bwI B i)).path [] = some ([], bwJ B i) := by kernel_rfl
noncomputable def ops15 : Array Oper := hdOps bwKf
noncomputable def o15 : Oper := ops15.getD 0 default
theorem o15_at : ops15[0]? = some o15 := by kernel_rfl
noncomputable def at15 : Array TypeId := match o15.op with | .call c => c.argTypes | _ => #[]
theorem o15_op : o15.op = .call { callee := .value (.func wgL.wait), args := #[.tmp 11], argTypes := at15 } := by kernel_rfl
theorem o15_w (ts : Array Value) : Region.wanted o15 (yielded ops15 ts) = true := by kernel_rfl
theorem o15_dst : o15.dst = some 35 := by kernel_rfl
theorem bw_h15 (B : Bk) (i : Nat) : (runHold T0 Tryz.prog ops15 (bwH B i)).path [] = some ([], bwH B i) := by kernel_rfl
noncomputable def wkC : Code := cd Tryz.f236
noncomputable def wkKa : List Item := leftT [] (tR 1 [.code wkC] ⟨[], []⟩)
theorem wk_a0 : wkKa = .code (.region (hdId wkKa) (hdOps wkKa) (hdDraw wkKa)) :: wkKa.tail := by kernel_rfl
theorem wk_a1 : wkKa.tail = [.code (.region (hdId wkKa.tail) (hdOps wkKa.tail) (hdDraw wkKa.tail))] := by kernel_rfl
noncomputable def opsD : Array Oper := hdOps wkKa
noncomputable def oD : Oper := opsD.getD 0 default
theorem oD_at : opsD[0]? = some oD := by kernel_rfl
theorem oD_sz : opsD.size - 1 = 0 := by kernel_rfl
noncomputable def atD : Array TypeId := match oD.op with | .defer c => c.argTypes | _ => #[]
theorem oD_op : oD.op = .defer { callee := .value (.func wgL.done), args := #[.tmp 0], argTypes := atD } := by kernel_rfl
theorem oD_w (ts : Array Value) : Region.wanted oD (yielded opsD ts) = true := by kernel_rfl
theorem oD_dst : oD.dst = none := by kernel_rfl
noncomputable def opsW : Array Oper := hdOps wkKa.tail
noncomputable def oW : Oper := opsW.getD 9 default
theorem oW_at : opsW[9]? = some oW := by kernel_rfl
theorem oW_sz : opsW.size - 1 = 9 := by kernel_rfl
theorem oW_op : oW.op = .store 35 (.tmp 15) (.tmp 14) := by kernel_rfl
theorem oW_w (ts : Array Value) : Region.wanted oW (yielded opsW ts) = true := by kernel_rfl
theorem oW_dst : oW.dst = none := by kernel_rfl
noncomputable def wkS (B : Bk) (cap : Nat) (w i : Int) (ts : MoT) (n : Nat) (bss : List (List Int)) : St :=
 ⟨slotsOf 16 [(0, vpS B.kW), (1, one (.rptr .vp (⟨B.k5, 0, none⟩ : Addr) 0 0)), (2, one (.rptr (.int .i64) w 0 0)), (3, one (.rptr (.int .i64) i 0 0)), (4, one (.rptr (.sl TM) (ts, n) 0 0)), (5, one (.rptr (.sl B32) (bss, n) 0 0)),
  (6, one (.rptr .ref (.raw (some (⟨B.k9, 0, none⟩ : Addr)) B.N cap) 0 0))], []⟩
noncomputable def wkT (B : Bk) (cap : Nat) (w i : Nat) (ts : MoT) (n : Nat) (bss : List (List Int)) : Option (List Bool × SV × SV × Nat) :=
 match (runHold (K4 B.k5) Tryz.prog opsW (wkS B cap w i ts n bss)).path [false, false, true, true] with
 | some (bs, s) => some (bs, getT s.t 14, getT s.t 15, s.h.length)
 | none => none
theorem wk_b (B : Bk) (cap w i : Nat) (ts : MoT) (n : Nat) (bss : List (List Int)) : wkT B cap w i ts n bss =
  some ([false, false, decide ((⟨B.k5, 0, none⟩ : Addr) = ⟨B.k5, 0, none⟩ /\ (1 <= (w : Int) /\ (w : Int) <= 12) /\ (0 <= (i : Int) /\ (i : Int) <= 300) /\ n <= n /\ n = bss.length /\ n <= 1048576 /\ ∀ bs ∈ bss, ∀ x ∈ bs, 0 <= x /\ x <= 255), decide (0 <= (i : Int) /\ (i : Int) < B.N)],
   .one (ws (limbs (oneV bss ts w i n % ell))), one (.vptr ((⟨B.k9, 0, none⟩ : Addr).add (i * 4))), 0) := by kernel_rfl
theorem wkf_at : Tryz.prog.funcs[236]? = some Tryz.f236 := by kernel_rfl
theorem wkf_body : Tryz.f236.body = some wkC := by kernel_rfl
theorem wkf_nm : (Tryz.f236.name == "runtime.NumGoroutine") = false := by kernel_rfl
theorem wkf_res : Tryz.f236.results = #[] := by kernel_rfl
theorem wkf_q : (Tryz.prog.funcs[236]?).any (·.norace) = false := by kernel_rfl
theorem wkf_n : Tryz.f236.ntmps = 16 := by kernel_rfl
end Go.Sc
namespace Go.Sc
open Go Go.SX Go.Proofs Go.Conc
variable [Level]
def thinS : SV -> Bool
 | .any => true
 | .one (.c (.int ..)) => true
 | .one (.c (.vptr _)) => true
 | _ => false
theorem relTs_thin {E E' : Env} : ∀ {t : List SV} {us : List Value}, t.all thinS = true -> RelTs E t us -> RelTs E' t us
 | [], _, _, h => h
 | x :: t, _, ht, h => by
  obtain ⟨u, us, rfl, h1, h2⟩ := h;rw [List.all_cons, Bool.and_eq_true] at ht;refine ⟨u, us, rfl, ?_, relTs_thin ht.2 h2⟩
  have ht1 := ht.1
  unfold thinS at ht1;split at ht1
  ·trivial
  ·exact h1
  ·exact h1
  ·cases ht1
theorem Rp.slot {G : GlobT} {E : Env} {s : St} {a : Act} {ds : List Deferred} (h : Rp G E s a ds) (t : Nat) : RelS E (getT s.t t) (a.eval (.tmp t)) := by
 have := relTs_get (u := t) h.t
 have he : a.eval (.tmp t) = a.tmps.toList.getD t undef := by simp [Act.eval, Array.getD_eq_getD_getElem?, List.getD_eq_getElem?_getD]
 rw [he]; exact this
def SlotsAt (B : Bk) (i : Nat) (a : Act) : Prop := (∀ E, RelTs E (bwH B i).t a.tmps.toList) /\ a.defers = []
noncomputable def bwC (B : Bk) (w : Nat) (ts : MoT) (n sz : Nat) (e5 : TypeId) (b : Frame) (k : List Item) (cs : List Frame) : Cw where
 P := Tryz.prog
 L := wgL
 Wg := B.kW
 C := B.k9
 mt := B.k5
 tyM := e5
 nM := 2
 n := B.N
 ez := 4
 sz := sz
 l0 := 0
 Shun := fun _ => False
 w0 := default
 T0 := 0
 ob0 := fun _ => .off
 R := fun i us _ => us = (limbs (oneV (encA ts n) ts w i n % ell)).map (Value.int .u64)
 Hd := fun i g => (∃ a, SlotsAt B i a /\ g = G (b.at a (bwKc ++ k)) cs) \/ (∃ j a, i = j + 1 /\ SlotsAt B j a /\ g = G (b.at a (.inRegion ops13 [] :: (bwKe ++ k))) cs)
 Kg := fun g => ∃ a, SlotsAt B B.N a /\ g = G (b.at a (.inRegion ops15 [] :: (bwKf.tail ++ k))) cs
structure Lay (B : Bk) (w : Nat) (ts : MoT) (n cap : Nat) (E : Env) : Prop where
 rep : RepH G0 E
 c0 : ∃ cs e fz, E.w.heap[B.k0]? = some (.cells cs e fz) /\ cs.toList = [.int .i64 w] /\ InK .i64 w
 c1 : ∃ cs e fz v, E.w.heap[B.k1]? = some (.cells cs e fz) /\ cs.toList = [v] /\ RoSl E TM.size (RoT E TM) ts n v
 c6 : ∃ cs e fz, E.w.heap[B.k6]? = some (.cells cs e fz) /\ cs.toList = [.pointer (some ⟨B.k5, 0, none⟩)]
 c8 : ∃ cs e fz v, E.w.heap[B.k8]? = some (.cells cs e fz) /\ cs.toList = [v] /\ RoSl ⟨E.β, E.H, E.w, fun k => E.R k \/ k = B.k7⟩ B32.size (RoT ⟨E.β, E.H, E.w, fun k => E.R k \/ k = B.k7⟩ B32) (encA ts n) n v
 c10 : ∃ cs e fz, E.w.heap[B.k10]? = some (.cells cs e fz) /\ cs.toList = [.slice (some ⟨B.k9, 0, none⟩) B.N cap]
 apart : ∀ k, (E.R k \/ k = B.k0 \/ k = B.k1 \/ k = B.k6 \/ k = B.k7 \/ k = B.k8 \/ k = B.k10) -> k ≠ B.kW /\ k ≠ B.k9 /\ k ≠ B.k5
 l7 : B.k7 < E.w.heap.size
 w1 : 1 <= w /\ w <= 12
 n1 : n <= 1048576
 N1 : B.N <= 300
structure Shows (B : Bk) (v v1 : World) : Prop where
 size : v.heap.size <= v1.heap.size
 blk : ∀ b cc e fz, v.heap[b]? = some (.cells cc e fz) -> b ≠ B.kW -> b ≠ B.k9 -> b ≠ B.k5 -> ∃ fz', v1.heap[b]? = some (.cells cc e fz')
theorem Shows.grow {B : Bk} {v v1 v2 : World} (h : Shows B v v1) (g : Grow v1 v2) : Shows B v v2 := ⟨Nat.le_trans h.size g.size, fun b cc e fz hb h1 h2 h3 => by
 obtain ⟨fz', q⟩ := h.blk b cc e fz hb h1 h2 h3;exact ⟨fz', (g.heap b (Array.getElem?_eq_some_iff.1 q).1).trans q⟩⟩
theorem wk_aK (mt : Nat) (s : St) : (runK (K4 mt) Tryz.prog noLoops 1 [.code wkC] s).path [] = some ([], .stop wkKa s) := by kernel_rfl
theorem wk_hK (mt : Nat) (s : St) : (runHold (K4 mt) Tryz.prog opsD s).path [] = some ([], ⟨s.t, s.h ++ []⟩) := by kernel_rfl
theorem addr_add (k o : Nat) : (⟨k, 0, none⟩ : Addr).add o = ⟨k, o, none⟩ := by unfold Addr.add; split <;> simp_all
section
variable [Go.ConcR.Payload] {B : Bk} {w n sz cap i : Nat} {ts : MoT} {E : Env} {e5 : TypeId} {b : Frame} {k : List Item} {cs : List Frame}
theorem wk_way (hv : VolAt B.k5) (hL : Lay B w ts n cap E) (hcw : B.k9 ≠ B.kW) (hsz : B.N * 4 <= sz) {v1 : World} (hS : Shows B E.w v1) {kI : Nat} {cI : Array Value} {eI : TypeId} {fzI : Nat × Nat} (hI : v1.heap[kI]? = some (.cells cI eI fzI)) (hIc : cI.toList = [.int .i64 i]) (hi : i < B.N)
  {us : Array Value} (hus : us = #[.pointer (some ⟨B.kW, 0, none⟩), .pointer (some ⟨B.k6, 0, none⟩), .pointer (some ⟨B.k0, 0, none⟩), .pointer (some ⟨kI, 0, none⟩), .pointer (some ⟨B.k1, 0, none⟩), .pointer (some ⟨B.k8, 0, none⟩), .pointer (some ⟨B.k10, 0, none⟩)]) :
  SX.Way Tryz.prog false ((bwC B w ts n sz e5 b k cs).AtPut i) (born Tryz.prog { target := .fn (.func 236) us, args := #[] }) v1 := by
 have hkd : ((baseD 236).kind ≠ .early) := by simp [baseD]
 have hN := hL.N1
 have hw1 := hL.w1
 let Ew : Env := ⟨fun _ => none, [], v1, fun q => (E.R q \/ q = B.k0 \/ q = B.k1 \/ q = B.k6 \/ q = B.k7 \/ q = B.k8 \/ q = B.k10) \/ q = kI⟩
 have hget : ∀ q, (E.R q \/ q = B.k0 \/ q = B.k1 \/ q = B.k6 \/ q = B.k7 \/ q = B.k8 \/ q = B.k10) -> ∀ cc e fz, E.w.heap[q]? = some (.cells cc e fz) -> ∃ fz', v1.heap[q]? = some (.cells cc e fz') := fun q hq cc e fz h => by
  obtain ⟨a1, a2, a3⟩ := hL.apart q hq;exact hS.blk q cc e fz h a1 a2 a3
 have hsub : SubF E Ew := fun q hq => ⟨.inl (.inl hq), hget q (.inl hq)⟩
 have hsub7 : SubF ⟨E.β, E.H, E.w, fun k => E.R k \/ k = B.k7⟩ Ew := fun q hq => ⟨.inl (hq.elim .inl fun h => .inr (.inr (.inr (.inr (.inl h))))), hget q (hq.elim .inl fun h => .inr (.inr (.inr (.inr (.inl h)))))⟩
 obtain ⟨x0, e0, f0, q0, p0, p0'⟩ := hL.c0;obtain ⟨x1, e1, f1, u1, q1, p1, p1'⟩ := hL.c1;obtain ⟨x6, e6, f6, q6, p6⟩ := hL.c6;obtain ⟨x8, e8, f8, u8, q8, p8, p8'⟩ := hL.c8;obtain ⟨x10, e10, f10, q10, p10⟩ := hL.c10;obtain ⟨f0', q0'⟩ := hget _ (.inr (.inl rfl)) _ _ _ q0;obtain ⟨f1', q1'⟩ := hget _ (.inr (.inr (.inl rfl))) _ _ _ q1;obtain ⟨f6', q6'⟩ := hget _ (.inr (.inr (.inr (.inl rfl)))) _ _ _ q6;obtain ⟨f8', q8'⟩ := hget _ (.inr (.inr (.inr (.inr (.inr (.inl rfl)))))) _ _ _ q8;obtain ⟨f10', q10'⟩ := hget _ (.inr (.inr (.inr (.inr (.inr (.inr rfl)))))) _ _ _ q10;have hlt : ∀ {q : Nat} {o : Obj}, v1.heap[q]? = some o -> q < v1.heap.size := fun h => (Array.getElem?_eq_some_iff.1 h).1
 have hrep : RepH G0 Ew := ro_rep hL.rep hsub fun q hq => by
  rcases hq with (hq | rfl | rfl | rfl | rfl | rfl | rfl) | rfl
  ·exact Nat.lt_of_lt_of_le (hL.rep.ro q hq).1 hS.size
  ·exact hlt q0'
  ·exact hlt q1'
  ·exact hlt q6'
  ·exact Nat.lt_of_lt_of_le hL.l7 hS.size
  ·exact hlt q8'
  ·exact hlt q10'
  ·exact hlt hI
 have hR : ∀ q, (q = B.k0 \/ q = B.k1 \/ q = B.k6 \/ q = B.k7 \/ q = B.k8 \/ q = B.k10) -> Ew.R q := fun q hq => .inl (.inr hq)
 have hRp : Rp (K4 B.k5).gl Ew (wkS B cap w i ts n (encA ts n)) { tmps := us ++ Array.replicate (Tryz.f236.ntmps - us.size) undef, defers := [] } := by
  refine ⟨hrep, rfl, ?_, rfl⟩
  rw [wkf_n];refine relTs_slots (by rw [hus]; rfl) fun p hp => ?_
  rw [hus];simp only [List.mem_cons, List.not_mem_nil, or_false] at hp;rcases hp with rfl | rfl | rfl | rfl | rfl | rfl | rfl
  ·exact (show RelC Ew (.vptr ⟨B.kW, 0, none⟩) _ from rfl)
  ·refine (show RelRp Ew .vp _ 0 0 _ from ?_)
   exact rp_var (hR _ (by simp)) q6' p6
  ·refine (show RelRp Ew (.int .i64) _ 0 0 _ from ?_)
   exact rp_var (hR _ (by simp)) q0' ⟨p0, p0'⟩
  ·refine (show RelRp Ew (.int .i64) _ 0 0 _ from ?_)
   exact rp_var (.inr rfl) hI ⟨hIc, inI.mpr ⟨by omega, by omega⟩⟩
  ·refine (show RelRp Ew (.sl TM) _ 0 0 _ from ?_)
   exact rp_var (hR _ (by simp)) q1' ⟨_, p1, RoSl.onSubF hsub (fun a vs h => RoT.subF hsub _ _ _ (by rfl) h) p1'⟩
  ·refine (show RelRp Ew (.sl B32) _ 0 0 _ from ?_)
   exact rp_var (hR _ (by simp)) q8' ⟨_, p8, RoSl.onSubF hsub7 (fun a vs h => RoT.subF hsub7 _ _ _ (by rfl) h) p8'⟩
  ·refine (show RelRp Ew .ref _ 0 0 _ from ?_)
   exact rp_var (hR _ (by simp)) q10' ⟨_, p10, rfl⟩
 refine way_born wkf_at wkf_body wkf_nm ?_
 refine way_piece (okK4 hv) mx hkd (kk := []) (wk_aK B.k5 _) rfl hRp fun E1 a1 x1 hs1 => ?_
 rw [wk_a0, List.cons_append];refine way_hold (okK4 hv) mx hkd (wk_hK B.k5 _) rfl hs1 fun E2 a2 x2 hs2 => ?_
 rw [show (hdOps wkKa).size - 1 = 0 from oD_sz]
 refine way_defer oD_at (oD_w _) hkd oD_op ?_
 have h0 : a2.eval (.tmp 0) = .pointer (some ⟨B.kW, 0, none⟩) := Rp.slot hs2 0
 have hd2 : a2.defers = [] := hs2.d
 have ha : Act.put ⟨a2.tmps, dcall wgL.done ((#[Operand.tmp 0] : Array Operand).map a2.eval) :: a2.defers⟩ oD.dst undef = ⟨a2.tmps, [dcall wgL.done #[.pointer (some ⟨B.kW, 0, none⟩)]]⟩ := by
  rw [oD_dst, hd2];simp [Act.put, h0]
 rw [ha];refine SX.Way.ctl rfl (fun _ => Conc.stepG_region_end) ?_
 have hs3 : Rp (K4 B.k5).gl E2 (wkS B cap w i ts n (encA ts n)) ⟨a2.tmps, [dcall wgL.done #[.pointer (some ⟨B.kW, 0, none⟩)]]⟩ [dcall wgL.done #[.pointer (some ⟨B.kW, 0, none⟩)]] := ⟨hs2.h, hs2.eq, hs2.t, rfl⟩
 rw [wk_a1, List.append_nil];have hb := wk_b B cap w i ts n (encA ts n)
 unfold wkT at hb;split at hb
 case h_2 => cases hb
 rename_i bs s hpath;simp only [Option.some.injEq, Prod.mk.injEq] at hb;obtain ⟨hb1, hb2, hb3, _⟩ := hb;refine way_hold (okK4 hv) mx hkd hpath ?_ hs3 fun E4 a4 x4 hs4 => ?_
 ·rw [hb1, deT (show True /\ (1 <= (w : Int) /\ (w : Int) <= 12) /\ (0 <= (i : Int) /\ (i : Int) <= 300) /\ n <= n /\ n = (encA ts n).length /\ n <= 1048576 /\ ∀ bs ∈ encA ts n, ∀ x ∈ bs, 0 <= x /\ x <= 255 from
   ⟨trivial, by omega, by omega, Nat.le_refl _, (encA_len ts n).symm, hL.n1, encA_bd ts n⟩), deT (show 0 <= (i : Int) /\ (i : Int) < B.N from ⟨by omega, by omega⟩)]
 rw [show (hdOps wkKa.tail).size - 1 = 9 from oW_sz]
 have h14 := Rp.slot hs4 14
 have h15 := Rp.slot hs4 15
 rw [hb2] at h14;rw [hb3] at h15;have h15 : a4.eval (.tmp 15) = .pointer (some ((⟨B.k9, 0, none⟩ : Addr).add (i * 4))) := h15
 obtain ⟨c14, hc14, hr14⟩ := h14;obtain ⟨v1', v2', hv12, ⟨_, _, hv1⟩, hv2⟩ := hr14;have hv2 : v2' = [] := hv2
 subst hv2;rw [List.append_nil] at hv12;refine SX.Way.stop fun w₁ _ => ?_
 refine atPut (c := bwC B w ts n sz e5 b k cs) wgH wkf_at wkf_res wkf_q hs4.d oW_at (oW_w _) oW_dst oW_op (us := (limbs (oneV (encA ts n) ts w i n % ell)).map (Value.int .u64)) ?_ ?_ ?_ (show 0 < 4 by decide) ?_ ?_ hi (show B.N * 4 <= sz from hsz) hcw rfl
 ·rw [h15, addr_add, Nat.mul_comm]; rfl
 ·rw [hc14]
  show c14.toList = _
  rw [hv12, hv1]
 ·rfl
 ·show Tryz.prog.cellsOf 35 = 4
  kernel_rfl
 ·intro u hu;obtain ⟨x, _, rfl⟩ := List.mem_map.1 hu;trivial
end
theorem grow_of_ext {E0 E : Env} (h0 : E0.H = []) (x : Ext E0 E) : Grow E0.w E.w := ⟨x.os, x.tape, x.output, x.size, fun k hk => x.keep k hk fun b hb => by rw [h0] at hb; cases hb⟩
theorem keep_thin {B : Bk} {i : Nat} {E : Env} {s : St} {a : Act} (h : RelTs E s.t a.tmps.toList) (hd : a.defers = []) (e : keepT kpH [] 0 s.t = (bwH B i).t) : SlotsAt B i a := by
 have := cut_t (ids := []) (keep := kpH) (n := 0) h
 rw [e] at this;exact ⟨fun E' => relTs_thin (by rfl) this, hd⟩
theorem slots_rp {B : Bk} {i : Nat} {a : Act} (h : SlotsAt B i a) (v : World) : Rp T0.gl (dumE v) (bwH B i) a :=
 { h := { ro := fun k hk => hk.elim, inj := fun b b' k hb => (by cases hb), blk := fun b => trivial, glob := fun g t d hg => (by cases hg) }, eq := rfl, t := h.1 _, d := h.2 }
theorem sz12 : (hdOps bwKd).size - 1 = 0 := by kernel_rfl
theorem sz13 : (hdOps bwKd.tail).size - 1 = 1 := by kernel_rfl
theorem sz15 : (hdOps bwKf).size - 1 = 0 := by kernel_rfl
theorem keepH (B : Bk) (i : Nat) : keepT kpH [] 0 (bwH B i).t = (bwH B i).t := by kernel_rfl
theorem keepJ (B : Bk) (i : Nat) : keepT kpH [] 0 (bwJ B i).t = (bwH B i).t := by kernel_rfl
theorem set32 (B : Bk) (i : Nat) : setT (bwI B i).t 32 .any = (bwI B i).t := by kernel_rfl
theorem set35 (B : Bk) (i : Nat) : setT (bwH B i).t 35 .any = (bwH B i).t := by kernel_rfl
theorem Rp.putAny {G : GlobT} {E : Env} {s : St} {a : Act} {ds : List Deferred} (h : Rp G E s a ds) {d : Nat} (v : Value) (he : setT s.t d .any = s.t) : Rp G E s (a.put (some d) v) ds := by
 refine ⟨h.h, h.eq, ?_, h.d⟩
 have := relTs_set (d := d) (v := .any) (x := v) h.t trivial
 rw [he] at this;simpa [Act.put] using this
section
variable [Go.ConcR.Payload] {B : Bk} {w n sz cap i : Nat} {ts : MoT} {E : Env} {e5 : TypeId} {b : Frame} {k : List Item} {cs : List Frame}
theorem bw_go (hv : VolAt B.k5) (hbo : Level.both = true) (hkd : b.kind ≠ .early) (hL : Lay B w ts n cap E) (hcw : B.k9 ≠ B.kW) (hsz : B.N * 4 <= sz) {Ed E2 : Env} (h0 : Ed.H = []) (hF : Shows B E.w Ed.w) (x : Ext Ed E2) {a : Act} (hs : Rp T0.gl E2 (bwI B i) a) (hi : i < B.N) {v : World} (g : Grow E2.w v) :
  SX.Way Tryz.prog true ((bwC B w ts n sz e5 b k cs).AtGo i) (G (b.at (a.put ((ops12[0]?).bind (·.dst)) (.tuple #[])) (.inRegion ops12 [] :: (bwKd.tail ++ k))) cs) v := by
 rw [o12_at];simp only [Option.bind_some, o12_dst];obtain ⟨x3, hs3⟩ := (Rp.putAny hs (.tuple #[]) (set32 B i)).grow g;refine SX.Way.ctl rfl (fun _ => Conc.stepG_region_end) ?_
 rw [bw_d1, List.cons_append];refine way_hold (E := ⟨E2.β, E2.H, v, E2.R⟩) okT0 mx hkd (bw_h13 B i) rfl hs3 fun E4 a4 x4 hs4 => ?_
 rw [sz13];refine SX.Way.stop fun w₅ g₅ => ?_
 have x04 : Ext Ed E4 := (x.trans x3).trans x4
 have hS5 : Shows B E.w w₅ := (hF.grow (grow_of_ext h0 x04)).grow g₅
 have h33 := Rp.slot hs4 33
 obtain ⟨us, hu, hcaps⟩ : ∃ us : Array Value, a4.eval (.tmp 33) = .func (.func 236) #[] us /\ RelCaps E4 [.vptr ⟨B.kW, 0, none⟩, .vptr ⟨B.k6, 0, none⟩, .vptr ⟨B.k0, 0, none⟩, .ptr 0 0 0 0 0 0, .vptr ⟨B.k1, 0, none⟩, .vptr ⟨B.k8, 0, none⟩, .vptr ⟨B.k10, 0, none⟩] us.toList := h33;have hB0 : getB E4.H 0 = .vals [.c (.int false .i64 i)] := by rw [hs4.eq]; rfl
 have hb0 := hs4.h.blk 0
 rw [hB0] at hb0;obtain ⟨kI, cI, eI, fzI, q1, q2, _, q3⟩ := hb0;have hcI : cI.toList = [.int .i64 i] := by
  obtain ⟨v1, v2, e1, ⟨v0, e2, e3, _⟩, e4⟩ := q3;have e4 : v2 = [] := e4
  rw [e1, e2, e4, e3]; rfl
 obtain ⟨u0, r0, e0, f0, u1, r1, e1, f1, u2, r2, e2, f2, u3, r3, e3, f3, u4, r4, e4, f4, u5, r5, e5', f5, u6, r6, e6, f6, f7⟩ := hcaps;have f0 : u0 = _ := f0
 have f1 : u1 = _ := f1
 have f2 : u2 = _ := f2
 have f4 : u4 = _ := f4
 have f5 : u5 = _ := f5
 have f6 : u6 = _ := f6
 have f7 : r6 = [] := f7
 have f3 : u3 = .pointer (some ⟨kI, 0, none⟩) := by
  obtain ⟨_, f3⟩ := f3;unfold RelPtr at f3;rw [hB0] at f3;obtain ⟨⟨kb, z1, z2⟩, _⟩ := f3;rw [q1] at z1;obtain rfl := smI z1;exact z2
 have hus : us = #[.pointer (some ⟨B.kW, 0, none⟩), .pointer (some ⟨B.k6, 0, none⟩), .pointer (some ⟨B.k0, 0, none⟩), .pointer (some ⟨kI, 0, none⟩), .pointer (some ⟨B.k1, 0, none⟩), .pointer (some ⟨B.k8, 0, none⟩), .pointer (some ⟨B.k10, 0, none⟩)] := by
  apply Array.ext'
  rw [e0, e1, e2, e3, e4, e5', e6, f7, f0, f1, f2, f3, f4, f5, f6]
 refine atGo (c := bwC B w ts n sz e5 b k cs) o13_at (o13_w _) hkd o13_op hu (wk_way hv hL hcw hsz hS5 (kI := kI) (cI := cI) (eI := eI) (fzI := fzI) ?_ hcI hi hus (.inr hbo)) (.inr ⟨i, a4, rfl, keep_thin hs4.t hs4.d (keepJ B i), ?_⟩)
 ·rw [g₅.heap kI (Array.getElem?_eq_some_iff.1 q2).1]; exact q2
 ·rw [o13_dst]; rfl
theorem bw_round (hv : VolAt B.k5) (hbo : Level.both = true) (hkd : b.kind ≠ .early) (hL : Lay B w ts n cap E) (hcw : B.k9 ≠ B.kW) (hsz : B.N * 4 <= sz) {v : World} (hF : Shows B E.w v) {a : Act} (hs : SlotsAt B i a) (hi : i < B.N) :
  SX.Way Tryz.prog true ((bwC B w ts n sz e5 b k cs).AtAdd i) (G (b.at a (bwKc ++ k)) cs) v := by
 refine way_pieceT (E := dumE v) (E0 := dumE v) okT0 mx hkd rfl (Ext.refl _) (bw_c B i) (by rw [deT (by omega)]) (by rfl) (slots_rp hs v) fun E1 a1 x1 hs1 => ?_
 rw [bw_d0, List.cons_append];refine way_hold okT0 mx hkd (bw_h12 B i) rfl hs1 fun E2 a2 x2 hs2 => ?_
 rw [sz12];refine way_call o12_at (o12_w _) hkd o12_op wgH.f_add rfl (Go.ConcR.Gen.nm_add wgL) fun w₁ g₁ => ?_
 have h11 : a2.eval (.tmp 11) = .pointer (some ⟨B.kW, 0, none⟩) := Rp.slot hs2 11
 have hargs : (#[Operand.tmp 11, Operand.const (.int .i64 1)] : Array Operand).map a2.eval = #[.pointer (some ⟨B.kW, 0, none⟩), .int .i64 1] := by
  simp [h11]
  rfl
 rw [hargs];refine SX.Way.stop fun w₂ g₂ => ?_
 exact atAdd (c := bwC B w ts n sz e5 b k cs) wgH fun v' g' => bw_go hv hbo hkd hL hcw hsz rfl hF (x1.trans x2) hs2 hi (g₁.trans (g₂.trans g')) (.inl rfl)
theorem bw_head (hv : VolAt B.k5) (hbo : Level.both = true) (hkd : b.kind ≠ .early) (hL : Lay B w ts n cap E) (hcw : B.k9 ≠ B.kW) (hsz : B.N * 4 <= sz) {v : World} (hF : Shows B E.w v) {g : Goroutine} (hg : (bwC B w ts n sz e5 b k cs).Hd i g) (hi : i < B.N) :
  SX.Way Tryz.prog true ((bwC B w ts n sz e5 b k cs).AtAdd i) g v := by
 have hN := hL.N1
 rcases hg with ⟨a, hs, rfl⟩ | ⟨j, a, rfl, hs, rfl⟩
 ·exact bw_round hv hbo hkd hL hcw hsz hF hs hi
 ·refine SX.Way.ctl rfl (fun _ => Conc.stepG_region_end) ?_
  refine way_pieceT (E := dumE v) (E0 := dumE v) okT0 mx hkd rfl (Ext.refl _) (bw_e B j) rfl (by rfl) (slots_rp hs v) fun E1 a1 x1 hs1 => ?_
  rw [iwk (by omega)] at hs1
  exact bw_round hv hbo hkd hL hcw hsz (hF.grow (grow_of_ext rfl x1)) (keep_thin hs1.t hs1.d (keepH B (j + 1))) hi
theorem bw_last (hkd : b.kind ≠ .early) {v : World} {a : Act} (hs : SlotsAt B B.N a) :
  SX.Way Tryz.prog true (bwC B w ts n sz e5 b k cs).AtWait (G (b.at a (bwKc ++ k)) cs) v := by
 refine way_pieceT (E := dumE v) (E0 := dumE v) okT0 mx hkd rfl (Ext.refl _) (bw_d B B.N) (by rw [deF (by omega)]) (by rfl) (slots_rp hs v) fun E1 a1 x1 hs1 => ?_
 rw [bw_f0, List.cons_append];refine way_hold okT0 mx hkd (bw_h15 B B.N) rfl hs1 fun E2 a2 x2 hs2 => ?_
 rw [sz15];refine way_call o15_at (o15_w _) hkd o15_op wgH.f_wait rfl (Go.ConcR.Gen.nm_wait wgL) fun w₁ g₁ => ?_
 have h11 : a2.eval (.tmp 11) = .pointer (some ⟨B.kW, 0, none⟩) := Rp.slot hs2 11
 have hargs : (#[Operand.tmp 11] : Array Operand).map a2.eval = #[.pointer (some ⟨B.kW, 0, none⟩)] := by
  simp [h11]
 rw [hargs];refine SX.Way.stop fun w₂ g₂ => ?_
 refine atWait (c := bwC B w ts n sz e5 b k cs) wgH ⟨_, ?_, rfl⟩
 rw [show (hdOps bwKf)[0]? = some o15 from o15_at]
 simp only [Option.bind_some, o15_dst];have := Rp.putAny hs2 (.tuple #[]) (set35 B B.N)
 exact keep_thin this.t this.d (keepH B B.N)
theorem bw_end (hkd : b.kind ≠ .early) (hN : B.N <= 300) {v : World} {g : Goroutine} (hg : (bwC B w ts n sz e5 b k cs).Hd B.N g) :
  SX.Way Tryz.prog true (bwC B w ts n sz e5 b k cs).AtWait g v := by
 rcases hg with ⟨a, hs, rfl⟩ | ⟨j, a, hj, hs, rfl⟩
 ·exact bw_last hkd hs
 ·refine SX.Way.ctl rfl (fun _ => Conc.stepG_region_end) ?_
  refine way_pieceT (E := dumE v) (E0 := dumE v) okT0 mx hkd rfl (Ext.refl _) (bw_e B j) rfl (by rfl) (slots_rp hs v) fun E1 a1 x1 hs1 => ?_
  have hj : B.N = j + 1 := hj
  rw [iwk (by omega)] at hs1
  refine bw_last hkd ?_
  rw [hj];exact keep_thin hs1.t hs1.d (keepH B (j + 1))
end
end Go.Sc
namespace Go.Sc
open Go Go.SX Go.Proofs Go.Conc
abbrev inLv (mt : Nat) : Level := ⟨true, fun a => a.block = mt /\ a.spot = none /\ a.off < 2⟩
theorem inLv_vol (mt : Nat) : @VolAt (inLv mt) mt := fun a h1 h2 h3 => ⟨h1, h2, h3⟩
theorem Big.mono {P : Program} {g : Goroutine} {v : World} {K K' : Goroutine -> World -> Prop} (h : Big P g v K) (hK : ∀ g' w', K g' w' -> K' g' w') : Big P g v K' :=
 fun Post Shun M w gs sl t q hg hs hk => h Post Shun M w gs sl t q hg hs fun Shun' M' w' gs' sl' t' q' g' hKK hd hs' => hk Shun' M' w' gs' sl' t' q' g' (hK _ _ hKK) hd hs'
section
variable [Go.ConcR.Payload] {B : Bk} {w n sz cap : Nat} {ts : MoT} {E : Env} {e5 : TypeId} {b : Frame} {k : List Item} {cs : List Frame}
theorem in_grow {c : Cw} {v v1 : World} (h : c.In v) (g : Grow v v1) : c.In v1 := by
 have hk : ∀ {q : Nat} {o : Obj}, v.heap[q]? = some o -> v1.heap[q]? = some o := fun {q o} h => (g.heap q (Array.getElem?_eq_some_iff.1 h).1).trans h
 obtain ⟨x1, x2, x3⟩ := h.pay;obtain ⟨y1, y2, y3⟩ := h.vol;exact { h with wg := hk h.wg, pay := ⟨x1, hk x2, x3⟩, vol := ⟨y1, hk y2, y3⟩ }
theorem shows_of {v w₁ v' : World} (g : Grow v w₁) (f : Froze B.kW B.k9 B.k5 w₁ v') : Shows B v v' := ⟨Nat.le_trans g.size f.size, fun q cc e fz h h1 h2 h3 => ⟨_, f.blk q cc e fz ((g.heap q (Array.getElem?_eq_some_iff.1 h).1).trans h) h1 h2 h3⟩⟩
theorem bw_crowd [lv : Level] (hb0 : lv.both = false) (hkd : b.kind ≠ .early) (hL : Lay B w ts n cap E) (hin : (bwC B w ts n sz e5 b k cs).In E.w) {a : Act} (hs : SlotsAt B 0 a) {Stop : Goroutine -> World -> Prop}
  (hk : ∀ a' w₁ w', Grow E.w w₁ -> SlotsAt B B.N a' -> (bwC B w ts n sz e5 b k cs).After w₁ w' -> SX.Way Tryz.prog true Stop (G (b.at a' (.inRegion ops15 [] :: (bwKf.tail ++ k))) cs) w') :
  SX.Way Tryz.prog true Stop (G (b.at a (bwKc ++ k)) cs) E.w := by
 intro hm;have hcw : B.k9 ≠ B.kW := hin.cw
 refine Way0.big (fun g' w' => ∃ w₁, Grow E.w w₁ /\ (bwC B w ts n sz e5 b k cs).Kg g' /\ (bwC B w ts n sz e5 b k cs).After w₁ w') rfl hb0 (fun w₁ g₁ => ?_) (fun g' w' hK => ?_)
 ·have key := @Cw.big _ (inLv B.k5) (bwC B w ts n sz e5 b k cs) w₁ (G (b.at a (bwKc ++ k)) cs) rfl (fun a => Iff.rfl) (in_grow hin g₁) (.inl ⟨a, hs, rfl⟩)
   (fun v' hf i hi g hg => @bw_head (inLv B.k5) _ B w n sz cap i ts E e5 b k cs (inLv_vol _) rfl hkd hL hcw hin.sz v' (shows_of g₁ hf) g hg hi (.inl rfl))
   (fun v' hf g hg => @bw_end (inLv B.k5) _ B w n sz ts e5 b k cs hkd hL.N1 v' g hg (.inl rfl))
   (fun g hg => by obtain ⟨a', _, rfl⟩ := hg; rfl)
  exact Big.mono key fun g' w' h => ⟨w₁, g₁, h⟩
 ·obtain ⟨w₁, g₁, ⟨a', hs', rfl⟩, hA⟩ := hK;exact hk a' w₁ w' g₁ hs' hA hm
end
end Go.Sc
