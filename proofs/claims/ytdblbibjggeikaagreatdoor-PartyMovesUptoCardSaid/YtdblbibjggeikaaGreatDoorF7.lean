/- Layer 14: Poly as a contract. -/
import Derived.Test.YtdblbibjggeikaaGreatDoorF6
set_option linter.unusedSectionVars false
set_option linter.unusedVariables false
set_option linter.unusedSimpArgs false
namespace Go.Sc
open Go Go.SX Go.Proofs
variable [Level] [Lone]
def poE (e : Int) : SV := .tup [.g poZ, .c (.int true .i64 e)]
noncomputable def poSf (ph : Int) (x : PaA) (k : Nat) (l0 r0 r1 : List (List Int)) (y z : List Int) : St := ⟨enterT Tryz.f36 [.c (.ptr 0 0 0 0 0 0), ws y, ws z], paF false ph x k l0 r0 r1⟩
theorem po_f (ph : Int) (x : PaA) (k : Nat) (l0 r0 r1 : List (List Int)) (y z : List Int) : endT Tryz.prog Tryz.f36 [0, 1, 2, 3, 4, 5, 6, 7, 8] [false, true] (poR [.code (cd Tryz.f36)] (poSf ph x k l0 r0 r1 y z)) = some ([ph == 0, ph != 1], poE 6, paF false ph x k l0 r0 r1) := by kernel_rfl
noncomputable def poW (x : PaA) (y z : List Int) : SV × Heap :=
 (poV (poX x y z) (poA (poX x y z)) (poC (poX x y z)) (poD (poX x y z)) x.b.toNat, poH' true (poX x y z) x.b.toNat (poA (poX x y z)) (poC (poX x y z)) (poD (poX x y z)))
noncomputable def poTr (x : PaA) (y z : List Int) : Tree (SV × Heap) :=
 Tree.chk (poOk x) (.br (decide (val y % ell = 0 \/ val z % ell = 0)) (.ret (poE 4, paH false 1 x)) (.ret (poW x y z)))
noncomputable def TpPoly (vs : List V1) (hl : Heap) : Tree (SV × Heap) :=
 match vs with
 | [.c .nilp, .g [.ws .u64 4 _], .g [.ws .u64 4 _]] => (match hl with | [] => .ret (poE 1, []) | _ => .fail)
 | [.c (.ptr 0 0 0 0 0 0), .g [.ws .u64 4 y], .g [.ws .u64 4 z]] => match pPaN hl with
  | some (1, x) => poTr x y z
  | _ => match pPaF hl with
   | some (ph, x, (k1, k2, k3, k4), l0, r0, r1) => Tree.chk (okF x k1 k2 k3 k4 && decide (ph ≠ 0 /\ ph ≠ 1)) (.ret (poE 6, paF false ph x k1 l0 r0 r1))
   | none => .fail
 | _ => .fail
theorem po_h1 {x : PaA} {y z : List Int} {res : SV} {hl' : Heap} (h : (poTr x y z).val = some (res, hl')) : RPo y z x res hl' := by
 unfold poTr at h;obtain ⟨h1, h2⟩ := val_chk h;by_cases hy : val y % ell = 0
 ·rw [deT (.inl hy)] at h2;obtain ⟨rfl, rfl⟩ := Prod.mk.inj (val_ret (show (Tree.ret (poE 4, paH false 1 x)).val = _ from h2))
  have q := po_x3 1 x y z
  rw [bneq' (show (1 : Int) = 1 from rfl), beq_false_of_ne (show (1 : Int) ≠ 0 by decide), deT hy] at q
  exact Runs.last okPT9 mx q rfl (by rfl)
 by_cases hz : val z % ell = 0
 ·rw [deT (.inr hz)] at h2;obtain ⟨rfl, rfl⟩ := Prod.mk.inj (val_ret (show (Tree.ret (poE 4, paH false 1 x)).val = _ from h2))
  have q := po_x4 1 x y z
  rw [bneq' (show (1 : Int) = 1 from rfl), beq_false_of_ne (show (1 : Int) ≠ 0 by decide), deF hy, deT hz] at q
  exact Runs.last okPT9 mx q rfl (by rfl)
 rw [deF (fun q => q.elim hy hz)] at h2
 obtain ⟨rfl, rfl⟩ := Prod.mk.inj (val_ret (show (Tree.ret (poW x y z)).val = _ from h2))
 exact po_runs h1 hy hz
theorem po_h2 {ph : Int} {x : PaA} {k : Nat} {l0 r0 r1 : List (List Int)} {y z : List Int} (h0 : ph ≠ 0) (h1 : ph ≠ 1) : Runs Tryz.prog PT9 Tryz.f36 9 [.code (cd Tryz.f36)] (poSf ph x k l0 r0 r1 y z) (poE 6) (paF false ph x k l0 r0 r1) := by
 have q := po_f ph x k l0 r0 r1 y z
 rw [bneq h1, beq_false_of_ne h0] at q;exact Runs.last okPT9 mx q rfl (by rfl)
theorem ok_pPoly : EntryOk Tryz.prog G0 36 TpPoly := by
 refine EntryOk.unlitHRuns (S := PT9) (fn := Tryz.f36) (c := cd Tryz.f36) (by kernel_rfl) (by kernel_rfl) (by kernel_rfl) (fun vs hl res hl' ok okh h => ?_)
 unfold TpPoly at h;split at h
 ·rename_i y z;split at h
  ·obtain ⟨rfl, rfl⟩ := Prod.mk.inj (val_ret h);exact Runs.last okPT9 mx (po_x0 y z) rfl (by rfl)
  ·cases h
 ·rename_i y z;split at h
  ·rename_i x e;rw [show hl.map unlB = paH false 1 x from pPaN_eq e]
   exact po_h1 h
  ·split at h
   ·rename_i ph x k1 k2 k3 k4 l0 r0 r1 e;obtain ⟨h1, h2⟩ := val_chk h;rw [Bool.and_eq_true] at h1;obtain ⟨q1, q2⟩ := ofD h1.2;obtain ⟨rfl, rfl⟩ := Prod.mk.inj (val_ret h2);rw [pPaF_eq e h1.1];exact po_h2 q1 q2
   ·cases h
 ·cases h
noncomputable def PTa : Tab := PT9.put 36 9 TpPoly
theorem okPTa : SpecOk Tryz.prog PTa := okPT9.put ok_pPoly
noncomputable def shR (k : List Item) (s : St) : Tree Out := runK PTa Tryz.prog noLoops 400 k s
noncomputable def shS (ph : Int) (x : PaA) (k : Nat) (l0 r0 r1 : List (List Int)) (e : List Int) : St := ⟨enterT Tryz.f31 [.c (.ptr 0 0 0 0 0 0), ws e], paF false ph x k l0 r0 r1⟩
def mulL (a b : List Int) : List Int := limbs (val a * val b % ell)
def adL (a b : List Int) : List Int := limbs ((val a + val b) % ell)
def oneL : List Int := [1, 0, 0, 0]
def shZ : List FCell := [.c (.int true .i64 0), .ws .u64 4 zL, .ws .u64 4 zL, .ws .u64 4 zL, .c .nils, .c .nils]
def shE (c : Int) : SV := .tup [.g shZ, .c (.int true .i64 c)]
def shL (e : List Int) (k : Nat) (x : PaA) (l0 : List (List Int)) : List (List Int) := mixL oneL e l0 x.SL k
def shRt (e : List Int) (k : Nat) (r0 r1 : List (List Int)) : List (List Int) := mixL oneL e r0 r1 k
def shTx (x : PaA) (e : List Int) (w : Nat) : List Int := adL (adL (mulL x.t1 e) (mulL x.t2 (mulL e e))) (mulL (limbs (val x.z ^ w % ell)) x.d)
def shMu (x : PaA) (e : List Int) : List Int := adL x.a (mulL x.r e)
def shV (x : PaA) (e : List Int) (k : Nat) (w : Nat) (L R : List (List Int)) : SV :=
 .tup [.g [.c (.int false .i64 x.p), .ws .u64 4 (shTx x e w), .ws .u64 4 (shMu x e), .ws .u64 4 (limbs (inn L R k % ell)), .c (.sl 9 0 k), .c (.sl 10 0 k)], .c (.int true .i64 0)]
section
variable (ph : Int) (x : PaA) (k : Nat) (l0 r0 r1 : List (List Int)) (e : List Int)
theorem sh_x2 : endT Tryz.prog Tryz.f31 [0, 1, 2, 3, 4, 5, 6, 7, 8] [false, true] (shR [.code (cd Tryz.f31)] (shS ph x k l0 r0 r1 e)) = some ([ph == 0, ph != 2], shE 6, paF false ph x k l0 r0 r1) := by kernel_rfl
theorem sh_x3 : endT Tryz.prog Tryz.f31 [0, 1, 2, 3, 4, 5, 6, 7, 8] [false, false, true] (shR [.code (cd Tryz.f31)] (shS ph x k l0 r0 r1 e)) = some ([ph == 0, ph != 2, decide (val e % ell = 0)], shE 4, paF false ph x k l0 r0 r1) := by kernel_rfl
theorem sh_x0 : endT Tryz.prog Tryz.f31 [] [] (shR [.code (cd Tryz.f31)] ⟨enterT Tryz.f31 [.c .nilp, ws e], []⟩) = some ([], shE 1, []) := by kernel_rfl
theorem sh_xn : endT Tryz.prog Tryz.f31 [0, 1, 2, 3, 4, 5] [false, true] (shR [.code (cd Tryz.f31)] ⟨enterT Tryz.f31 [.c (.ptr 0 0 0 0 0 0), ws e], paH false ph x⟩) = some ([ph == 0, ph != 2], shE 6, paH false ph x) := by kernel_rfl
theorem sh_a : endT Tryz.prog Tryz.f31 [0, 1, 2, 3, 4, 5, 6, 7, 8, 13, 16] [false, false, false, true, true, true] (shR [.code (cd Tryz.f31)] (shS ph x k l0 r0 r1 e)) =
  some ([ph == 0, ph != 2, decide (val e % ell = 0), decide (k = x.nl /\ k <= 1048576), decide (k = k /\ k <= 1048576), decide (k = k /\ k <= 1048576)],
   shV x e k (ppE (2 + x.p)) ((mixL oneL e (l0.drop 0) (x.SL.drop 0) k).drop 0) ((mixL oneL e (r0.drop 0) (r1.drop 0) k).drop 0),
   paF true 3 x k l0 r0 r1 ++ [.arr WS (mixL oneL e (l0.drop 0) (x.SL.drop 0) k) 0 [], .arr WS (mixL oneL e (r0.drop 0) (r1.drop 0) k) 0 []]) := by kernel_rfl
end
noncomputable def shW (x : PaA) (k : Nat) (l0 r0 r1 : List (List Int)) (e : List Int) : SV × Heap :=
 (shV x e k (2 + x.p).toNat (shL e k x l0) (shRt e k r0 r1), paF true 3 x k l0 r0 r1 ++ [.arr WS (shL e k x l0) 0 [], .arr WS (shRt e k r0 r1) 0 []])
def shOk (x : PaA) (k : Nat) : Bool := decide (k = x.nl /\ k <= 1048576 /\ 0 <= x.p /\ x.p <= 16)
noncomputable def shTr (x : PaA) (k : Nat) (l0 r0 r1 : List (List Int)) (e : List Int) : Tree (SV × Heap) :=
 Tree.chk (shOk x k) (.br (decide (val e % ell = 0)) (.ret (shE 4, paF false 2 x k l0 r0 r1)) (.ret (shW x k l0 r0 r1 e)))
noncomputable def TpShare (vs : List V1) (hl : Heap) : Tree (SV × Heap) :=
 match vs with
 | [.c .nilp, .g [.ws .u64 4 _]] => (match hl with | [] => .ret (shE 1, []) | _ => .fail)
 | [.c (.ptr 0 0 0 0 0 0), .g [.ws .u64 4 e]] => match pPaN hl with
  | some (1, x) => .ret (shE 6, paH false 1 x)
  | _ => match pPaF hl with
   | some (2, x, (k1, k2, k3, k4), l0, r0, r1) => Tree.chk (okF x k1 k2 k3 k4) (shTr x k1 l0 r0 r1 e)
   | some (ph, x, (k1, k2, k3, k4), l0, r0, r1) => Tree.chk (okF x k1 k2 k3 k4 && decide (ph ≠ 0 /\ ph ≠ 2)) (.ret (shE 6, paF false ph x k1 l0 r0 r1))
   | none => .fail
 | _ => .fail
abbrev RSh (n : Nat) (s : St) (v : SV) (h : Heap) : Prop := Runs Tryz.prog PTa Tryz.f31 n [.code (cd Tryz.f31)] s v h
theorem sh_h1 {x : PaA} {k : Nat} {l0 r0 r1 : List (List Int)} {e : List Int} {res : SV} {hl' : Heap} (h : (shTr x k l0 r0 r1 e).val = some (res, hl')) : RSh 9 (shS 2 x k l0 r0 r1 e) res hl' := by
 unfold shTr at h;obtain ⟨h1, h2⟩ := val_chk h;obtain ⟨g1, g2, g3, g4⟩ := ofD h1;by_cases he : val e % ell = 0
 ·rw [deT he] at h2;obtain ⟨rfl, rfl⟩ := Prod.mk.inj (val_ret (show (Tree.ret (shE 4, paF false 2 x k l0 r0 r1)).val = _ from h2))
  have q := sh_x3 2 x k l0 r0 r1 e
  rw [bneq' (show (2 : Int) = 2 from rfl), beq_false_of_ne (show (2 : Int) ≠ 0 by decide), deT he] at q
  exact Runs.last okPTa mx q rfl (by rfl)
 rw [deF he] at h2;obtain ⟨rfl, rfl⟩ := Prod.mk.inj (val_ret (show (Tree.ret (shW x k l0 r0 r1 e)).val = _ from h2))
 have e0 : ppE (2 + x.p) = (2 + x.p).toNat := by
  have : iw (2 + x.p) = 2 + x.p := by
   unfold iw;rw [IntKind.wrap_i64];omega
  unfold ppE;rw [this, wrapU];omega
 have q := sh_a 2 x k l0 r0 r1 e
 rw [bneq' (show (2 : Int) = 2 from rfl), beq_false_of_ne (show (2 : Int) ≠ 0 by decide), deF he, e0, deT (show k = x.nl /\ k <= 1048576 from ⟨g1, g2⟩), deT (show k = k /\ k <= 1048576 from ⟨rfl, g2⟩)] at q
 exact Runs.last okPTa mx q rfl (by rfl)
theorem sh_h2 {ph : Int} {x : PaA} {k : Nat} {l0 r0 r1 : List (List Int)} {e : List Int} (h0 : ph ≠ 0) (h1 : ph ≠ 2) : RSh 9 (shS ph x k l0 r0 r1 e) (shE 6) (paF false ph x k l0 r0 r1) := by
 have q := sh_x2 ph x k l0 r0 r1 e
 rw [bneq h1, beq_false_of_ne h0] at q;exact Runs.last okPTa mx q rfl (by rfl)
theorem ok_pShare : EntryOk Tryz.prog G0 31 TpShare := by
 refine EntryOk.unlitHRuns (S := PTa) (fn := Tryz.f31) (c := cd Tryz.f31) (by kernel_rfl) (by kernel_rfl) (by kernel_rfl) (fun vs hl res hl' ok okh h => ?_)
 unfold TpShare at h;split at h
 ·rename_i e;split at h
  ·obtain ⟨rfl, rfl⟩ := Prod.mk.inj (val_ret h);exact Runs.last okPTa mx (sh_x0 e) rfl (by rfl)
  ·cases h
 ·rename_i e;split at h
  ·rename_i x q;obtain ⟨rfl, rfl⟩ := Prod.mk.inj (val_ret h);rw [show hl.map unlB = paH false 1 x from pPaN_eq q]
   exact Runs.last okPTa mx (sh_xn 1 x e) (by rfl) (by rfl)
  ·split at h
   ·rename_i x k1 k2 k3 k4 l0 r0 r1 q;obtain ⟨h1, h2⟩ := val_chk h;rw [pPaF_eq q h1];exact sh_h1 h2
   ·rename_i ph x k1 k2 k3 k4 l0 r0 r1 _ q;obtain ⟨h1, h2⟩ := val_chk h;rw [Bool.and_eq_true] at h1;obtain ⟨q1, q2⟩ := ofD h1.2;obtain ⟨rfl, rfl⟩ := Prod.mk.inj (val_ret h2);rw [pPaF_eq q h1.1];exact sh_h2 q1 q2
   ·cases h
 ·cases h
noncomputable def PTb : Tab := PTa.put 31 11 TpShare
theorem okPTb : SpecOk Tryz.prog PTb := okPTa.put ok_pShare
end Go.Sc
