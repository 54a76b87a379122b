/- Layer 13: Begin's pieces. -/
import Derived.Test.YtdblbibjggeikaaGreatDoorF1
import Derived.Test.YtdblbibjggeikaaGreatDoorB6
set_option linter.unusedSectionVars false
set_option linter.unusedVariables false
set_option linter.unusedSimpArgs false
namespace Go.Sc
open Go Go.SX Go.Proofs
variable [Level] [Lone]
structure BeA where
 B : List Int
 D : List Int
 Q : List Int
 gs : List PL.den
 hs : List PL.den
 ng : Nat
 nh : Nat
 b : Int
 c : Int
 vs : OpT
 nv : Nat
 a : List Int
 r : List Int
 t1 : List Int
 t2 : List Int
 sl : List (List Int)
 nl : Nat
 sr : List (List Int)
 nr : Nat
def be0 : BeA := ⟨[], [], [], [], [], 0, 0, 0, 0, [], 0, [], [], [], [], [], 0, [], 0⟩
def gB (z : BeA) : Blk := .vals (gSet z.B z.D z.Q z.gs z.hs z.ng z.nh)
def pB (z : BeA) : Blk := .vals [.c (.int false .i64 z.b), .c (.int false .i64 z.c)]
def tB (z : BeA) : Blk := .vals (tapeF z.a z.r z.t1 z.t2 z.sl z.nl z.sr z.nr)
structure Vw where
 A : List Int
 S : List Int
 T1 : List Int
 T2 : List Int
 Y : List Int
 Z : List Int
 X : List Int
 Tx : List Int
 Mu : List Int
 Th : List Int
def vw0 : Vw := ⟨zL, zL, zL, zL, zL, zL, zL, zL, zL, zL⟩
def vwF (v : Vw) (L R : Cell) : List FCell := [.ws .u64 4 v.A, .ws .u64 4 v.S, .ws .u64 4 v.T1, .ws .u64 4 v.T2, .ws .u64 4 v.Y, .ws .u64 4 v.Z, .ws .u64 4 v.X, .ws .u64 4 v.Tx, .ws .u64 4 v.Mu, .ws .u64 4 v.Th, .c L, .c R]
def prF (l : Bool) (ph : Int) (z : BeA) (i g : Nat) (bits lc ld rc rd : Cell) (v : Vw) (L R : Cell) : List FCell :=
 [.c (.int l .i64 ph), .c (.int false .i64 z.b), .c (.int false .i64 z.c), .ws .u64 4 z.a, .ws .u64 4 z.r, .ws .u64 4 z.t1, .ws .u64 4 z.t2, .c (.sl i 0 (z.sl.take z.nl).length), .c (.sl (i + 1) 0 (z.sr.take z.nr).length),
  .c (.sl (i + 2) 0 (z.vs.take z.nv).length), .c bits, .c lc, .c ld, .c rc, .c rd] ++ vwF v L R ++ [.c (.fn 48 [.ptr g 0 0 0 0 0])]
def TrBegin1 (vs : List V1) (hl : Heap) : Tree (SV × Heap) :=
 match vs, hl with
 | [.g [.ws .u64 4 v], .g [.ws .u64 4 d], .c (.ptr 0 0 0 0 0 0)], [.vals [.ws .u64 4 B, .ws .u64 4 D, .ws .u64 4 Q, .c (.ro (.pair (.ws .u64 4) .unit) gs ng), .c (.ro (.pair (.ws .u64 4) .unit) hs nh)]] =>
  .ret (.one (ws (limbs (comS B D v d % ell))), [.vals (gSet B D Q gs hs ng nh)])
 | _, _ => .fail
theorem be1_a (B D Q : List Int) (gs hs : List PL.den) (ng nh : Nat) (v d : List Int) : (bodyT L12 Tryz.prog allLoops Tryz.f48 (cd Tryz.f48) [ws v, ws d, .c (.ptr 0 0 0 0 0 0)] [.vals (gSet B D Q gs hs ng nh)]).path [] =
  some ([], .one (ws (limbs (comS B D v d % ell))), [.vals (gSet B D Q gs hs ng nh)]) := by kernel_rfl
theorem ok_rBegin1 : EntryOk Tryz.prog G0 48 TrBegin1 := by
 refine EntryOk.sub (bodyT_ok okL12 mx (un := allLoops) (fn := Tryz.f48) (c := cd Tryz.f48) (by kernel_rfl) (by kernel_rfl) (by kernel_rfl)) (fun vs hl r ok h => ?_)
 unfold TrBegin1 at h;split at h
 ·rename_i v d B D Q gs ng hs nh;obtain rfl := val_ret h;exact Tree.path_val (be1_a B D Q gs hs ng nh v d)
 ·cases h
noncomputable def L13 : Tab := L12.put 48 0 TrBegin1
theorem okL13 : SpecOk Tryz.prog L13 := okL12.put ok_rBegin1
noncomputable def beR (k : List Item) (s : St) : Tree Out := runK L13 Tryz.prog noLoops 400 k s
noncomputable def beS (z : BeA) : St := ⟨enterT Tryz.f8 [.g (gSet z.B z.D z.Q z.gs z.hs z.ng z.nh), pr z.b z.c, .c (.ro OP z.vs z.nv), .g (tapeF z.a z.r z.t1 z.t2 z.sl z.nl z.sr z.nr)], []⟩
def beE (z : BeA) : Int := fitE z.ng z.nh z.b z.c z.vs z.nv z.nl z.nr
noncomputable def beRoom (z : BeA) : Bool := SX.room (z.vs.take z.nv).length (Tryz.prog.bytesOf 89) && SX.room (z.vs.take z.nv).length 1
noncomputable def beK : List Item := leftT [false, true, true] (beR [.code (cd Tryz.f8)] (beS be0))
def beSl (z : BeA) : List (Nat × SV) := [(2, one (.ro OP z.vs z.nv)), (4, pt 0), (5, pt 1), (7, pt 2), (8, one .nilp), (9, one .nils), (10, pt 3), (11, one (.int true .i64 0)), (13, pt 7)]
def beHp (z : BeA) : Heap := [gB z, pB z, tB z, .vals (vwF vw0 .nils .nils), .arr WS (z.sl.take z.nl) 0 [], .arr WS (z.sr.take z.nr) 0 [], .arr OP (z.vs.take z.nv) 0 []]
noncomputable def beT (z : BeA) (x : Cell) (i : Int) (h : Heap) : St :=
 ⟨slotsOf 134 (beSl z ++ [(14, one x), (40, one (.ro OP z.vs z.nv)), (41, one (.int false .i64 z.nv)), (42, one (.int false .i64 i))]), beHp z ++ [.vals (prF true 1 z 4 0 .nils .nils .nils .nils .nils vw0 .nils .nils)] ++ h⟩
theorem beg_x (z : BeA) : endT Tryz.prog Tryz.f8 [] [true] (beR [.code (cd Tryz.f8)] (beS z)) = some ([beE z != 0], .tup [.c .nilp, .c .nils, .g (vwF vw0 .nils .nils), .c (.int false .i64 (beE z))], []) := by kernel_rfl
theorem beg_a (z : BeA) : pieceT [2, 4, 5, 7, 8, 9, 10, 11, 13, 14, 40, 41, 42] [42] (List.range 8) [false, true, true] (beR [.code (cd Tryz.f8)] (beS z)) =
  some ([beE z != 0, decide (z.nl <= 1048576 /\ z.nr <= 1048576), beRoom z], beK, beT z .nils (0 : Nat) []) := by kernel_rfl
noncomputable def beK2 : List Item := leftT [false] (beR beK (beT be0 (.sl 8 0 0) 0 [.arr PL [] 0 []]))
noncomputable def beU (z : BeA) (m : Nat) (V : List PL.den) (x : Cell) (pb : List FCell) (h : Heap) (n i : Int) : St :=
 ⟨slotsOf 134 (beSl z ++ [(14, one (.sl 8 0 m)), (17, one x), (61, one (.int false .i64 n)), (62, one (.int false .i64 i))]), beHp z ++ [.vals pb, .arr PL V 0 []] ++ h⟩
noncomputable def beW (z : BeA) (m : Nat) (V : List PL.den) (k : Nat) (bits right : List (List Int)) (n i : Int) : St :=
 beU z m V (.sl 10 0 k) (prF true 1 z 4 0 (.sl 9 0 k) .nils .nils .nils .nils vw0 .nils .nils) [.arr WS bits 0 [], .arr WS right 0 []] n i
def opB (vs : OpT) (i : Nat) : List Int := (vs.getD i OP.dflt).2.1
def comV (z : BeA) (i : Nat) : List Int := limbs (comS z.B z.D [opV z.vs i, 0, 0, 0] (opB z.vs i) % ell)
def rawBit (z : BeA) (i : Nat) : Int := IntKind.u64.wrap ((BitVec.ofInt 64 ((opV z.vs (iw ((i : Int).tdiv z.b)).toNat).fdiv (2 ^ (min ((i : Int).tmod z.b).toNat 64))) &&& BitVec.ofInt 64 1).toNat : Int)
def cat1 (V : List PL.den) (x : List Int) : List PL.den := V ++ ([(x, ())] : List PL.den)
theorem beg_b0 (z : BeA) : pieceT [2, 4, 5, 7, 8, 9, 10, 11, 13, 14, 40, 41, 42] [42] [0, 1, 2, 3, 4, 5, 6, 7, 10] [true, true, true] (beR beK (beT z .nils (0 : Nat) [])) =
  some ([decide (((0 : Nat) : Int) < z.nv), decide (0 <= ((0 : Nat) : Int) /\ ((0 : Nat) : Int) < z.nv), SX.room 1 (Tryz.prog.bytesOf 35) && SX.room 1 1], beK, beT z (.sl 8 0 1) (1 : Nat) [.arr PL (cat1 [] (comV z 0)) 0 []]) := by kernel_rfl
theorem beg_b (z : BeA) (V : List PL.den) (m i : Nat) : pieceT [2, 4, 5, 7, 8, 9, 10, 11, 13, 14, 40, 41, 42] [42] [0, 1, 2, 3, 4, 5, 6, 7, 11] [true, true, true] (beR beK (beT z (.sl 8 0 m) i [.arr PL V 0 []])) =
  some ([decide ((i : Int) < z.nv), decide (0 <= (i : Int) /\ (i : Int) < z.nv), decide (m = V.length) && (SX.room (m + 1) (Tryz.prog.bytesOf 35) && SX.room (m + 1) 1)], beK, beT z (.sl 8 0 (m + 1)) (iw ((i : Int) + 1)) [.arr PL (cat1 V (comV z i)) 0 []]) := by kernel_rfl
theorem beg_c (z : BeA) (V : List PL.den) (m i : Nat) : pieceT [2, 4, 5, 7, 8, 9, 10, 11, 13, 14, 17, 61, 62] [62] [0, 1, 2, 3, 4, 5, 6, 7, 8] [false] (beR beK (beT z (.sl 8 0 m) i [.arr PL V 0 []])) =
  some ([decide ((i : Int) < z.nv)], beK2, beU z m V .nils (prF true 1 z 4 0 .nils .nils .nils .nils .nils vw0 .nils .nils) [] (iw (z.b * z.c)) (0 : Nat)) := by kernel_rfl
noncomputable abbrev roomW (k : Nat) : Bool := SX.room k (Tryz.prog.bytesOf 26) && SX.room k 1
theorem beg_d0 (z : BeA) (V : List PL.den) (m : Nat) (n : Int) : pieceT [2, 4, 5, 7, 8, 9, 10, 11, 13, 14, 17, 61, 62] [62] [0, 1, 2, 3, 4, 5, 6, 7, 8, 11, 13] [true, true, true, true, true, true, true] (beR beK2 (beU z m V .nils (prF true 1 z 4 0 .nils .nils .nils .nils .nils vw0 .nils .nils) [] n (0 : Nat))) =
  some ([decide (((0 : Nat) : Int) < n), decide (z.b ≠ 0), decide (0 <= iw (((0 : Nat) : Int).tdiv z.b) /\ iw (((0 : Nat) : Int).tdiv z.b) < z.nv), decide (z.b ≠ 0), decide (0 <= ((0 : Nat) : Int).tmod z.b), roomW 1, roomW 1],
   beK2, beW z m V 1 [[rawBit z 0, 0, 0, 0]] [limbs ((val [rawBit z 0, 0, 0, 0] - 1) % ell)] n (1 : Nat)) := by kernel_rfl
theorem beg_d (z : BeA) (V : List PL.den) (m k i : Nat) (bits right : List (List Int)) (n : Int) : pieceT [2, 4, 5, 7, 8, 9, 10, 11, 13, 14, 17, 61, 62] [62] [0, 1, 2, 3, 4, 5, 6, 7, 8, 13, 15] [true, true, true, true, true, true, true] (beR beK2 (beW z m V k bits right n i)) =
  some ([decide ((i : Int) < n), decide (z.b ≠ 0), decide (0 <= iw ((i : Int).tdiv z.b) /\ iw ((i : Int).tdiv z.b) < z.nv), decide (z.b ≠ 0), decide (0 <= (i : Int).tmod z.b), decide (k = bits.length) && roomW (k + 1), decide (k = right.length) && roomW (k + 1)],
   beK2, beW z m V (k + 1) (bits ++ [[rawBit z i, 0, 0, 0]]) (right ++ [limbs ((val [rawBit z i, 0, 0, 0] - 1) % ell)]) n (iw ((i : Int) + 1))) := by kernel_rfl
def beP (z : BeA) (k : Nat) (v : Vw) : List FCell := prF true 1 z 2 1 (.sl 5 0 k) .nils .nils .nils .nils v .nils .nils
def beH (z : BeA) (bits : List (List Int)) (v : Vw) (V : List PL.den) (k : Nat) : Heap := [.vals (beP z k v), gB z, .arr WS (z.sl.take z.nl) 0 [], .arr WS (z.sr.take z.nr) 0 [], .arr OP (z.vs.take z.nv) 0 [], .arr WS bits 0 [], .arr PL V 0 []]
def beV (z : BeA) (bits right : List (List Int)) (k : Nat) : Vw := { vw0 with A := limbs (vecS z.D z.a bits right z.gs z.hs k k % ell), S := limbs (vecS z.D z.r z.sl z.sr z.gs z.hs z.nl z.nr % ell) }
theorem beg_e (z : BeA) (V : List PL.den) (m k i : Nat) (bits right : List (List Int)) (n : Int) : endT Tryz.prog Tryz.f8 [7, 0, 4, 5, 6, 9, 8] [false, true, true] (beR beK2 (beW z m V k bits right n i)) =
  some ([decide ((i : Int) < n), decide (k <= z.ng /\ k <= z.nh /\ 1 + k + k <= 8192), decide (z.nl <= z.ng /\ z.nr <= z.nh /\ 1 + z.nl + z.nr <= 8192)],
   .tup [.c (.ptr 0 0 0 0 0 0), .c (.sl 6 0 m), .g (vwF (beV z (bits.drop 0) (right.drop 0) k) .nils .nils), .c (.int true .i64 0)], beH z bits (beV z (bits.drop 0) (right.drop 0) k) V k) := by kernel_rfl
theorem roomWk {n : Nat} (h : n <= 1048576) : roomW n = true := roomS h
structure BeOk (z : BeA) : Prop where
 al : alw z.b z.c = true
 ng : z.b * z.c <= z.ng
 nh : z.b * z.c <= z.nh
 nv : (z.nv : Int) = z.c
 nl : (z.nl : Int) = z.b * z.c
 nr : (z.nr : Int) = z.b * z.c
 ok : allOk z.b z.vs z.nv = true
def beN (z : BeA) : Nat := (z.b * z.c).toNat
theorem alw_mul {b c : Int} (h : alw b c = true) : 1 <= b * c /\ b * c <= 1024 /\ iw (b * c) = b * c := by
 obtain ⟨⟨b1, b2⟩, c1, c2⟩ := alw_of h;have h1 : 1 * 1 <= b * c := Int.mul_le_mul b1 c1 (by decide) (by omega)
 have h2 : b * c <= 64 * 16 := Int.mul_le_mul b2 c2 (by omega) (by decide)
 generalize b * c = q at *
 refine ⟨by omega, by omega, ?_⟩
 unfold iw;rw [IntKind.wrap_i64];omega
theorem beOk_of {z : BeA} (h : beE z = 0) : BeOk z := by
 unfold beE fitE at h;split at h
 ·cases h
 rename_i ha;have ha : alw z.b z.c = true := by cases q : alw z.b z.c <;> simp_all
 rw [(alw_mul ha).2.2] at h;split at h
 ·cases h
 rename_i hn;split at h
 ·rename_i ho;refine ⟨ha, ?_, ?_, ?_, ?_, ?_, ho⟩ <;> omega
 ·cases h
def comL (z : BeA) (k : Nat) : List PL.den := (List.range k).map fun i => (comV z i, ())
theorem map_range_snoc {α : Type} (f : Nat -> α) (k : Nat) : (List.range k).map f ++ [f k] = (List.range (k + 1)).map f := by
 rw [List.range_succ, List.map_append];rfl
theorem map_range_len {α : Type} (f : Nat -> α) (k : Nat) : ((List.range k).map f).length = k := by rw [List.length_map, List.length_range]
theorem comL_next (z : BeA) (k : Nat) : cat1 (comL z k) (comV z k) = comL z (k + 1) := map_range_snoc (α := PL.den) (fun i => (comV z i, ())) k
theorem comL_len (z : BeA) (k : Nat) : (comL z k).length = k := map_range_len (α := PL.den) (fun i => (comV z i, ())) k
def bitL (z : BeA) (k : Nat) : List (List Int) := (List.range k).map fun i => [rawBit z i, 0, 0, 0]
def rgtL (z : BeA) (k : Nat) : List (List Int) := (List.range k).map fun i => limbs ((val [rawBit z i, 0, 0, 0] - 1) % ell)
theorem bitL_next (z : BeA) (k : Nat) : bitL z k ++ [[rawBit z k, 0, 0, 0]] = bitL z (k + 1) := by
 unfold bitL;rw [List.range_succ, List.map_append];rfl
theorem rgtL_next (z : BeA) (k : Nat) : rgtL z k ++ [limbs ((val [rawBit z k, 0, 0, 0] - 1) % ell)] = rgtL z (k + 1) := by
 unfold rgtL;rw [List.range_succ, List.map_append];rfl
theorem bitL_len (z : BeA) (k : Nat) : (bitL z k).length = k := by simp [bitL]
theorem rgtL_len (z : BeA) (k : Nat) : (rgtL z k).length = k := by simp [rgtL]
def beVw (z : BeA) : Vw := beV z (bitL z (beN z)) (rgtL z (beN z)) (beN z)
def beRes (z : BeA) : SV := .tup [.c (.ptr 0 0 0 0 0 0), .c (.sl 6 0 z.nv), .g (vwF (beVw z) .nils .nils), .c (.int true .i64 0)]
def beHeap (z : BeA) : Heap := beH z (bitL z (beN z)) (beVw z) (comL z z.nv) (beN z)
theorem lroom {n : Nat} (h : n <= 1048576) : (SX.room n (Tryz.prog.bytesOf 35) && SX.room n 1) = true := by
 rw [show Tryz.prog.bytesOf 35 = 32 from by kernel_rfl, room_ok (by omega), room_ok (by omega)]; rfl
abbrev RB (k : List Item) (s : St) (v : SV) (h : Heap) : Prop := Runs Tryz.prog L13 Tryz.f8 0 k s v h
theorem beg_runs {z : BeA} (h0 : beE z = 0) : RB [.code (cd Tryz.f8)] (beS z) (beRes z) (beHeap z) := by
 have ho := beOk_of h0
 obtain ⟨m1, m2, m3⟩ := alw_mul ho.al;obtain ⟨⟨b1, b2⟩, c1, c2⟩ := alw_of ho.al;have hN : ((beN z : Nat) : Int) = z.b * z.c := Int.toNat_of_nonneg (by omega)
 have e1 := ho.ng
 have e2 := ho.nh
 have e3 := ho.nv
 have e4 := ho.nl
 have e5 := ho.nr
 have hroom : beRoom z = true := by
  have := take_le z.vs z.nv
  unfold beRoom;rw [show Tryz.prog.bytesOf 89 = 40 from by kernel_rfl, room_ok (by omega), room_ok (by omega)]; rfl
 have h := beg_a z
 rw [bneq' h0, hroom, decide_eq_true (show z.nl <= 1048576 /\ z.nr <= 1048576 by omega)] at h
 refine Runs.piece okL13 mx h rfl (by rfl) ?_
 have h := beg_b0 z
 rw [decide_eq_true (by omega), decide_eq_true (by omega), lroom (by decide)] at h
 refine Runs.piece okL13 mx h rfl (by rfl) ?_
 refine loopG (st := fun k (a : List PL.den) => beT z (.sl 8 0 k) k [.arr PL a 0 []]) (I := fun k a => a = comL z k) (n := z.nv) (fun k a hk hI => ?_) (fun a hI => ?_) (z.nv - 1) 1 (cat1 [] (comV z 0)) (by omega) rfl
 ·subst hI;have h := beg_b z (comL z k) k k
  rw [decide_eq_true (show (k : Int) < z.nv by omega), decide_eq_true (show 0 <= (k : Int) /\ (k : Int) < z.nv by omega), decide_eq_true (comL_len z k).symm, lroom (by omega), iwk (by omega), comL_next] at h
  exact ⟨_, rfl, fun hr => Runs.piece okL13 mx h rfl (by rfl) hr⟩
 subst hI;have h := beg_c z (comL z z.nv) z.nv z.nv
 rw [decide_eq_false (by omega), m3, <- hN] at h
 refine Runs.piece okL13 mx h rfl (by rfl) ?_
 have hz0 : iw (((0 : Nat) : Int).tdiv z.b) = 0 := by rw [show ((0 : Nat) : Int) = 0 from rfl, Int.zero_tdiv]; rfl
 have hz1 : ((0 : Nat) : Int).tmod z.b = 0 := by rw [show ((0 : Nat) : Int) = 0 from rfl, Int.zero_tmod]
 have h := beg_d0 z (comL z z.nv) z.nv (beN z : Nat)
 rw [hz0, hz1, decide_eq_true (show ((0 : Nat) : Int) < (beN z : Nat) by omega), decide_eq_true (show z.b ≠ 0 by omega), decide_eq_true (show (0 : Int) <= 0 /\ (0 : Int) < z.nv by omega), decide_eq_true (Int.le_refl 0), roomWk (by decide)] at h
 refine Runs.piece okL13 mx h rfl (by rfl) ?_
 refine loopG (st := fun k (a : List (List Int) × List (List Int)) => beW z z.nv (comL z z.nv) k a.1 a.2 (beN z : Nat) k) (I := fun k a => a = (bitL z k, rgtL z k)) (n := beN z) (fun k a hk hI => ?_) (fun a hI => ?_) (beN z - 1) 1 ([[rawBit z 0, 0, 0, 0]], [limbs ((val [rawBit z 0, 0, 0, 0] - 1) % ell)]) (by omega) rfl
 ·subst hI;have h := beg_d z (comL z z.nv) z.nv k k (bitL z k) (rgtL z k) (beN z : Nat)
  have hq0 : 0 <= (k : Int).tdiv z.b := Int.tdiv_nonneg (by omega) (by omega)
  have hq1 : (k : Int).tdiv z.b < z.nv := by
   rw [e3, Int.tdiv_eq_ediv_of_nonneg (by omega)]
   exact Int.ediv_lt_of_lt_mul (by omega) (by rw [Int.mul_comm]; omega)
  have hq2 : iw ((k : Int).tdiv z.b) = (k : Int).tdiv z.b := by
   unfold iw;rw [IntKind.wrap_i64];omega
  have hr0 : 0 <= (k : Int).tmod z.b := Int.tmod_nonneg _ (by omega)
  rw [hq2, decide_eq_true (show (k : Int) < (beN z : Nat) by omega), decide_eq_true (show z.b ≠ 0 by omega), decide_eq_true (show 0 <= (k : Int).tdiv z.b /\ (k : Int).tdiv z.b < z.nv from ⟨hq0, hq1⟩), decide_eq_true hr0, decide_eq_true (bitL_len z k).symm, decide_eq_true (rgtL_len z k).symm, roomWk (by omega), iwk (by omega), bitL_next, rgtL_next] at h
  exact ⟨_, rfl, fun hr => Runs.piece okL13 mx h rfl (by rfl) hr⟩
 subst hI;have h := beg_e z (comL z z.nv) z.nv (beN z) (beN z) (bitL z (beN z)) (rgtL z (beN z)) (beN z : Nat)
 rw [decide_eq_false (by omega), decide_eq_true (show beN z <= z.ng /\ beN z <= z.nh /\ 1 + beN z + beN z <= 8192 by omega), decide_eq_true (show z.nl <= z.ng /\ z.nr <= z.nh /\ 1 + z.nl + z.nr <= 8192 by omega), List.drop_zero, List.drop_zero] at h
 exact Runs.last okL13 mx h rfl (by rfl)
def beErr (z : BeA) : SV := .tup [.c .nilp, .c .nils, .g (vwF vw0 .nils .nils), .c (.int false .i64 (beE z))]
def TrBegin (vs : List V1) (hl : Heap) : Tree (SV × Heap) :=
 match vs, hl with
 | [.g [.ws .u64 4 B, .ws .u64 4 D, .ws .u64 4 Q, .c (.ro (.pair (.ws .u64 4) .unit) gs ng), .c (.ro (.pair (.ws .u64 4) .unit) hs nh)], .g [.c (.int _ .i64 b), .c (.int _ .i64 c)], .c (.ro (.pair (.int .u64) (.pair (.ws .u64 4) .unit)) vs nv),
   .g [.ws .u64 4 a, .ws .u64 4 r, .ws .u64 4 t1, .ws .u64 4 t2, .c (.ro (.ws .u64 4) sl nl), .c (.ro (.ws .u64 4) sr nr)]], [] =>
  .br (decide (beE ⟨B, D, Q, gs, hs, ng, nh, b, c, vs, nv, a, r, t1, t2, sl, nl, sr, nr⟩ = 0))
   (.ret (beRes ⟨B, D, Q, gs, hs, ng, nh, b, c, vs, nv, a, r, t1, t2, sl, nl, sr, nr⟩, beHeap ⟨B, D, Q, gs, hs, ng, nh, b, c, vs, nv, a, r, t1, t2, sl, nl, sr, nr⟩))
   (.ret (beErr ⟨B, D, Q, gs, hs, ng, nh, b, c, vs, nv, a, r, t1, t2, sl, nl, sr, nr⟩, []))
 | _, _ => .fail
theorem ok_rBegin : EntryOk Tryz.prog G0 8 TrBegin := by
 refine EntryOk.unlitRuns (S := L13) (fn := Tryz.f8) (c := cd Tryz.f8) (by kernel_rfl) (by kernel_rfl) (by kernel_rfl) (fun vs hl res hl' ok h => ?_)
 unfold TrBegin at h;split at h
 ·rename_i B D Q gs ng hs nh l1 b l2 c vs nv a r t1 t2 sl nl sr nr
  generalize hz : (⟨B, D, Q, gs, hs, ng, nh, b, c, vs, nv, a, r, t1, t2, sl, nl, sr, nr⟩ : BeA) = z at h
  have key : RB [.code (cd Tryz.f8)] (beS z) res hl' := by
   by_cases h0 : beE z = 0
   ·rw [decide_eq_true h0] at h;obtain ⟨rfl, rfl⟩ := Prod.mk.inj (val_ret (show (Tree.ret (beRes z, beHeap z)).val = _ from h))
    exact beg_runs h0
   ·rw [decide_eq_false h0] at h;obtain ⟨rfl, rfl⟩ := Prod.mk.inj (val_ret (show (Tree.ret (beErr z, ([] : Heap))).val = _ from h))
    have h := beg_x z
    rw [bneq h0] at h;exact Runs.last okL13 mx h rfl (by rfl)
  subst hz;exact key
 ·cases h
noncomputable def L14 : Tab := L13.put 8 7 TrBegin
theorem okL14 : SpecOk Tryz.prog L14 := okL13.put ok_rBegin
end Go.Sc
