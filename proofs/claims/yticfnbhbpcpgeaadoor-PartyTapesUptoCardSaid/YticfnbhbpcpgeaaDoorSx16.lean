/-
  SX, part 16: conversions, copy.
-/
import Derived.Test.YticfnbhbpcpgeaaDoorSx15
import Derived.Laws.BytesString
import Derived.Laws.IdiomStrings
namespace Go.SX
open Go
variable {G : GlobT} {E : Env} {P : Program}

theorem foldl_strOf (ns : List Int) : ns.foldl (fun r n => r.push (UInt8.ofNat n.toNat)) ByteArray.empty = strOf ns := by
  have key : ∀ (ns : List Int) (s : ByteArray), (ns.foldl (fun r n => r.push (UInt8.ofNat n.toNat)) s).data.toList = s.data.toList ++ ns.map fun n => UInt8.ofNat n.toNat := by
    intro ns
    induction ns with
    | nil => intro s; simp
    | cons n ns ih =>
      intro s
      rw [List.foldl_cons, ih]
      simp [ByteArray.push]
  have h := key ns ByteArray.empty
  unfold strOf
  have : ∀ (a b : ByteArray), a.data = b.data → a = b := fun a b h => by cases a; cases b; simp at h; subst h; rfl
  apply this
  apply Array.ext'
  rw [h]
  simp

/-- the elements of a row of bytes -/
theorem bytes_cells {kd : IntKind} : ∀ {xs : List Int} {news : List Value}, ElemRows E (.int kd) xs news → news = xs.map (Value.int kd) := fun {xs news} h => by
  have hl : news.length = xs.length := by have := h.1; rw [show (DTy.int kd).size = 1 from rfl, Nat.mul_one] at this; exact this
  apply List.ext_getElem?
  intro i
  rw [List.getElem?_map]
  by_cases hi : i < xs.length
  · obtain ⟨us, ⟨rfl, _⟩, q2, q3⟩ := h.2 i hi
    have := q3 0 (by show 0 < 1; omega)
    simp only [DTy.size, Nat.mul_one, Nat.add_zero] at this
    rw [this, List.getElem?_eq_getElem hi]; rfl
  · rw [List.getElem?_eq_none (by omega), List.getElem?_eq_none (by omega)]; rfl

theorem run_b2s {w : World} {a : Addr} {len cap : Nat} {ns : List Int} (h : (loadCells a len).run P w = .ok (ns.map (Value.int .u8)).toArray w) :
    (Conv.bytesToString (.slice (some a) len cap)).run P w = .ok (.string (strOf ns)) w := by
  rw [← foldl_strOf]; exact run_bytesToString w a len cap ns h

theorem src_bytes {a : Option Addr} {len cap : Nat} {xs : List Int} {news : List Value} (h : SrcOk P E (.int .u8) (.slice a len cap) xs news) :
    len = xs.length ∧ ((a = none ∧ xs = []) ∨ ∃ A, a = some A ∧ (loadCells A len).run P E.w = .ok (xs.map (Value.int .u8)).toArray E.w) := by
  have h1 : news = xs.map (Value.int .u8) := bytes_cells h.rows
  have h3 : news.take (xs.length * 1) = news := by
    rw [Nat.mul_one, h1]; exact List.take_of_length_le (by rw [List.length_map]; exact Nat.le_refl _)
  have h2 : (Builtin.firstCells 1 xs.length (.slice a len cap)).run P E.w = .ok (news.take (xs.length * 1)).toArray E.w := h.first E.w xs.length rfl (Nat.le_refl _)
  have h4 : (Builtin.lenOf (.slice a len cap)).run P E.w = .ok xs.length E.w := h.len E.w
  simp only [Builtin.lenOf, Sem.run_pure, Result.ok.injEq] at h4
  rw [h3, h1] at h2
  refine ⟨h4.1, ?_⟩
  cases a with
  | none =>
    left
    refine ⟨rfl, ?_⟩
    simp only [Builtin.firstCells, Sem.run_pure, Result.ok.injEq] at h2
    have h8 := congrArg Array.size h2.1
    simp at h8
    exact List.eq_nil_of_length_eq_zero h8.symm
  | some A =>
    right
    refine ⟨A, rfl, ?_⟩
    simp only [Builtin.firstCells, Nat.mul_one] at h2
    rw [h4.1]
    exact h2

theorem convT_sound (hE : RepH G E) {look : Look} (hk : LookOk E look) {nid : Nat} (hn : fresh1 E nid) {src dst : TypeId} {x : SV} {u : Value} {r : Res} (hx : RelS E x u) (h : (convT P look nid src dst x).val = some r) : SemOk P G E (convert src dst u) r := by
  unfold convT at h
  split at h
  · rename_i k' k l kk n hs hd
    obtain rfl := val_ret h
    obtain ⟨rfl, _⟩ := hx
    exact SemOk.pure hE (u := .int k (k.wrap n)) (by simp [convert, run_underlying hs, run_underlying hd, Conv.intToInt]) ⟨rfl, inK_wrap _ _⟩
  · rename_i s hs hd
    obtain rfl := val_ret h
    obtain rfl : u = .string s := hx
    exact SemOk.pure hE (u := .string s) (by simp [convert, run_underlying hs, run_underlying hd]) rfl
  · rename_i e s hs hd
    split at h
    · rename_i he
      split at h
      · rename_i hc
        obtain ⟨h1, h2⟩ := val_chk h
        obtain rfl := val_ret h2
        have h1 := of_decide_eq_true h1
        obtain rfl : u = .string s := hx
        have hrun := run_bytes_of_string (P := P) E.w src dst e s hs hd he
        have hgb := grownCap_bounds E.w s.size 0 e h1
        have hsrc := src_str (P := P) (E := E) (s := s)
        have hel : ElemRows E (.int .u8) (s.data.toList.map fun b => (b.toNat : Int) : List Int) (s.data.toList.map fun b => Value.int .u8 b.toNat) := hsrc.rows
        have hf : Frozen G E [] E.R := ⟨hE, Ext.refl E⟩
        have hsz : (bytesRow s (grownCap E.w s.size 0 e)).size = grownCap E.w s.size 0 e := by
          unfold bytesRow
          have e1 : s.data.size = s.size := rfl
          simp [e1]; omega
        have hrows : Rows (DTy.int .u8).size (RoT E (.int .u8)) (s.data.toList.map fun b => (b.toNat : Int) : List Int) 0 (bytesRow s (grownCap E.w s.size 0 e)) := by
          have := rows_of_elems (rest := List.replicate (grownCap E.w s.size 0 e - s.size) (.int .u8 0)) (elem_nil (E := E) (t := .int .u8)) hel
          have e2 : bytesRow s (grownCap E.w s.size 0 e) = ([] ++ (s.data.toList.map fun (b : UInt8) => Value.int .u8 (b.toNat : Int)) ++ List.replicate (grownCap E.w s.size 0 e - s.size) (Value.int .u8 0)).toArray := by
            apply Array.ext'
            simp [bytesRow]
          rw [e2]
          exact this
        have hlen : List.length (α := Int) (s.data.toList.map fun b => (b.toNat : Int)) = s.size := (List.length_map _).trans Array.length_toList
        refine ⟨_, _, hrun, ?_⟩
        exact newArr_sound hE hf hn (fun p hp => by cases hp) (t := .int .u8) (xs := (s.data.toList.map fun b => (b.toNat : Int) : List Int)) (n := s.size) (cap := grownCap E.w s.size 0 e) (c := bytesRow s (grownCap E.w s.size 0 e)) (e := e) (fz := ((bytesRow s (grownCap E.w s.size 0 e)).size, (bytesRow s (grownCap E.w s.size 0 e)).size + 1))
          ⟨rfl, rfl, rfl⟩ rfl (fun i hi h => by omega) (by show 0 < 1; omega) hrows (by rw [hsz]; show _ * 1 = _; rw [Nat.mul_one]) hgb.2 (by show s.size ≤ List.length (α := Int) _; rw [hlen]; exact Nat.le_refl _) hgb.1
      · cases h
    · cases h
  · rename_i e x hs hd
    split at h
    · rename_i he
      split at h
      · cases h
      rename_i hns
      split at h
      · rename_i xs hel
        obtain rfl := val_ret h
        obtain ⟨news, hsrc⟩ := elemsOf_sound (P := P) hE hk hx hel
        have hsl : (∃ a len cap, u = .slice a len cap) ∨ ∃ s, u = .string s := by
          cases u with
          | slice a len cap => exact .inl ⟨a, len, cap, rfl⟩
          | string s => exact .inr ⟨s, rfl⟩
          | _ => exact absurd (hsrc.len E.w) (by intro h; cases h)
        rcases hsl with ⟨a, len, cap, rfl⟩ | ⟨s, rfl⟩
        · obtain ⟨hl, h9⟩ := src_bytes (xs := xs) hsrc
          rcases h9 with ⟨rfl, hxe⟩ | ⟨A, rfl, hload⟩
          · refine SemOk.pure hE (u := .string .empty) (by simp [convert, run_underlying hs, run_underlying hd, run_underlying he, Conv.bytesToString]) ?_
            show Value.string .empty = Value.string (strOf xs)
            rw [show xs = ([] : List Int) from hxe]; rfl
          · have := run_b2s (P := P) (cap := cap) (ns := xs) hload
            exact SemOk.pure hE (u := .string (strOf xs)) (by simp only [convert, Sem.run_bind, run_underlying hs, run_underlying hd, run_underlying he, Result.andThen_ok]; exact this) rfl
        · exfalso
          unfold elemsOf at hel
          split at hel
          · have : Value.string s = .slice none 0 0 := hx
            cases this
          · obtain ⟨_, _, h9, _⟩ := hx; cases h9
          · obtain ⟨_, _, h9, _⟩ := sl_known hx; cases h9
          · obtain ⟨_, hx⟩ := hx
            unfold RelSla at hx
            split at hx
            · obtain ⟨_, _, h9, _⟩ := hx; cases h9
            · obtain ⟨_, _, h9, _⟩ := hx; cases h9
            · exact hx
          · cases hns
          · cases hel
      · cases h
    · cases h
  · cases h

theorem run_copy {T X ty e : TypeId} {types : Array TypeId} (hty : types[0]? = some T) (hT : P.underlying T = some (.slice e)) {t : DTy} (hs : P.cellsOf e = t.size) (hz : 0 < t.size) {u : Value} {xs : List t.den} {news : List Value} (hsrc : SrcOk P E t u xs news) (k o dLen cap : Nat)
    {c : Array Value} {ce : TypeId} {fz : Nat × Nat} (hc : E.w.heap[k]? = some (.cells c ce fz)) (ho : o + (min xs.length dLen) * t.size ≤ c.size) (hfz : NoFz fz c.size) :
    (Builtin.copy_ types ty #[.slice (some ⟨k, o, none⟩) dLen cap, u]).run P E.w = .ok (.int .i64 (min xs.length dLen : Nat)) (E.w.setCells k o (news.take ((min xs.length dLen) * t.size))) := by
  have hl : (news.take ((min xs.length dLen) * t.size)).length = (min xs.length dLen) * t.size := by
    rw [List.length_take, hsrc.rows.1]
    have : min xs.length dLen * t.size ≤ xs.length * t.size := Nat.mul_le_mul_right _ (Nat.min_le_left _ _)
    omega
  obtain ⟨s1, s2⟩ := cells_there (n := (news.take ((min xs.length dLen) * t.size)).length) hc (by rw [hl]; exact ho) hfz
  have hst := run_storeCells_cells (P := P) k o (news.take ((min xs.length dLen) * t.size)) 0 E.w (by simpa using s1) (by simpa using s2) (fun v hv => single_oneCell (hsrc.rows.single hz v (List.mem_of_mem_take hv)))
  simp only [Nat.add_zero] at hst
  have hf := hsrc.first E.w (min xs.length dLen) rfl (Nat.min_le_left _ _)
  simp [Builtin.copy_, hty, run_underlying hT, hsrc.len, run_sizeOf_pos (show 0 < P.cellsOf e by omega), hs, hf, hst, goInt, Nat.min_def] at *
end Go.SX
