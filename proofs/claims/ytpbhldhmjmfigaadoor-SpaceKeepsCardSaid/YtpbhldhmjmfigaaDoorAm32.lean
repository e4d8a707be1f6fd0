/- The abstract machine, part 32: bytes and numbers in objects, frozen and written. -/
import Derived.Test.YtpbhldhmjmfigaaDoorAm31
set_option linter.unusedSimpArgs false
set_option linter.unusedVariables false
namespace Go.AM

theorem frzL_ofBytes (g : Get) (n : Nat) : ∀ l : List UInt8, frzL (frz g (n + 1)) (ofBytes l) = some (ofBytes l)
  | [] => rfl
  | b :: l => by
    have := frzL_ofBytes g n l
    simp only [ofBytes, List.map_cons] at this ⊢
    exact frzL_cons rfl this
theorem frzL_ofInts (g : Get) (n : Nat) : ∀ l : List Int, frzL (frz g (n + 1)) (ofInts l) = some (ofInts l)
  | [] => rfl
  | b :: l => by
    have := frzL_ofInts g n l
    simp only [ofInts, List.map_cons] at this ⊢
    exact frzL_cons rfl this
theorem frz_bytes {g : Get} {f s o len m : Nat} {cap : Option Nat} {xs : List V} {l : List UInt8} (hg : g f s = some (.cells xs)) (hx : (xs.drop o).take len = ofBytes l) (hl : o + len ≤ xs.length) :
    frz g (m + 2) (.mslice f s o len cap 1) = some (.islice (ofBytes l) len (cap == some len)) := by
  show (match g f s with
    | some (.cells xs) => if o + len * 1 ≤ xs.length then (frzL (frz g (m + 1)) ((xs.drop o).take (len * 1))).map fun cs => V.islice cs len (cap == some len) else none
    | _ => none) = _
  rw [hg]
  simp only [Nat.mul_one, if_pos hl, hx, frzL_ofBytes, Option.map_some]
theorem frz_bytes0 {g : Get} {f s m : Nat} {cap : Option Nat} {l : List UInt8} (hg : g f s = some (.cells (ofBytes l))) :
    frz g (m + 2) (.mslice f s 0 l.length cap 1) = some (.islice (ofBytes l) l.length (cap == some l.length)) :=
  frz_bytes hg (by rw [List.drop_zero, List.take_of_length_le (by rw [ofBytes_length]; omega)]) (by rw [ofBytes_length]; omega)
theorem frz_tup {g : Get} {cs cs' : List V} (h : frzL (frz g 11) cs = some cs') : frz g depth (.tuple cs) = some (.tuple cs') := by
  show (frzL (frz g 11) cs).map V.tuple = _
  rw [h]; rfl

theorem splice_byte (l : List UInt8) (i : Nat) (b : UInt8) (h : i < l.length) : splice (ofBytes l) i [.int .u8 b.toNat] = ofBytes (l.set i b) := by
  simp only [splice, ofBytes, List.length_singleton, List.map_set]
  rw [List.set_eq_take_append_cons_drop, if_pos (by simpa using h)]
  simp
theorem splice_int (l : List Int) (i : Nat) (b : Int) (h : i < l.length) : splice (ofInts l) i [.int .i64 b] = ofInts (l.set i b) := by
  simp only [splice, ofInts, List.length_singleton, List.map_set]
  rw [List.set_eq_take_append_cons_drop, if_pos (by simpa using h)]
  simp

section
variable {P : Program} {u e : TypeId} {g : Get}
/-- A byte is written. -/
theorem store_byte {mt : Nat → Bool} {fr : Nat} {r : Operand → V} {dst : Option Nat} {ty : TypeId} {ps : String} {af : Array Edge} {a x : Operand} {f s o : Nat} {b : UInt8} {l : List UInt8} (hs : sz P u = some 1) (ha : r a = .ptr f s o) (hx : r x = .int .u8 b.toNat)
    (hg : g f s = some (.cells (ofBytes l))) (ho : o < l.length) :
    evOp P mt fr g r { dst := dst, op := .store u a x, type := ty, pos := ps, after := af, guard := none } = some (.val .bad (some (f, s, .cells (ofBytes (l.set o b))))) := by
  simp only [evOp, ha, hx, V.cells, hs, hg, List.length_singleton, ofBytes_length, true_and]
  rw [if_pos (by omega), splice_byte _ _ _ ho]
theorem at_m (hu : P.underlying u = some (.slice e)) {q : Nat} (hs : sz P e = some q) {f s o len : Nat} {cap : Option Nat} {k : IntKind} {i : Int} (h0 : 0 ≤ i) (hi : i < len) : indexAddrV P u (.mslice f s o len cap q) (.int k i) = some (.ptr f s (o + i.toNat * q)) := by
  simp only [indexAddrV, hu, hs]
  rw [if_pos ⟨h0, hi, trivial⟩]
theorem at_g (hu : P.underlying u = some (.slice e)) {q : Nat} (hs : sz P e = some q) {f s len : Nat} {cs : List V} {k : IntKind} {i : Int} (h0 : 0 ≤ i) (hi : i < len) : indexAddrV P u (.gslice f s cs len q) (.int k i) = some (.iptr cs (i.toNat * q)) := by
  simp only [indexAddrV, hu, hs]
  rw [if_pos ⟨h0, hi, trivial⟩]
theorem len_m (hu : P.underlying u = some (.slice e)) {f s o len esz : Nat} {cap : Option Nat} : ∀ g, lenV P g u (.mslice f s o len cap esz) = some (.int .i64 len) := fun g => by simp only [lenV, hu]
theorem len_g (hu : P.underlying u = some (.slice e)) {f s len esz : Nat} {cs : List V} : ∀ g, lenV P g u (.gslice f s cs len esz) = some (.int .i64 len) := fun g => by simp only [lenV, hu]
end
theorem fset_fset (s : Nat) (o o' : O) : ∀ F : Frame, fset (fset F s o) s o' = fset F s o'
  | [] => by simp [fset]
  | (k, p) :: r => by
    simp only [fset]
    by_cases h : s = k
    · simp [h, fset]
    · simp only [h, if_false]
      by_cases h2 : s < k
      · simp [h2, fset]
      · simp only [h2, if_false, fset, h, fset_fset s o o' r]
theorem hset_hset (H : Heap) (f s : Nat) (o o' : O) : hset (hset H f s o) f s o' = hset H f s o' := by
  unfold hset
  rw [List.modify_modify_eq]
  congr 1
  funext F
  exact fset_fset s o o' F
theorem fset_clear {p : Nat → Nat → Bool} {s : Nat} {o : O} (h : o.refs p = false) : ∀ F : Frame, clearF p F = true → clearF p (fset F s o) = true
  | [], _ => by simp [fset, clearF, h]
  | (k, q) :: r, h2 => by
    simp only [clearF, Bool.and_eq_true, Bool.not_eq_true'] at h2
    simp only [fset]
    split
    · simp [clearF, h, h2.2]
    · split
      · simp [clearF, h, h2.1, h2.2]
      · simp [clearF, h2.1, fset_clear h r h2.2]
theorem hset_clear {p : Nat → Nat → Bool} {s : Nat} {o : O} (h : o.refs p = false) : ∀ (H : Heap) (f : Nat), clearH p H = true → clearH p (hset H f s o) = true
  | [], f, _ => by simp [hset, clearH]
  | F :: H, 0, h2 => by
    simp only [clearH, Bool.and_eq_true] at h2
    simp [hset, clearH, fset_clear h F h2.1, h2.2]
  | F :: H, f + 1, h2 => by
    simp only [clearH, Bool.and_eq_true] at h2
    have := hset_clear (s := s) h H f h2.2
    simp only [hset] at this ⊢
    simp [clearH, h2.1, this]
theorem WF.hset {H : Heap} {f s : Nat} {o : O} (h : WF H) (ho : o.refs (fun f _ => Nat.ble H.length f) = false) : WF (hset H f s o) := by
  unfold WF
  rw [hset_length]
  exact hset_clear ho H f h
theorem hget_hset_self {H : Heap} {f s : Nat} {o : O} (h : f < H.length) : hget (hset H f s o) f s = some o := by
  rw [hget_hset H f s o h, if_pos ⟨rfl, rfl⟩]
theorem hget_hset_else {H : Heap} {f s f' s' : Nat} {o : O} (h : f < H.length) (hn : ¬ (f' = f ∧ s' = s)) : hget (hset H f s o) f' s' = hget H f' s' := by
  rw [hget_hset H f s o h, if_neg hn]

theorem refsL_ofBytes (p : Nat → Nat → Bool) : ∀ l : List UInt8, refsL p (ofBytes l) = false
  | [] => rfl
  | b :: l => by
    have := refsL_ofBytes p l
    simp only [ofBytes, List.map_cons, refsL, V.refs, Bool.false_or] at this ⊢
    exact this
theorem refsL_ofInts (p : Nat → Nat → Bool) : ∀ l : List Int, refsL p (ofInts l) = false
  | [] => rfl
  | b :: l => by
    have := refsL_ofInts p l
    simp only [ofInts, List.map_cons, refsL, V.refs, Bool.false_or] at this ⊢
    exact this
theorem IsSl.cells1 {esz n : Nat} {v : V} {cells : List V} (h : IsSl esz v cells n) : v.cells = some [v] := by
  obtain ⟨_, ⟨rfl, _⟩ | ⟨f, rfl⟩⟩ := h <;> rfl
theorem cells_int {k : IntKind} {n : Int} : (V.int k n).cells = some [.int k n] := rfl
theorem cells_bool {b : Bool} : (V.bool b).cells = some [.bool b] := rfl
theorem cells_str {s : List UInt8} : (V.str s).cells = some [.str s] := rfl
theorem cells_nilptr : V.nilptr.cells = some [.nilptr] := rfl
theorem cells_ptr {f s o : Nat} : (V.ptr f s o).cells = some [.ptr f s o] := rfl
theorem cells_iptr {c : List V} {o : Nat} : (V.iptr c o).cells = some [.iptr c o] := rfl
theorem cells_nilslice : V.nilslice.cells = some [.nilslice] := rfl
theorem cells_islice {c : List V} {n : Nat} {f : Bool} : (V.islice c n f).cells = some [.islice c n f] := rfl
theorem cells_gslice {f s : Nat} {c : List V} {n e : Nat} : (V.gslice f s c n e).cells = some [.gslice f s c n e] := rfl
theorem cells_mslice {f s o n e : Nat} {c : Option Nat} : (V.mslice f s o n c e).cells = some [.mslice f s o n c e] := rfl
theorem cells_nilmap : V.nilmap.cells = some [.nilmap] := rfl
theorem cells_map {f s : Nat} : (V.map f s).cells = some [.map f s] := rfl
theorem cells_func {f : Fn} {a b : List V} : (V.func f a b).cells = some [.func f a b] := rfl
theorem cells_nilfunc : V.nilfunc.cells = some [.nilfunc] := rfl
theorem cells_nilface : V.nilface.cells = some [.nilface] := rfl
theorem cells_face {t : TypeId} {v : V} : (V.face t v).cells = some [.face t v] := rfl
theorem eq_islice {P : Program} {t e : TypeId} (hu : P.underlying t = some (.slice e)) {x y : Operand} {cs : List V} {n : Nat} {f : Bool} : binV P .eql t x y (.islice cs n f) .nilslice = some (.bool false) := by
  simp [binV, eqOp, hu, nilKind, eqNil, V.isNil]
theorem eq_nilslice {P : Program} {t e : TypeId} (hu : P.underlying t = some (.slice e)) {x y : Operand} : binV P .eql t x y .nilslice .nilslice = some (.bool true) := by
  simp [binV, eqOp, hu, nilKind, eqNil, V.isNil]
theorem gb {l : List UInt8} {i : Nat} (h : i < l.length) : (ofBytes l)[(i : Int).toNat * 1]? = some (.int .u8 l[i].toNat) := by simp [ofBytes_get, h]
theorem gi {l : List Int} {i : Nat} (h : i < l.length) : (ofInts l)[(i : Int).toNat * 1]? = some (.int .i64 l[i]) := by simp [ofInts_get, h]
theorem u8_eq (a b : UInt8) : ((a.toNat : Int) = (b.toNat : Int)) ↔ a = b := ⟨fun h => UInt8.toNat_inj.1 (by omega), fun h => by rw [h]⟩
theorem u8_beq (a b : UInt8) : ((a.toNat : Int) == (b.toNat : Int)) = (a == b) := by
  rw [Bool.eq_iff_iff, beq_iff_eq, beq_iff_eq, u8_eq]
theorem u8_bne (a b : UInt8) : ((a.toNat : Int) != (b.toNat : Int)) = (a != b) := by
  simp only [bne, u8_beq]
theorem wrap_i64 {n : Int} (h1 : -9223372036854775808 ≤ n) (h2 : n ≤ 9223372036854775807) : (IntKind.i64).wrap n = n := by
  rw [IntKind.wrap_i64]; omega
theorem wrap_add1 {i : Nat} (h : i < 9223372036854775807) : (IntKind.i64).wrap ((i : Int) + 1) = ((i + 1 : Nat) : Int) := by
  rw [wrap_i64] <;> omega
end Go.AM
