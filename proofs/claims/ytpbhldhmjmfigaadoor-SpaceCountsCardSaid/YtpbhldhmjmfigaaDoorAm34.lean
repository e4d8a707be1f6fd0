/- The abstract machine, part 34: arguments of a row as bytes and numbers; strings of bytes. -/
import Derived.Test.YtpbhldhmjmfigaaDoorAm33
set_option linter.unusedSimpArgs false
set_option linter.unusedVariables false
namespace Go.AM
section
variable {P : Program} {t e : TypeId} {n : Nat} {y : V}

theorem flatten_bytes (he : P.underlying e = some (.int .u8)) : ∀ (ys : List (List V)), (∀ y ∈ ys, Reads P n e y) → ∃ l : List UInt8, ys.flatten = ofBytes l ∧ l.length = ys.length
  | [], _ => ⟨[], rfl, rfl⟩
  | y :: ys, h => by
    obtain ⟨l, h1, h2⟩ := flatten_bytes he ys fun z hz => h z (by simp [hz])
    have hy := h y (by simp)
    cases n with
    | zero => exact hy.elim
    | succ n =>
      unfold Reads at hy
      rw [he] at hy
      obtain ⟨m, rfl, hm⟩ := hy
      have hr : 0 ≤ m ∧ m ≤ 255 := by simpa [Lit.wf, IntKind.min, IntKind.max, IntKind.signed, IntKind.bits] using hm
      refine ⟨UInt8.ofNat m.toNat :: l, ?_, by simp [h2]⟩
      simp only [List.flatten_cons, h1, ofBytes, List.map_cons, List.singleton_append, List.cons.injEq, and_true, V.int.injEq, true_and]
      have : (UInt8.ofNat m.toNat).toNat = m.toNat := by simp [UInt8.toNat_ofNat']; omega
      rw [this]; omega
theorem arg_bytes (hu : P.underlying t = some (.slice e)) (he : P.underlying e = some (.int .u8)) (h : ArgRead P n t y) : ∃ l, IsBytes y l := by
  unfold ArgRead at h
  rw [hu] at h
  cases n with
  | zero => exact h.elim
  | succ n =>
    simp only [Reads, hu] at h
    rcases h with h | ⟨ys, h, _, h2⟩
    · cases h; exact ⟨[], IsBytes.nil⟩
    · cases h
      obtain ⟨l, h3, h4⟩ := flatten_bytes he ys h2
      rw [h3, ← h4]
      exact ⟨l, IsBytes.mk l false⟩
theorem arg_int {k : IntKind} (hu : P.underlying t = some (.int k)) (h : ArgRead P n t y) : ∃ m, y = .int k m ∧ (Lit.int k m).wf = true := by
  unfold ArgRead at h
  rw [hu] at h
  cases n with
  | zero => exact h.elim
  | succ n =>
    simp only [Reads, hu] at h
    obtain ⟨m, h1, h2⟩ := h
    cases h1
    exact ⟨m, rfl, h2⟩
end

theorem conv_bytes {P : Program} {s d e : TypeId} {g : Get} {x : V} {l : List UInt8} {n : Nat} (hs : P.underlying s = some (.slice e)) (he : P.underlying e = some (.int .u8)) (hd : P.underlying d = some .string) (h : sliceCells g 1 x = some (ofBytes l, n)) :
    convertV P g s d x = some (.val (.str l) none) := by
  have hn : ∀ l, x ≠ .str l := by intro l e; subst e; simp [sliceCells] at h
  have hn2 : ∀ k m, x ≠ .int k m := by intro k m e; subst e; simp [sliceCells] at h
  simp only [convertV, hs, hd, he, h, bytesOf_ofBytes, Option.map_some]
theorem sc_own {g : Get} {f s : Nat} {c : Option Nat} {l : List UInt8} (h : g f s = some (.cells (ofBytes l))) : sliceCells g 1 (.mslice f s 0 l.length c 1) = some (ofBytes l, l.length) := by
  simp only [sliceCells, h, Nat.mul_one, Nat.zero_add, ofBytes_length, Nat.le_refl, and_self, if_true, List.drop_zero]
  rw [List.take_of_length_le (by rw [ofBytes_length]; exact Nat.le_refl _)]
theorem u8_add (a b : UInt8) : (IntKind.u8).wrap ((a.toNat : Int) + (b.toNat : Int)) = ((a + b).toNat : Int) := by
  rw [UInt8.toNat_add, IntKind.wrap_u8]
  omega
end Go.AM
