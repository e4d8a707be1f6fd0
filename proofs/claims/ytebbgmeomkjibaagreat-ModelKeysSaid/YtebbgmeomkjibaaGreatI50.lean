/- This file holds in one the texts ZO32; each says at its head what it proves. -/
import Derived.Test.YtebbgmeomkjibaaGreatI49
import Derived.Test.YtebbgmeomkjibaaGreatRows
import Derived.ProofKit
import Derived.OpenShut
set_option linter.unusedSimpArgs false
set_option linter.unusedVariables false
section
/- model: the arguments of rows. -/
set_option maxRecDepth 100000
namespace Go.Proofs.YtebbgmeomkjibaaGreat
open Go.AM Go.Mod Go.ChangeShapes Go.WideShapes Go.ChangeAt Go.RowKit

theorem reads_int {n : Nat} {t : TypeId} {k : IntKind} {xs : List V} (hu : (Tryz.prog).underlying t = some (.int k)) (h : Reads Tryz.prog n t xs) : ∃ m, xs = [.int k m] := by
  cases n with
  | zero => exact h.elim
  | succ n =>
    unfold Reads at h
    rw [hu] at h
    obtain ⟨m, h1, _⟩ := h
    exact ⟨m, h1⟩
theorem reads_str {n : Nat} {t : TypeId} {xs : List V} (hu : (Tryz.prog).underlying t = some .string) (h : Reads Tryz.prog n t xs) : ∃ s, xs = [.str s] := by
  cases n with
  | zero => exact h.elim
  | succ n =>
    unfold Reads at h
    rw [hu] at h
    obtain ⟨m, h1, _⟩ := h
    exact ⟨m, h1⟩
theorem reads_bytes {n : Nat} {t e : TypeId} {xs : List V} (hu : (Tryz.prog).underlying t = some (.slice e)) (he : (Tryz.prog).underlying e = some (.int .u8)) (h : Reads Tryz.prog n t xs) : ∃ v l, xs = [v] ∧ IsBytes v l := by
  cases n with
  | zero => exact h.elim
  | succ n =>
    unfold Reads at h
    rw [hu] at h
    rcases h with h | ⟨ys, h, _, h2⟩
    · exact ⟨_, [], h, IsBytes.nil⟩
    · obtain ⟨l, h3, h4⟩ := flatten_bytes he ys h2
      exact ⟨_, l, h, by rw [h3, ← h4]; exact IsBytes.mk l false⟩
/-- A call's cells are read. -/
theorem reads_call {n : Nat} {xs : List V} (h : Reads Tryz.prog n 32 xs) : ∃ c dv, xs = callC c dv ∧ IsBytes dv c.data := by
  cases n with
  | zero => exact h.elim
  | succ n =>
    unfold Reads at h
    rw [Tryz.underlying32] at h
    simp only [ReadsAll, List.map_cons, List.map_nil] at h
    obtain ⟨x1, r1, a1, ⟨x2, r2, a2, ⟨x3, r3, a3, ⟨x4, r4, a4, ⟨x5, r5, a5, ⟨x6, r6, a6, ⟨x7, r7, a7, ⟨x8, r8, a8, e9, rfl⟩, rfl⟩, rfl⟩, rfl⟩, rfl⟩, rfl⟩, rfl⟩, rfl⟩ := h
    obtain ⟨m1, rfl⟩ := reads_int Tryz.underlying5 a1
    obtain ⟨m2, rfl⟩ := reads_int Tryz.underlying3 a2
    obtain ⟨m3, rfl⟩ := reads_int Tryz.underlying3 a3
    obtain ⟨m4, rfl⟩ := reads_int Tryz.underlying3 a4
    obtain ⟨s5, rfl⟩ := reads_str Tryz.underlying9 a5
    obtain ⟨s6, rfl⟩ := reads_str Tryz.underlying9 a6
    obtain ⟨s7, rfl⟩ := reads_str Tryz.underlying9 a7
    obtain ⟨v8, l8, rfl, h8⟩ := reads_bytes Tryz.underlying30 Tryz.underlying5 a8
    subst e9
    exact ⟨⟨m1, m2, m3, m4, s5, s6, s7, l8⟩, v8, rfl, h8⟩
theorem calls_flat {n : Nat} : ∀ ys : List (List V), (∀ y ∈ ys, Reads Tryz.prog n 32 y) → ∃ l : List MCall, l.length = ys.length ∧ CallsR ys.flatten l
  | [], _ => ⟨[], rfl, rfl⟩
  | y :: ys, h => by
    obtain ⟨l, h1, h2⟩ := calls_flat ys fun z hz => h z (List.mem_cons_of_mem _ hz)
    obtain ⟨c, dv, rfl, h3⟩ := reads_call (h y (by simp))
    exact ⟨c :: l, by simp [h1], dv, _, rfl, h3, h2⟩
theorem arg_calls {n : Nat} {y : V} (h : ArgRead Tryz.prog n 22 y) : ∃ l cs, IsSl 8 y cs l.length ∧ CallsR cs l := by
  unfold ArgRead at h
  rw [Tryz.underlying22] at h
  cases n with
  | zero => exact h.elim
  | succ n =>
    simp only [Reads, Tryz.underlying22] at h
    rcases h with h | ⟨ys, h, _, h2⟩
    · cases h; exact ⟨[], [], IsSl.nil, rfl⟩
    · cases h
      obtain ⟨l, h3, h4⟩ := calls_flat ys h2
      refine ⟨l, ys.flatten, ?_, h4⟩
      rw [← h3]
      exact IsSl.mk h4.len

theorem frz_true {g : Get} {n : Nat} {v : V} (h : frz g (n + 1) v = some (.bool true)) : v = .bool true := by
  cases v with
  | bool b => simp only [frz] at h; cases h; rfl
  | _ => exfalso; simp only [frz] at h; revert h; (repeat' split) <;> simp
theorem fz_true {f : FuncId} {xs : List V} (h : Fz Tryz.prog pol f xs fun r => r = .bool true) : ∃ H', callW Tryz.prog pol f xs [] = some (.ret (.bool true), H') := by
  obtain ⟨v, H', v', h1, h2, rfl⟩ := h
  exact ⟨H', by rw [h1, frz_true h2]⟩

theorem arg_str {n : Nat} {y : V} (h : ArgRead Tryz.prog n 9 y) : ∃ s, y = .str s := by
  unfold ArgRead at h
  rw [Tryz.underlying9] at h
  cases n with
  | zero => exact h.elim
  | succ n =>
    simp only [Reads, Tryz.underlying9] at h
    obtain ⟨s, h, _⟩ := h
    cases h
    exact ⟨s, rfl⟩
end Go.Proofs.YtebbgmeomkjibaaGreat
end
