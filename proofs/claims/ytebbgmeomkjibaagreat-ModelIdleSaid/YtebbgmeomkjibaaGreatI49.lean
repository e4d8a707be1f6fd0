/- This file holds in one the texts ZO31; each says at its head what it proves. -/
import Derived.Test.YtebbgmeomkjibaaGreatI48
set_option linter.unusedSimpArgs false
set_option linter.unusedVariables false
section
/- model: lists of calls that are appended to. -/
set_option maxRecDepth 100000
namespace Go.Proofs.YtebbgmeomkjibaaGreat
open Go.AM Go.Mod

attribute [local irreducible] U W

theorem CallsR.pure : ∀ {l : List MCall} {cs : List V}, CallsR cs l → pureL cs = true ∧ cs.all V.scalar = true
  | [], cs, h => by
    have : cs = [] := h
    subst this; exact ⟨rfl, rfl⟩
  | x :: l, cs, h => by
    obtain ⟨dv, d, rfl, h1, h2⟩ := h
    have := h2.pure
    have p1 := IsSl.pure h1
    have p2 := IsSl.scalar h1
    refine ⟨pl_app (by simp only [callC, pureL, V.pure, p1, Bool.and_self]) this.1, ?_⟩
    rw [List.all_append, this.2, Bool.and_true]
    simp only [callC, List.all_cons, p2]; rfl

/-- A list of one's own that is appended to. -/
def Gr (H : Heap) (s : V) (cs : List V) (n esz : Nat) : Prop := (s = .nilslice ∧ n = 0 ∧ cs = []) ∨ ∃ f sl, s = .gslice f sl cs n esz ∧ hget H f sl = some (.grow n) ∧ cs.length = n * esz
theorem by_call : byt Tryz.prog 32 = some 104 := by kernel_rfl
theorem Gr.frz {H : Heap} {s : V} {cs : List V} {n esz : Nat} (h : Gr H s cs n esz) : ∃ w, (∀ (g : Get) (m : Nat), AM.frz g (m + 1) s = some w) ∧ IsSl esz w cs n := by
  rcases h with ⟨rfl, rfl, rfl⟩ | ⟨f, sl, rfl, _, hl⟩
  · exact ⟨.nilslice, fun _ _ => rfl, IsSl.nil⟩
  · exact ⟨.islice cs n false, fun _ _ => rfl, IsSl.mk hl⟩
theorem Gr.len {H : Heap} {s : V} {cs : List V} {n esz : Nat} {u e : TypeId} {P : Program} (h : Gr H s cs n esz) (hu : P.underlying u = some (.slice e)) : ∀ g, lenV P g u s = some (.int .i64 n) := by
  intro g
  rcases h with ⟨rfl, rfl, rfl⟩ | ⟨f, sl, rfl, _, hl⟩
  · exact ln_nil hu
  · simp only [lenV, hu]
/-- Calls are appended. -/
theorem app_calls {H : Heap} {s x : V} {cs ds : List V} {n m d fr : Nat} {mt : Nat → Bool} (h : Gr H s cs n 8) (hx : IsSl 8 x ds m) (hp : pureL ds = true) (hs : ds.all V.scalar = true) (hd : hget H fr d = none) (hfr : fr < H.length) (hm : mt d = false) (hn : n + m ≤ 1000) :
    ∃ s' w, appendV Tryz.prog mt fr (hget H) (some d) 22 22 s x = some (.val s' w) ∧ Gr (wr H w) s' (cs ++ ds) (n + m) 8 ∧ (wr H w).length = H.length ∧ (∀ e, e ≠ d → hget H fr e = none → hget (wr H w) fr e = none) := by
  cases m with
  | zero =>
    have hds : ds = [] := List.eq_nil_of_length_eq_zero (by simpa using hx.1)
    subst hds
    refine ⟨s, none, ?_, by simpa [wr] using h, rfl, fun e _ h => h⟩
    refine app_none Tryz.underlying22 sz32 by_call zc32 rfl Tryz.underlying22 ?_ (IsSl.sc hx)
    rcases h with ⟨rfl, _⟩ | ⟨f, sl, rfl, _⟩ <;> rfl
  | succ m =>
    rcases h with ⟨rfl, rfl, rfl⟩ | ⟨f, sl, rfl, hg, hl⟩
    · refine ⟨.gslice fr d ds (m + 1) 8, some (fr, d, .grow (m + 1)), ?_, .inr ⟨fr, d, by simp, ?_, by simpa using hx.1⟩, by simp [wr, hset_length], fun e he h => ?_⟩
      · rw [app_nil Tryz.underlying22 sz32 by_call zc32 rfl Tryz.underlying22 (IsSl.sc hx) (by omega) (roomy_of (by omega) (by omega)), grown_im hm hp hd]
      · simp only [wr]; rw [hget_same hfr]; simp
      · simp only [wr]; rw [hget_slot hfr he]; exact h
    · have hf := hget_lt hg
      refine ⟨.gslice f sl (cs ++ ds) (n + (m + 1)) 8, some (f, sl, .grow (n + (m + 1))), ?_, .inr ⟨f, sl, rfl, ?_, by rw [List.length_append, hl, hx.1]; omega⟩, by simp [wr, hset_length], fun e he h => ?_⟩
      · exact app_more Tryz.underlying22 sz32 by_call zc32 rfl Tryz.underlying22 (IsSl.sc hx) (by omega) (roomy_of (by omega) (by omega)) hp hs hg
      · simp only [wr]; exact hget_same hf
      · simp only [wr]
        by_cases q : fr = f ∧ e = sl
        · rw [← q.1, ← q.2, h] at hg; cases hg
        · rw [hget_ne hf q]; exact h

theorem run_small : ∀ (l : List MCall) (S : MSt) (n : Nat), StOk S n → n + l.length ≤ 1000 → ∀ r ∈ (runCalls S l).2, SmallR r
  | [], _, _, _, _, r, h => by cases h
  | c :: l, S, n, ok, hn, r, h => by
    simp only [List.length_cons] at hn
    rcases List.mem_cons.1 h with rfl | h
    · exact small_do ok (by omega) c
    · exact run_small l _ (n + 1) (stOk_do ok c) (by omega) r h
theorem RepsC.take : ∀ {a b : List MReply} {cs : List V}, RepsC cs (a ++ b) → RepsC (cs.take (a.length * 10)) a
  | [], b, cs, _ => by
    show List.take _ cs = []
    simp
  | x :: a, b, cs, h => by
    obtain ⟨c, d, rfl, h1, h2, h3⟩ := h
    refine ⟨c, d.take (a.length * 10), ?_, h1, h2, h3.take⟩
    rw [List.length_cons, show (a.length + 1) * 10 = c.length + a.length * 10 by omega, List.take_length_add_append]

theorem CallsC.app : ∀ {a b : List MCall} {cs ds : List V}, CallsC cs a → CallsC ds b → CallsC (cs ++ ds) (a ++ b)
  | [], b, cs, ds, h, h2 => by
    have : cs = [] := h
    subst this; exact h2
  | x :: a, b, cs, ds, h, h2 => by
    obtain ⟨dv, d, rfl, h1, h3⟩ := h
    exact ⟨dv, d ++ ds, by simp, h1, h3.app h2⟩
theorem great_no {l : List MCall} {most : Nat} (h : greatB l most = false) : l.length ≤ 1000 ∧ weighs (l.take 100) ≤ 30000 ∧ (l.length ≤ most ∨ 64 < l.length) := by
  unfold greatB at h
  simp only [Bool.or_eq_false_iff, Bool.and_eq_false_iff, decide_eq_false_iff_not] at h
  omega
theorem Gr.sc {H : Heap} {s : V} {cs : List V} {n esz : Nat} (h : Gr H s cs n esz) {g : Get} : sliceCells g esz s = some (cs, n) := by
  rcases h with ⟨rfl, rfl, rfl⟩ | ⟨f, sl, rfl, _, hl⟩
  · rfl
  · simp [sliceCells]
theorem Gr.cnt {H : Heap} {s : V} {cs : List V} {n esz : Nat} (h : Gr H s cs n esz) : cs.length = n * esz := by
  rcases h with ⟨rfl, rfl, rfl⟩ | ⟨f, sl, rfl, _, hl⟩
  · simp
  · exact hl
/-- A list is begun with another one's elements. -/
theorem app_first {H : Heap} {x : V} {ds : List V} {m d fr : Nat} {mt : Nat → Bool} (hsc : ∀ g, sliceCells g 8 x = some (ds, m)) (hl : ds.length = m * 8) (h0 : 0 < m) (hp : pureL ds = true) (hd : hget H fr d = none) (hfr : fr < H.length) (hm : mt d = false) (hn : m ≤ 1000) :
    ∃ s' w, appendV Tryz.prog mt fr (hget H) (some d) 22 22 .nilslice x = some (.val s' w) ∧ Gr (wr H w) s' ds m 8 ∧ s' = .gslice fr d ds m 8 ∧ (wr H w).length = H.length ∧ (∀ f e, (f ≠ fr ∨ e ≠ d) → hget (wr H w) f e = hget H f e) := by
  obtain ⟨m, rfl⟩ : ∃ k, m = k + 1 := ⟨m - 1, by omega⟩
  refine ⟨.gslice fr d ds (m + 1) 8, some (fr, d, .grow (m + 1)), ?_, .inr ⟨fr, d, rfl, ?_, hl⟩, rfl, by simp [wr, hset_length], fun f e he => ?_⟩
  · rw [app_nil Tryz.underlying22 sz32 by_call zc32 rfl Tryz.underlying22 (hsc _) (by omega) (roomy_of (by omega) (by omega)), grown_im hm hp hd]
  · simp only [wr]; rw [hget_same hfr]
  · simp only [wr]; rw [hget_ne hfr]; rintro ⟨rfl, rfl⟩; rcases he with h | h <;> exact h rfl
/-- A list that there is goes on. -/
theorem app_on {H : Heap} {f sl : Nat} {x : V} {cs ds : List V} {n m fr : Nat} {dst : Option Nat} {mt : Nat → Bool} (hg : hget H f sl = some (.grow n)) (hc : cs.length = n * 8) (hx : IsSl 8 x ds m) (h0 : 0 < m) (hp : pureL ds = true) (hs : ds.all V.scalar = true) (hn : n + m ≤ 1000) :
    ∃ w, appendV Tryz.prog mt fr (hget H) dst 22 22 (.gslice f sl cs n 8) x = some (.val (.gslice f sl (cs ++ ds) (n + m) 8) w) ∧ Gr (wr H w) (.gslice f sl (cs ++ ds) (n + m) 8) (cs ++ ds) (n + m) 8 ∧ hget (wr H w) f sl = some (.grow (n + m)) ∧ (wr H w).length = H.length ∧ (∀ a e, (a ≠ f ∨ e ≠ sl) → hget (wr H w) a e = hget H a e) := by
  obtain ⟨m, rfl⟩ : ∃ k, m = k + 1 := ⟨m - 1, by omega⟩
  have hf := hget_lt hg
  have hl : (cs ++ ds).length = (n + (m + 1)) * 8 := by rw [List.length_append, hc, hx.1]; omega
  refine ⟨some (f, sl, .grow (n + (m + 1))), ?_, .inr ⟨f, sl, rfl, ?_, hl⟩, ?_, by simp [wr, hset_length], fun a e he => ?_⟩
  · exact app_more Tryz.underlying22 sz32 by_call zc32 rfl Tryz.underlying22 (IsSl.sc hx) (by omega) (roomy_of (by omega) (by omega)) hp hs hg
  · simp only [wr]; exact hget_same hf
  · simp only [wr]; exact hget_same hf
  · simp only [wr]; rw [hget_ne hf]; rintro ⟨rfl, rfl⟩; rcases he with h | h <;> exact h rfl

theorem RepsC.drop : ∀ {a b : List MReply} {cs : List V}, RepsC cs (a ++ b) → RepsC (cs.drop (a.length * 10)) b
  | [], b, cs, h => by simpa using h
  | x :: a, b, cs, h => by
    obtain ⟨c, d, rfl, h1, h2, h3⟩ := h
    have := h3.drop
    rw [List.length_cons, show (a.length + 1) * 10 = c.length + a.length * 10 by omega, List.drop_length_add_append]
    exact this
end Go.Proofs.YtebbgmeomkjibaaGreat
end
