/- This file holds in one the texts An6, An7; each says at its head what it proves. -/
import Derived.Test.YtafhcdagifopeaaGreatDoorT4
set_option linter.unusedSimpArgs false
set_option linter.unusedVariables false
section
/- The abstract machine, part 6: slices' cells, indexing, slicing, '==', lengths, conversions, look-ups: as the model does. -/
namespace Go.AM
variable {P : Program} {E : Env} {B : Nat} {F : Nat → Nat → Prop} {H : Heap}

theorem Sim.lies (S : Sim B F H E) {f s : Nat} {xs : List V} (h : hget H f s = some (.cells xs)) :
    ∃ b c T vs rest, E.mu f s = some b ∧ B ≤ b ∧ E.w.heap[b]? = some (.cells c T (0, 0)) ∧ c.toList = vs ++ rest ∧ RelL E xs vs ∧ (∀ i, E.mod b i) ∧ xs.all V.scalar = true ∧ Lies E.w b 0 vs := by
  obtain ⟨b, c, T, vs, rest, h1, h2, h3, h4, h5, h6, h7⟩ := S.obj f s _ h
  refine ⟨b, c, T, vs, rest, h1, h2, h3, h4, h5, h6, h7, ?_⟩
  intro i v hv
  have : c[i]? = some v := by
    rw [← Array.getElem?_toList, h4, List.getElem?_append_left]
    · exact hv
    · exact (List.getElem?_eq_some_iff.1 hv).1
  simp only [Nat.zero_add, World.cell?, h3]
  simpa using this

theorem Lies.from {w : World} {b : Nat} {vs : List Value} (h : Lies w b 0 vs) (o n : Nat) : Lies w b o ((vs.drop o).take n) := by
  have := h.take o n
  rwa [Nat.zero_add] at this

theorem Lies.heap {w w' : World} {b off : Nat} {vs : List Value} (h : Lies w b off vs) (e : w'.heap = w.heap) : Lies w' b off vs := by
  intro i v hv
  have := h i v hv
  simp only [World.cell?, e] at this ⊢
  exact this

theorem run_firstCells_lies {w : World} {b off esz k n cap : Nat} {vs : List Value} (h : Lies w b off vs) (hl : vs.length = n * esz) (hk : k ≤ n) (len : Nat) :
    (Builtin.firstCells esz k (.slice (some ⟨b, off, none⟩) len cap)).run P w = .ok ⟨vs.take (k * esz)⟩ w := by
  have h2 := h.take 0 (k * esz)
  simp only [Nat.add_zero, List.drop_zero] at h2
  have := run_loadCells_lies (P := P) h2
  have e : (vs.take (k * esz)).length = k * esz := by
    have : k * esz ≤ n * esz := Nat.mul_le_mul_right _ hk
    simp; omega
  rw [e] at this
  exact this

theorem sliceCells_sound (S : Sim B F H E) {esz n : Nat} {x : V} {cs : List V} {c : Value} (h : sliceCells (hget H) esz x = some (cs, n)) (hr : Rel E x c) :
    ∃ a cap vs, c = .slice a n cap ∧ n ≤ cap ∧ RelL E cs vs ∧ vs.length = n * esz ∧ (∀ (w : World) k, w.heap = E.w.heap → k ≤ n → (Builtin.firstCells esz k c).run P w = .ok ⟨vs.take (k * esz)⟩ w) := by
  unfold sliceCells at h
  split at h
  · cases h
    simp only [Rel] at hr
    subst hr
    exact ⟨none, 0, [], rfl, Nat.le_refl _, .nil, by simp, fun w k _ hk => by simp [Builtin.firstCells]⟩
  · split at h
    · rename_i hl
      cases h
      simp only [Rel] at hr
      obtain ⟨a, cap, vs, rfl, h1, _, h3, h4, _⟩ := hr
      have hvl : vs.length = n * esz := by rw [← h4.length]; exact hl
      refine ⟨some a, cap, vs, rfl, h1, h4, hvl, fun w k hw hk => ?_⟩
      rcases h3 with rfl | ⟨h3, h5⟩
      · have : k * esz = 0 := by
          have h0 : n * esz = 0 := by simpa using hvl.symm
          have : k * esz ≤ n * esz := Nat.mul_le_mul_right _ hk
          omega
        simp [Builtin.firstCells, this, loadCells, loadCellsFrom]
      · obtain ⟨b, off, sp⟩ := a
        simp only at h3; subst h3
        exact run_firstCells_lies (h5.lies.heap hw) hvl hk n
    · cases h
  · split at h
    · rename_i he
      cases h
      subst he
      simp only [Rel] at hr
      obtain ⟨b, off, cap, vs, rfl, h1, h3, h4, h5, _⟩ := hr
      have hvl := h4.length.symm.trans h5
      exact ⟨_, cap, vs, rfl, h1, h4, hvl, fun w k hw hk => run_firstCells_lies (h3.lies.heap hw) hvl hk _⟩
    · cases h
  · rename_i f s o n' cap e
    split at h
    · rename_i xs hg
      split at h
      · rename_i hh
        obtain ⟨rfl, hle⟩ := hh
        cases h
        simp only [Rel] at hr
        obtain ⟨b, c', T, sz', hmu, rfl, h1, _, _, _⟩ := hr
        obtain ⟨b2, cc, T2, vs, rest, g1, _, _, _, g5, _, _, g8⟩ := S.lies hg
        rw [hmu] at g1; cases g1
        have hvl : ((vs.drop o).take (n * e)).length = n * e := by
          have := g5.length
          simp; omega
        exact ⟨_, c', _, rfl, h1, (g5.drop o).take _, hvl, fun w k hw hk => run_firstCells_lies ((g8.from o _).heap hw) hvl hk n⟩
      · cases h
    · cases h
  · cases h

theorem pureL_take {xs : List V} (h : pureL xs = true) : ∀ n, pureL (xs.take n) = true := by
  induction xs with
  | nil => intro n; simp [pureL]
  | cons x xs ih =>
    intro n
    simp only [pureL, Bool.and_eq_true] at h
    cases n with
    | zero => simp [pureL]
    | succ n => simp [pureL, h.1, ih h.2 n]
theorem pureL_drop {xs : List V} (h : pureL xs = true) : ∀ n, pureL (xs.drop n) = true := by
  induction xs with
  | nil => intro n; simp [pureL]
  | cons x xs ih =>
    intro n
    have h' := h
    simp only [pureL, Bool.and_eq_true] at h
    cases n with
    | zero => simpa using h'
    | succ n => simpa using ih h.2 n
theorem pureL_append {xs ys : List V} (h : pureL xs = true) (g : pureL ys = true) : pureL (xs ++ ys) = true := by
  induction xs with
  | nil => simpa using g
  | cons x xs ih =>
    simp only [pureL, Bool.and_eq_true] at h
    simp [pureL, h.1, ih h.2]

theorem Row.take {b off : Nat} {vs : List Value} (h : Row E b off vs) (o n : Nat) : Row E b (off + o) ((vs.drop o).take n) := by
  intro i v hv
  rw [List.getElem?_take] at hv
  split at hv
  · rw [List.getElem?_drop] at hv
    have := h (o + i) v hv
    rwa [← Nat.add_assoc] at this
  · cases hv

theorem Row.add {b off : Nat} {vs : List Value} (h : Row E b off vs) (o n : Nat) : RowAt E ((⟨b, off, none⟩ : Addr).add o) ((vs.drop o).take n) := by
  rw [addr_add]
  exact .inr ⟨rfl, h.take o n⟩

theorem RowAt.add {a : Addr} {vs : List Value} (h : RowAt E a vs) (o n : Nat) : RowAt E (a.add o) ((vs.drop o).take n) := by
  rcases h with rfl | ⟨h1, h2⟩
  · exact .inl (by simp)
  · obtain ⟨b, off, sp⟩ := a
    simp only at h1; subst h1
    exact h2.add o n

theorem cutI_sound {cells : List V} {len cap esz l h m : Nat} {full : Bool} {a : Addr} {vs : List Value} {lo hi mx : Option Int} {x : V} (hc : cutI cells len full esz lo hi mx = some x)
    (hk : cuts len cap lo hi mx = some (l, h, m)) (hf : full = true → cap = len) (hr : RowAt E a vs) (hl : RelL E cells vs) (hp : pureL cells = true) :
    Rel E x (.slice (some (if m = l then a else a.add (l * esz))) (h - l) (m - l)) := by
  unfold cutI at hc
  split at hc
  · rename_i hcl
    split at hc
    · rename_i l' h' m' hk'
      cases hc
      obtain ⟨a1, a2, a3, a4, a5, a6, a7⟩ := cuts_sound hk
      obtain ⟨b1, b2, b3, b4, b5, b6, b7⟩ := cuts_sound hk'
      obtain rfl : l' = l := by omega
      obtain rfl : h' = h := by omega
      have hmcap : mx.isSome = true → m = m' := by
        intro hs
        cases mx with
        | none => cases hs
        | some q => simp only [Option.getD_some] at a3 b3; omega
      have hmm : (full || mx.isSome) = true → m = m' := by
        intro hh
        cases mx with
        | none =>
          simp only [Option.isSome_none, Bool.or_false] at hh
          simp only [Option.getD_none, Int.natCast_inj] at a3 b3
          have := hf hh
          omega
        | some q => exact hmcap rfl
      simp only [Rel]
      refine ⟨_, m - l', ((vs.drop (l' * esz)).take ((h' - l') * esz)), rfl, by omega, ?_, ?_, (hl.drop _).take _, pureL_take (pureL_drop hp _) _⟩
      · intro hh
        simp only [Bool.and_eq_true, beq_iff_eq] at hh
        have := hmm hh.1
        omega
      · by_cases e : m = l'
        · rw [if_pos e]
          have : (h' - l') * esz = 0 := by
            have : h' - l' = 0 := by omega
            rw [this]; simp
          rw [this]
          exact .inl (by simp)
        · rw [if_neg e]
          exact hr.add _ _
    · cases hc
  · cases hc

theorem cuts_wider {len cap : Nat} {lo hi mx : Option Int} {l h m : Nat} (hk : cuts len len lo hi mx = some (l, h, m)) (hle : len ≤ cap) : ∃ m', cuts len cap lo hi mx = some (l, h, m') ∧ m ≤ m' ∧ (mx.isSome = true → m' = m) ∧ (mx = none → m' = cap) := by
  obtain ⟨b1, b2, b3, b4, b5, b6, b7⟩ := cuts_sound hk
  cases mx with
  | none =>
    simp only [Option.getD_none, Int.natCast_inj] at b3
    refine ⟨cap, ?_, by omega, (fun h => by cases h), fun _ => rfl⟩
    unfold cuts
    rw [if_pos]
    · simp only [Option.getD_none, b1, b2, Int.toNat_natCast]
    · simp only [Option.getD_none, b1, b2]
      exact ⟨by omega, by omega, by omega, by omega, by omega, by omega, by simp⟩
  | some q =>
    refine ⟨m, ?_, Nat.le_refl _, fun _ => rfl, (fun h => by cases h)⟩
    unfold cuts
    rw [if_pos]
    · rw [b1, b2]
      simp only [Option.getD_some] at b3 ⊢
      rw [b3]; simp
    · rw [b1, b2]
      simp only [Option.getD_some] at b3 ⊢
      rw [b3]
      exact ⟨by omega, by omega, by omega, by omega, by omega, by omega, b7⟩

theorem cutM_sound {f s o len c esz l h m b T n : Nat} {cap : Option Nat} {lo hi mx : Option Int} {x : V} (hc : cutM f s o len cap esz lo hi mx = some x)
    (hk : cuts len c lo hi mx = some (l, h, m)) (hle : len ≤ c) (hcap : ∀ k, cap = some k → c = k) (hmu : E.mu f s = some b) (hsh : E.w.shape? b = some (T, n)) (hn : o + c * esz ≤ n) (hn2 : cap = none → o + c * esz = n) :
    Rel E x (.slice (some (if m = l then ⟨b, o, none⟩ else (⟨b, o, none⟩ : Addr).add (l * esz))) (h - l) (m - l)) := by
  obtain ⟨a1, a2, a3, a4, a5, a6, a7⟩ := cuts_sound hk
  have main : ∀ k : Option Nat, (∀ q, k = some q → m - l = q) → (k = none → cap = none ∧ m = c ∧ m ≠ l) → Rel E (.mslice f s (if m = l then o else o + l * esz) (h - l) k esz) (.slice (some (if m = l then ⟨b, o, none⟩ else (⟨b, o, none⟩ : Addr).add (l * esz))) (h - l) (m - l)) := by
    intro k hkk hkn
    simp only [Rel]
    refine ⟨b, m - l, T, n, hmu, ?_, by omega, fun q hq => hkk q hq, hsh, ?_, ?_⟩
    · by_cases e : m = l
      · rw [if_pos e, if_pos e]
      · rw [if_neg e, if_neg e, addr_add]
    · have h1 : (m - l) * esz + l * esz = m * esz := by rw [← Nat.add_mul]; congr 1; omega
      have h2 : m * esz ≤ c * esz := Nat.mul_le_mul_right _ a6
      by_cases e : m = l
      · rw [if_pos e]; have : m - l = 0 := by omega
        rw [this]; omega
      · rw [if_neg e]; omega
    · intro hk0
      obtain ⟨e1, e2, e3⟩ := hkn hk0
      have := hn2 e1
      have h1 : (m - l) * esz + l * esz = m * esz := by rw [← Nat.add_mul]; congr 1; omega
      rw [if_neg e3]
      subst e2
      omega
  unfold cutM at hc
  split at hc
  · rename_i c'
    have := hcap c' rfl
    subst this
    rw [hk] at hc
    cases hc
    exact main _ (fun q hq => by cases hq; rfl) (fun h => by cases h)
  · split at hc
    · rename_i l' h' m' hk'
      obtain ⟨m2, e1, e2, e3, e4⟩ := cuts_wider hk' hle
      rw [hk] at e1
      simp only [Option.some.injEq, Prod.mk.injEq] at e1
      obtain ⟨rfl, rfl, rfl⟩ := e1
      split at hc
      · rename_i hs
        cases hc
        rw [← e3 hs]
        exact main _ (fun q hq => by cases hq; rfl) (fun h => by cases h)
      · split at hc
        · rename_i hs hlt
          cases hc
          have hmx : mx = none := by cases mx with | none => rfl | some => exact absurd rfl hs
          have hm := e4 hmx
          have e : ¬ m = l := by omega
          have := main none (fun q hq => by cases hq) (fun _ => ⟨rfl, hm, e⟩)
          rw [if_neg e] at this
          exact this
        · cases hc; simp only [Rel]
    · cases hc

theorem run_slice_slice {t e : TypeId} {n : Nat} {a : Option Addr} {len cap l h m : Nat} {lo hi mx : Option Int} {vlo vhi vmx : Option Value} (w : World) (hu : P.underlying t = some (.slice e)) (hn : sz P e = some n)
    (hc : cuts len cap lo hi mx = some (l, h, m)) (h1 : (lo = none ∧ vlo = none) ∨ ∃ k n, lo = some n ∧ vlo = some (.int k n)) (h2 : (hi = none ∧ vhi = none) ∨ ∃ k n, hi = some n ∧ vhi = some (.int k n))
    (h3 : (mx = none ∧ vmx = none) ∨ ∃ k n, mx = some n ∧ vmx = some (.int k n)) :
    (Instr.sliceAt t (.slice a len cap) vlo vhi vmx).run P w = .ok (.slice (if m = l then a else a.map (·.add (l * n))) (h - l) (m - l)) w := by
  simp only [Instr.sliceAt, Instr.slice, Sem.run_bind, run_und hu, Result.andThen_ok, run_sliceBounds w true hc h1 h2 h3, run_sz hn, Sem.run_pure]

theorem sliceV_sound (S : Sim B F H E) {t : TypeId} {x : V} {lo hi mx : Option V} {y : V} {c : Value} {vlo vhi vmx : Option Value} (h : sliceV P (hget H) t x lo hi mx = some y) (hr : Rel E x c)
    (h1 : RelO E lo vlo) (h2 : RelO E hi vhi) (h3 : RelO E mx vmx) :
    ∃ v, (Instr.sliceAt t c vlo vhi vmx).run P E.w = .ok v E.w ∧ Rel E y v := by
  unfold sliceV at h
  split at h
  case h_2 => cases h
  rename_i ilo ihi imx g1 g2 g3
  have k1 := optInt_sound g1 h1
  have k2 := optInt_sound g2 h2
  have k3 := optInt_sound g3 h3
  split at h
  · rename_i hu
    split at h
    case h_2 => cases h
    rename_i s
    simp only [Rel] at hr
    subst hr
    split at h
    · cases h
    · rename_i hmx
      have hmx' : imx = none := by cases imx with | none => rfl | some => simp at hmx
      subst hmx'
      have hv : vmx = none := by rcases k3 with ⟨_, h⟩ | ⟨_, _, h, _⟩; exact h; cases h
      subst hv
      split at h
      · rename_i l hh m hc
        cases h
        have hb := run_sliceBounds (P := P) E.w false hc k1 k2 (.inl ⟨rfl, rfl⟩)
        have hsz : (⟨⟨s⟩⟩ : ByteArray).size = s.length := rfl
        refine ⟨_, by simp only [Instr.sliceAt, Instr.slice, Sem.run_bind, run_und hu, Result.andThen_ok, Option.isSome_none, Bool.false_eq_true, if_false, Sem.run_pure, hsz, hb]; rfl, ?_⟩
        simp only [Rel, Value.string.injEq]
        exact ByteArray.extract_mk s l hh
      · cases h
  · rename_i e hu
    split at h
    case h_2 => cases h
    rename_i n hn
    split at h
    · -- nil
      split at h
      · rename_i q hc
        cases h
        obtain ⟨l, hh, m⟩ := q
        simp only [Rel] at hr
        subst hr
        refine ⟨_, run_slice_slice E.w hu hn hc k1 k2 k3, ?_⟩
        obtain ⟨_, _, _, a4, a5, a6, _⟩ := cuts_sound hc
        have : m = l := by omega
        have e1 : hh - l = 0 := by omega
        have e2 : m - l = 0 := by omega
        simp only [Rel, this, if_true, e1, Nat.sub_self]
      · cases h
    · rename_i cs len full
      simp only [Rel] at hr
      obtain ⟨a, cap, vs, rfl, r1, r2, r3, r4, r5⟩ := hr
      have hcut := h
      unfold cutI at hcut
      split at hcut
      case isFalse => cases hcut
      split at hcut
      case h_2 => cases hcut
      rename_i l hh m hk
      obtain ⟨m', hk', _, _, _⟩ := cuts_wider hk r1
      refine ⟨_, run_slice_slice E.w hu hn hk' k1 k2 k3, ?_⟩
      have := cutI_sound h hk' r2 r3 r4 r5
      by_cases e : m' = l
      · rw [if_pos e] at this ⊢; exact this
      · rw [if_neg e] at this ⊢; exact this
    · rename_i f s cs len e'
      split at h
      case isFalse => cases h
      rename_i he
      obtain ⟨he, r5⟩ := he
      subst he
      simp only [Rel] at hr
      obtain ⟨b, off, cap, vs, rfl, r1, r3, r4, _⟩ := hr
      have hcut := h
      unfold cutI at hcut
      split at hcut
      case isFalse => cases hcut
      split at hcut
      case h_2 => cases hcut
      rename_i l hh m hk
      obtain ⟨m', hk', _, _, _⟩ := cuts_wider hk r1
      refine ⟨_, run_slice_slice E.w hu hn hk' k1 k2 k3, ?_⟩
      have := cutI_sound (a := ⟨b, off, none⟩) h hk' (fun hf => by cases hf) (.inr ⟨rfl, r3⟩) r4 r5
      by_cases e : m' = l
      · rw [if_pos e] at this ⊢; exact this
      · rw [if_neg e] at this ⊢; exact this
    · rename_i f s o len cap e'
      split at h
      case isFalse => cases h
      rename_i he
      subst he
      simp only [Rel] at hr
      obtain ⟨b, c', T, n', hmu, rfl, r1, r2, r3, r4⟩ := hr
      have : ∃ l hh m, cuts len c' ilo ihi imx = some (l, hh, m) := by
        have hcut := h
        unfold cutM at hcut
        split at hcut
        · rename_i q
          have := r2 q rfl
          subst this
          split at hcut
          · rename_i l hh m hk; exact ⟨l, hh, m, hk⟩
          · cases hcut
        · split at hcut
          · rename_i l hh m hk
            obtain ⟨m', hk', _⟩ := cuts_wider hk r1
            exact ⟨l, hh, m', hk'⟩
          · cases hcut
      obtain ⟨l, hh, m, hk⟩ := this
      refine ⟨_, run_slice_slice E.w hu hn hk k1 k2 k3, ?_⟩
      have := cutM_sound h hk r1 r2 hmu r3 r4.1 r4.2
      by_cases e : m = l
      · rw [if_pos e] at this ⊢; exact this
      · rw [if_neg e] at this ⊢; exact this
    · cases h
  · rename_i k e hu
    split at h
    case h_2 => cases h
    rename_i n hn
    have runArr : ∀ (a : Addr) (l hh m : Nat), cuts k k ilo ihi imx = some (l, hh, m) → (Instr.sliceAt t (.pointer (some a)) vlo vhi vmx).run P E.w = .ok (.slice (some (if m = l then a else a.add (l * n))) (hh - l) (m - l)) E.w := by
      intro a l hh m hc
      simp only [Instr.sliceAt, Instr.sureAddr, Sem.run_bind, run_und hu, Result.andThen_ok, Sem.run_pure, run_sliceBounds E.w false hc k1 k2 k3, run_sz hn]
    split at h
    · rename_i f s o
      split at h
      case h_2 => cases h
      rename_i xs hg
      split at h
      case isFalse => cases h
      rename_i hle
      simp only [Rel] at hr
      obtain ⟨b, hmu, rfl⟩ := hr
      have hcut := h
      unfold cutM at hcut
      simp only at hcut
      split at hcut
      case h_2 => cases hcut
      rename_i l hh m hk
      refine ⟨_, runArr _ l hh m hk, ?_⟩
      obtain ⟨b2, cc, T, vs, rest, q1, _, q3, q4, q5, _⟩ := S.lies hg
      rw [hmu] at q1; cases q1
      have hsize : xs.length ≤ cc.size := by
        have h1 := congrArg List.length q4
        have h2 := q5.length
        simp at h1; omega
      exact cutM_sound (T := T) (n := cc.size) h hk (Nat.le_refl _) (fun q hq => by cases hq; rfl) hmu (by simp [World.shape?, q3]) (by omega) (fun h => by cases h)
    · rename_i cs o
      split at h
      case isFalse => cases h
      rename_i hle
      simp only [Rel] at hr
      obtain ⟨b, off, vs, rfl, r1, r2, r3⟩ := hr
      have hcut := h
      unfold cutI at hcut
      split at hcut
      case isFalse => cases hcut
      split at hcut
      case h_2 => cases hcut
      rename_i l hh m hk
      refine ⟨_, runArr _ l hh m hk, ?_⟩
      exact cutI_sound (a := ⟨b, off + o, none⟩) h hk (fun _ => rfl) (.inr ⟨rfl, r1.take o (k * n)⟩) ((r2.drop o).take _) (pureL_take (pureL_drop r3 _) _)
    · cases h
  · cases h

end Go.AM
end
section
/- The abstract machine, part 7: addresses, indexes, '==', lengths, conversions, look-ups: as the model does. -/
namespace Go.AM
variable {P : Program} {E : Env} {B : Nat} {F : Nat → Nat → Prop} {H : Heap}

theorem indexAddrV_sound {t : TypeId} {x i y : V} {c ci : Value} (w : World) (h : indexAddrV P t x i = some y) (hr : Rel E x c) (hi : Rel E i ci) :
    ∃ v, (Instr.indexAt t c ci).run P w = .ok v w ∧ Rel E y v := by
  unfold indexAddrV at h
  split at h
  case h_2 => cases h
  rename_i k n
  simp only [Rel] at hi
  subst hi
  split at h
  · rename_i m e hu
    split at h
    case h_2 => cases h
    rename_i es hes
    split at h
    case isFalse => cases h
    rename_i hin
    have run1 : ∀ a : Addr, (Instr.indexAt t (.pointer (some a)) (.int k n)).run P w = .ok (.pointer (some (a.add (n.toNat * es)))) w := by
      intro a
      simp [Instr.indexAt, asIntOf, run_und hu, Instr.sureAddr, hin, run_sz hes]
    split at h
    · cases h
      simp only [Rel] at hr
      obtain ⟨b, hb, rfl⟩ := hr
      refine ⟨_, run1 _, ?_⟩
      simp only [Rel]
      exact ⟨b, hb, by rw [addr_add]⟩
    · cases h
      simp only [Rel] at hr
      obtain ⟨b, off, vs, rfl, r1, r2, r3⟩ := hr
      refine ⟨_, run1 _, ?_⟩
      simp only [Rel]
      exact ⟨b, off, vs, by rw [addr_add, Nat.add_assoc], r1, r2, r3⟩
    · cases h
      simp only [Rel] at hr
      obtain ⟨b, off, vs, rfl, r1, r2⟩ := hr
      refine ⟨_, run1 _, ?_⟩
      simp only [Rel]
      exact ⟨b, off, vs, by rw [addr_add, Nat.add_assoc], r1, r2⟩
    · cases h
  · rename_i e hu
    split at h
    case h_2 => cases h
    rename_i es hes
    have run1 : ∀ (a : Addr) (len cap : Nat), 0 ≤ n → n < len → (Instr.indexAt t (.slice (some a) len cap) (.int k n)).run P w = .ok (.pointer (some (a.add (n.toNat * es)))) w := by
      intro a len cap h1 h2
      have hin : 0 ≤ n ∧ n < len := ⟨h1, h2⟩
      simp [Instr.indexAt, asIntOf, run_und hu, hin, run_sz hes]
    split at h
    · rename_i cs len full
      split at h
      case isFalse => cases h
      rename_i hin
      obtain ⟨h1, h2, h3, h4⟩ := hin
      cases h
      simp only [Rel] at hr
      obtain ⟨a, cap, vs, rfl, _, _, r3, r4, r5⟩ := hr
      refine ⟨_, run1 a len cap h1 h2, ?_⟩
      have hne : vs ≠ [] := by
        intro e
        have := r4.length
        rw [e, h3] at this
        have : 0 < len * es := Nat.mul_pos (by omega) h4
        simp at *; omega
      rcases r3 with r3 | ⟨r3, r6⟩
      · exact absurd r3 hne
      · obtain ⟨b, off, sp⟩ := a
        simp only at r3; subst r3
        simp only [Rel]
        exact ⟨b, off, vs, by rw [addr_add], r6, r4, r5⟩
    · rename_i f s cs len e'
      split at h
      case isFalse => cases h
      rename_i hin
      obtain ⟨h1, h2, rfl⟩ := hin
      cases h
      simp only [Rel] at hr
      obtain ⟨b, off, cap, vs, rfl, _, r3, r4, _⟩ := hr
      refine ⟨_, run1 _ len cap h1 h2, ?_⟩
      split
      · rename_i r5
        simp only [Rel]
        exact ⟨b, off, vs, by rw [addr_add], r3, r4, r5⟩
      · simp only [Rel]
        exact ⟨b, off, vs, by rw [addr_add], r3, r4⟩
    · rename_i f s o len cap e'
      split at h
      case isFalse => cases h
      rename_i hin
      obtain ⟨h1, h2, rfl⟩ := hin
      cases h
      simp only [Rel] at hr
      obtain ⟨b, c', T, sz', hmu, rfl, _⟩ := hr
      refine ⟨_, run1 _ len c' h1 h2, ?_⟩
      simp only [Rel]
      exact ⟨b, hmu, by rw [addr_add]⟩
    · cases h
  · cases h

theorem indexV_sound {t : TypeId} {x i y : V} {c ci : Value} (w : World) (h : indexV P t x i = some y) (hr : Rel E x c) (hi : Rel E i ci) :
    ∃ v, (Instr.index t c ci).run P w = .ok v w ∧ Rel E y v := by
  unfold indexV at h
  split at h
  case h_2 => cases h
  rename_i k n
  simp only [Rel] at hi
  subst hi
  split at h
  · rename_i m e cs hu
    split at h
    case h_2 => cases h
    rename_i es hes
    split at h
    case isFalse => cases h
    rename_i hin
    simp only [Rel] at hr
    obtain ⟨vs, rfl, hl⟩ := hr
    obtain ⟨v, h1, h2⟩ := partV_sound (w := w) h hl
    exact ⟨v, by simp [Instr.index, asIntOf, run_und hu, hin, run_sz hes, h1], h2⟩
  · rename_i s hu
    split at h
    case isFalse => cases h
    rename_i hin
    simp only [Rel] at hr
    subst hr
    cases hs : s[n.toNat]? with
    | none => rw [hs] at h; cases h
    | some b =>
      rw [hs] at h; cases h
      have e : (⟨⟨s⟩⟩ : ByteArray)[n.toNat]? = some b := by
        have hlt : n.toNat < (⟨⟨s⟩⟩ : ByteArray).size := (List.getElem?_eq_some_iff.1 hs).1
        rw [ByteArray.getElem?_lt' _ _ hlt]
        have := (List.getElem?_eq_some_iff.1 hs).2
        exact congrArg some this
      exact ⟨.int .u8 b.toNat, by simp [Instr.index, asIntOf, run_und hu, hin, e], by simp [Rel]⟩
  · cases h

/-! ### '==' -/

theorem bytes_beq (a b : List UInt8) : ((⟨⟨a⟩⟩ : ByteArray) == (⟨⟨b⟩⟩ : ByteArray)) = (a == b) := by
  show ((⟨a⟩ : Array UInt8) == ⟨b⟩) = (a == b)
  rw [Bool.eq_iff_iff]; simp

section
variable {eq : TypeId → V → V → Option Bool} {d : Nat} (w : World)
    (ih : ∀ (t : TypeId) (x y : V) (b : Bool) (c e : Value), eq t x y = some b → Rel E x c → Rel E y e → (Op.equalIn d t c e).run P w = .ok b w)
include ih

theorem eqFields_sound :
    ∀ (fs : List Field) (xs ys : List V) (vs us : List Value) (b : Bool), eqFields P eq fs xs ys = some b → RelL E xs vs → RelL E ys us →
      (forIn (m := Sem) fs ((none, ()) : Option Bool × Unit) fun f _ => (do
          if f.name ≠ "_" then do
            let x ← part f.type ⟨vs⟩ f.offset
            let y ← part f.type ⟨us⟩ f.offset
            let r ← Op.equalIn d f.type x y
            if (!r) = true then pure (ForInStep.done (some false, ())) else pure (ForInStep.yield (none, ()))
          else pure (ForInStep.yield (none, ())))).run P w = .ok (if b then none else some false, ()) w := by
  intro fs
  induction fs with
  | nil => intro xs ys vs us b h _ _; simp only [eqFields, Option.some.injEq] at h; subst h; rfl
  | cons f fs ihf =>
    intro xs ys vs us b h hx hy
    simp only [eqFields] at h
    by_cases hn : f.name = "_"
    · rw [if_pos hn] at h
      have h1 := ihf xs ys vs us b h hx hy
      simp only [List.forIn_cons, hn, ne_eq, not_true, if_false, pure_bind]
      exact h1
    · rw [if_neg hn] at h
      split at h
      case h_2 => cases h
      rename_i x y px py
      obtain ⟨c, pc, rc⟩ := partV_sound (w := w) px hx
      obtain ⟨e, pe, re⟩ := partV_sound (w := w) py hy
      split at h
      · rename_i he
        have h1 := ihf xs ys vs us b h hx hy
        have := ih _ _ _ _ _ _ he rc re
        simp only [List.forIn_cons, hn, ne_eq, not_false_eq_true, if_true, Sem.run_bind, pc, pe, Result.andThen_ok, this, Bool.not_true, Bool.false_eq_true, if_false, Sem.run_pure]
        exact h1
      · rename_i he
        cases h
        have := ih _ _ _ _ _ _ he rc re
        simp only [List.forIn_cons, hn, ne_eq, not_false_eq_true, if_true, Sem.run_bind, pc, pe, Result.andThen_ok, this, Bool.not_false, Sem.run_pure]
        rfl
      · cases h

theorem eqElems_sound (ty : TypeId) (m : Nat) :
    ∀ (n i : Nat) (xs ys : List V) (vs us : List Value) (b : Bool), eqElems P eq ty m xs ys i n = some b → RelL E xs vs → RelL E ys us →
      (forIn (m := Sem) (List.range' i n) ((none, ()) : Option Bool × Unit) fun i _ => (do
            let x ← part ty ⟨vs⟩ (i * m)
            let y ← part ty ⟨us⟩ (i * m)
            let r ← Op.equalIn d ty x y
            if (!r) = true then pure (ForInStep.done (some false, ())) else pure (ForInStep.yield (none, ())))).run P w = .ok (if b then none else some false, ()) w := by
  intro n
  induction n with
  | zero => intro i xs ys vs us b h _ _; simp only [eqElems, Option.some.injEq] at h; subst h; rfl
  | succ n ihn =>
    intro i xs ys vs us b h hx hy
    simp only [eqElems] at h
    split at h
    case h_2 => cases h
    rename_i x y px py
    obtain ⟨c, pc, rc⟩ := partV_sound (w := w) px hx
    obtain ⟨e, pe, re⟩ := partV_sound (w := w) py hy
    split at h
    · rename_i he
      have h1 := ihn (i + 1) xs ys vs us b h hx hy
      have := ih _ _ _ _ _ _ he rc re
      simp only [List.range'_succ, List.forIn_cons, Sem.run_bind, pc, pe, Result.andThen_ok, this, Bool.not_true, Bool.false_eq_true, if_false, Sem.run_pure]
      exact h1
    · rename_i he
      cases h
      have := ih _ _ _ _ _ _ he rc re
      simp only [List.range'_succ, List.forIn_cons, Sem.run_bind, pc, pe, Result.andThen_ok, this, Bool.not_false, if_true, Sem.run_pure]
      rfl
    · cases h
end

theorem eqV_sound (w : World) : ∀ (n : Nat) (t : TypeId) (x y : V) (b : Bool) (c e : Value) (d : Nat), n ≤ d → eqV P n t x y = some b → Rel E x c → Rel E y e →
    (Op.equalIn d t c e).run P w = .ok b w := by
  intro n
  induction n with
  | zero => intro t x y b c e d _ h; simp [eqV] at h
  | succ n ih =>
    intro t x y b c e d hd h hx hy
    obtain ⟨d, rfl⟩ : ∃ d', d = d' + 1 := ⟨d - 1, by omega⟩
    have ih' : ∀ (t : TypeId) (x y : V) (b : Bool) (c e : Value), eqV P n t x y = some b → Rel E x c → Rel E y e → (Op.equalIn d t c e).run P w = .ok b w :=
      fun t x y b c e => ih t x y b c e d (by omega)
    simp only [eqV] at h
    split at h
    · rename_i hu
      unfold eqBool at h
      split at h
      · cases h
        simp only [Rel] at hx hy
        subst hx; subst hy
        simp [Op.equalIn, run_und hu]
      · cases h
    · rename_i hu
      unfold eqInt at h
      split at h
      · split at h
        · rename_i hk
          cases h
          simp only [Rel] at hx hy
          subst hx; subst hy
          simp [Op.equalIn, run_und hu, hk]
        · cases h
      · cases h
    · rename_i hu
      unfold eqStr at h
      split at h
      · rename_i a a'
        cases h
        simp only [Rel] at hx hy
        subst hx; subst hy
        simp [Op.equalIn, run_und hu, bytes_beq]
      · cases h
    · rename_i fs hu
      split at h
      case h_2 => cases h
      rename_i xs ys
      split at h
      · cases h
      · rename_i hst
        simp only [Rel] at hx hy
        obtain ⟨vs, rfl, hx⟩ := hx
        obtain ⟨us, rfl, hy⟩ := hy
        have := eqFields_sound (P := P) w ih' fs.toList xs ys vs us b h hx hy
        simp only [Op.equalIn, Sem.run_bind, run_und hu, Result.andThen_ok, run_program, hst, Bool.false_eq_true, if_false]
        rw [← Array.forIn_toList, this]
        cases b <;> rfl
    · rename_i m el hu
      split at h
      case h_2 => cases h
      rename_i xs ys k hk
      simp only [Rel] at hx hy
      obtain ⟨vs, rfl, hx⟩ := hx
      obtain ⟨us, rfl, hy⟩ := hy
      have := eqElems_sound (P := P) w ih' el k m 0 xs ys vs us b h hx hy
      simp only [Op.equalIn, Sem.run_bind, run_und hu, Result.andThen_ok, run_sz hk]
      rw [Std.Legacy.Range.forIn_eq_forIn_range']
      simp only [Std.Legacy.Range.size, Nat.sub_zero, Nat.add_sub_cancel, Nat.div_one]
      rw [this]
      cases b <;> rfl
    · cases h


def NilShape (c : Value) (nb : Bool) : TypeDesc → Prop
  | .pointer _ => if nb then c = .pointer none else ∃ a, c = .pointer (some a)
  | .slice _ => if nb then c = .slice none 0 0 else ∃ a l k, c = .slice (some a) l k
  | .map _ _ => if nb then c = .map none else ∃ b, c = .map (some b)
  | .func _ _ _ => if nb then c = .nilFunc else ∃ f a b, c = .func f a b
  | .interface _ => if nb then c = .nilIface else ∃ t v, c = .iface t v
  | _ => False

theorem nilShape {d : TypeDesc} {x : V} {c : Value} (hx : nilKind d x = true) (rx : Rel E x c) : ∃ nb, x.isNil = some nb ∧ NilShape c nb d := by
  cases x <;> simp only [Rel] at rx
  case nilptr => cases d <;> simp only [nilKind, Bool.false_eq_true] at hx; exact ⟨true, rfl, rx⟩
  case ptr => cases d <;> simp only [nilKind, Bool.false_eq_true] at hx; obtain ⟨b, _, rfl⟩ := rx; exact ⟨false, rfl, _, rfl⟩
  case iptr => cases d <;> simp only [nilKind, Bool.false_eq_true] at hx; obtain ⟨b, _, _, rfl, _⟩ := rx; exact ⟨false, rfl, _, rfl⟩
  case rptr => cases d <;> simp only [nilKind, Bool.false_eq_true] at hx; obtain ⟨b, _, _, rfl, _⟩ := rx; exact ⟨false, rfl, _, rfl⟩
  case nilslice => cases d <;> simp only [nilKind, Bool.false_eq_true] at hx; exact ⟨true, rfl, rx⟩
  case islice => cases d <;> simp only [nilKind, Bool.false_eq_true] at hx; obtain ⟨_, _, _, rfl, _⟩ := rx; exact ⟨false, rfl, _, _, _, rfl⟩
  case gslice => cases d <;> simp only [nilKind, Bool.false_eq_true] at hx; obtain ⟨_, _, _, _, rfl, _⟩ := rx; exact ⟨false, rfl, _, _, _, rfl⟩
  case mslice => cases d <;> simp only [nilKind, Bool.false_eq_true] at hx; obtain ⟨_, _, _, _, _, rfl, _⟩ := rx; exact ⟨false, rfl, _, _, _, rfl⟩
  case nilmap => cases d <;> simp only [nilKind, Bool.false_eq_true] at hx; exact ⟨true, rfl, rx⟩
  case map => cases d <;> simp only [nilKind, Bool.false_eq_true] at hx; obtain ⟨_, _, rfl⟩ := rx; exact ⟨false, rfl, _, rfl⟩
  case nilfunc => cases d <;> simp only [nilKind, Bool.false_eq_true] at hx; exact ⟨true, rfl, rx⟩
  case func => cases d <;> simp only [nilKind, Bool.false_eq_true] at hx; obtain ⟨_, _, rfl, _⟩ := rx; exact ⟨false, rfl, _, _, _, rfl⟩
  case nilface => cases d <;> simp only [nilKind, Bool.false_eq_true] at hx; exact ⟨true, rfl, rx⟩
  case face => cases d <;> simp only [nilKind, Bool.false_eq_true] at hx; obtain ⟨_, rfl, _⟩ := rx; exact ⟨false, rfl, _, _, rfl⟩
  all_goals (cases d <;> simp only [nilKind, Bool.false_eq_true] at hx)

theorem eqNil_sound (w : World) {t : TypeId} {d : TypeDesc} {x y : V} {c e : Value} {b : Bool} (k : Nat) (hu : P.underlying t = some d) (hx : nilKind d x = true) (hy : nilKind d y = true)
    (h : eqNil x y = some b) (rx : Rel E x c) (ry : Rel E y e) : (Op.equalIn (k + 1) t c e).run P w = .ok b w := by
  obtain ⟨n1, i1, s1⟩ := nilShape hx rx
  obtain ⟨n2, i2, s2⟩ := nilShape hy ry
  simp only [eqNil, i1, i2] at h
  cases d <;> simp only [NilShape] at s1 s2 <;> cases n1 <;> cases n2 <;> simp only [Option.some.injEq, reduceCtorEq, if_true, if_false, Bool.false_eq_true] at h s1 s2 <;> subst h
  case pointer.false.true => obtain ⟨_, rfl⟩ := s1; subst s2; simp [Op.equalIn, run_und hu]
  case pointer.true.false => obtain ⟨_, rfl⟩ := s2; subst s1; simp [Op.equalIn, run_und hu]
  case pointer.true.true => subst s1; subst s2; simp [Op.equalIn, run_und hu]
  case slice.false.true => obtain ⟨_, _, _, rfl⟩ := s1; subst s2; simp [Op.equalIn, run_und hu]
  case slice.true.false => obtain ⟨_, _, _, rfl⟩ := s2; subst s1; simp [Op.equalIn, run_und hu]
  case slice.true.true => subst s1; subst s2; simp [Op.equalIn, run_und hu]
  case map.false.true => obtain ⟨_, rfl⟩ := s1; subst s2; simp [Op.equalIn, run_und hu]
  case map.true.false => obtain ⟨_, rfl⟩ := s2; subst s1; simp [Op.equalIn, run_und hu]
  case map.true.true => subst s1; subst s2; simp [Op.equalIn, run_und hu]
  case func.false.true => obtain ⟨_, _, _, rfl⟩ := s1; subst s2; simp [Op.equalIn, run_und hu]
  case func.true.false => obtain ⟨_, _, _, rfl⟩ := s2; subst s1; simp [Op.equalIn, run_und hu]
  case func.true.true => subst s1; subst s2; simp [Op.equalIn, run_und hu]
  case interface.false.true => obtain ⟨_, _, rfl⟩ := s1; subst s2; simp [Op.equalIn, run_und hu]
  case interface.true.false => obtain ⟨_, _, rfl⟩ := s2; subst s1; simp [Op.equalIn, run_und hu]
  case interface.true.true => subst s1; subst s2; simp [Op.equalIn, run_und hu]

theorem constOr (x y : Operand) : (isConst x || isConst y) = true → ((match x with | .const _ => true | _ => false) || (match y with | .const _ => true | _ => false)) = true := by
  intro h
  simp only [Bool.or_eq_true] at h
  rcases h with h | h
  · cases x <;> simp_all [isConst]
  · cases y <;> simp_all [isConst]

theorem guard_sound (w : World) (op : BinOp) (t : TypeId) (x y : Operand) (ca cb : Value) (hn : ca = .nilIface → cb = .nilIface → (isConst x || isConst y) = true)
    (hg : ∀ xs ys, ca = .agg xs → cb = .agg ys → P.eqGuardType P.depth t = false) : (eqGuard op t x y ca cb).run P w = .ok () w := by
  unfold eqGuard
  rw [Sem.run_ite]
  split
  case h_3 => rfl
  all_goals
    simp only [Bool.not_true, Bool.false_eq_true, if_false]
    split
    · have := constOr x y (hn rfl rfl)
      rw [Sem.run_ite, if_pos]
      · rfl
      · exact this
    · simp only [Sem.run_bind, run_program, Result.andThen_ok, hg _ _ rfl rfl, Bool.not_false, if_true, Sem.run_pure]
    · rfl

theorem eqOp_sound (w : World) {t : TypeId} {x y : Operand} {a b : V} {ca cb : Value} {r : Bool} (op : BinOp) (h : eqOp P t x y a b = some r) (ra : Rel E a ca) (rb : Rel E b cb) :
    (eqGuard op t x y ca cb).run P w = .ok () w ∧ (Op.equal t ca cb).run P w = .ok r w := by
  have deep : eqV P 8 t a b = some r → (∀ xs ys, ca = .agg xs → cb = .agg ys → P.eqGuardType P.depth t = false) → (ca ≠ .nilIface) →
      (eqGuard op t x y ca cb).run P w = .ok () w ∧ (Op.equal t ca cb).run P w = .ok r w :=
    fun he hg hn => ⟨guard_sound w op t x y ca cb (fun h => absurd h hn) hg, eqV_sound w 8 t a b r ca cb _ (by decide) he ra rb⟩
  unfold eqOp at h
  split at h
  · rename_i fs hu
    split at h
    · cases h
    · rename_i hg
      refine deep h (fun _ _ _ _ => by simpa using hg) ?_
      simp only [eqV, hu] at h
      split at h
      · simp only [Rel] at ra; obtain ⟨_, rfl, _⟩ := ra; exact fun h => by cases h
      · cases h
  · rename_i n e hu
    split at h
    · cases h
    · rename_i hg
      refine deep h (fun _ _ _ _ => by simpa using hg) ?_
      simp only [eqV, hu] at h
      split at h
      · simp only [Rel] at ra; obtain ⟨_, rfl, _⟩ := ra; exact fun h => by cases h
      · cases h
  · rename_i hu
    have he := h
    simp only [eqV, hu, eqBool] at he
    split at he
    · simp only [Rel] at ra; subst ra; exact deep h (fun _ _ e => by cases e) (fun e => by cases e)
    · cases he
  · rename_i hu
    have he := h
    simp only [eqV, hu, eqInt] at he
    split at he
    · simp only [Rel] at ra; subst ra; exact deep h (fun _ _ e => by cases e) (fun e => by cases e)
    · cases he
  · rename_i hu
    have he := h
    simp only [eqV, hu, eqStr] at he
    split at he
    · simp only [Rel] at ra; subst ra; exact deep h (fun _ _ e => by cases e) (fun e => by cases e)
    · cases he
  · rename_i d _ _ _ _ _ hu
    split at h
    case isFalse => cases h
    rename_i hk
    simp only [Bool.and_eq_true] at hk
    have shapes : ∀ (z : V) (c : Value), nilKind d z = true → Rel E z c → (∀ xs, c ≠ .agg xs) ∧ (c = .nilIface → z = .nilface) := by
      intro z c hz rz
      obtain ⟨nb, i1, s1⟩ := nilShape hz rz
      cases d <;> simp only [NilShape] at s1 <;> cases nb <;> simp only [if_true, if_false, Bool.false_eq_true] at s1
      case interface.true => subst s1; exact ⟨(fun _ e => by cases e), (fun _ => by cases z <;> simp only [nilKind, Bool.false_eq_true] at hz <;> simp only [V.isNil, Option.some.injEq, reduceCtorEq] at i1; rfl)⟩
      all_goals first
        | (subst s1; exact ⟨(fun _ e => by cases e), (fun e => by cases e)⟩)
        | (obtain ⟨_, rfl⟩ := s1; exact ⟨(fun _ e => by cases e), (fun e => by cases e)⟩)
        | (obtain ⟨_, _, rfl⟩ := s1; exact ⟨(fun _ e => by cases e), (fun e => by cases e)⟩)
        | (obtain ⟨_, _, _, rfl⟩ := s1; exact ⟨(fun _ e => by cases e), (fun e => by cases e)⟩)
    have noAgg := (shapes a ca hk.1 ra).1
    split at h
    · split at h
      case isFalse => cases h
      rename_i hc
      cases h
      exact ⟨guard_sound w op t x y ca cb (fun _ _ => hc) (fun xs _ e => absurd e (noAgg xs)), eqNil_sound w 9999 hu hk.1 hk.2 rfl ra rb⟩
    · rename_i hnn
      exact ⟨guard_sound w op t x y ca cb (fun e1 e2 => (hnn ((shapes a ca hk.1 ra).2 e1) ((shapes b cb hk.2 rb).2 e2)).elim) (fun xs _ e => absurd e (noAgg xs)), eqNil_sound w 9999 hu hk.1 hk.2 h ra rb⟩
  · cases h

end Go.AM
end
