/- This file holds in one the texts An15; each says at its head what it proves. -/
import Derived.Test.YtafhcdagifopeaaGreatDoorT10
set_option linter.unusedSimpArgs false
set_option linter.unusedVariables false
section
/- The abstract machine, part 15: what is frozen, forgotten or left behind still stands for the same. -/
namespace Go.AM
variable {P : Program} {E : Env} {B : Nat} {F : Nat → Nat → Prop} {H : Heap}

/-! ### Frozen -/

def bare (T : FuncId → Nat → Option (Array Tmp × Code × Code)) (w : World) (F : Nat → Nat → Prop) : Env := { w := w, mu := fun _ _ => none, reg := fun _ _ => none, mod := F, tab := T }

theorem Row.bare {b off : Nat} {vs : List Value} (h : Row E b off vs) (hF : ∀ b i, F b i → E.mod b i) : Row (bare E.tab E.w F) b off vs :=
  fun i v hv => ⟨(h i v hv).1, fun hm => (h i v hv).2 (hF _ _ hm)⟩

mutual
theorem Rel.bare (hF : ∀ b i, F b i → E.mod b i) : ∀ (x : V) (v : Value), x.pure = true → Rel E x v → Rel (bare E.tab E.w F) x v
  | .bad, _, _, _ => by simp [Rel]
  | .bool _, _, _, r | .int _ _, _, _, r | .str _, _, _, r | .nilptr, _, _, r | .nilslice, _, _, r | .nilmap, _, _, r | .nilfunc, _, _, r | .nilface, _, _, r | .byte, _, _, r => by
    simpa only [Rel] using r
  | .ptr f s o, _, p, _ => by simp [V.pure] at p
  | .iptr cells o, _, _, r => by
    simp only [Rel] at r ⊢
    obtain ⟨b, off, vs, rfl, hr, hl, hp⟩ := r
    exact ⟨b, off, vs, rfl, hr.bare hF, RelL.bare hF cells vs hp hl, hp⟩
  | .islice cells len full, _, _, r => by
    simp only [Rel] at r ⊢
    obtain ⟨a, cap, vs, rfl, h1, h2, hr, hl, hp⟩ := r
    exact ⟨a, cap, vs, rfl, h1, h2, hr.imp id (fun ⟨a, b⟩ => ⟨a, b.bare hF⟩), RelL.bare hF cells vs hp hl, hp⟩
  | .gslice f s cells len esz, _, p, _ => by simp [V.pure] at p
  | .rptr _ _, _, p, _ => by simp [V.pure] at p
  | .mslice f s o len cap esz, _, p, _ => by simp [V.pure] at p
  | .map f s, _, p, _ => by simp [V.pure] at p
  | .yield f s, _, p, _ => by simp [V.pure] at p
  | .func fn first captured, _, p, r => by
    simp only [Rel] at r ⊢
    simp only [V.pure, Bool.and_eq_true] at p
    obtain ⟨fs, cs, rfl, h1, h2⟩ := r
    exact ⟨fs, cs, rfl, RelL.bare hF first fs p.1 h1, RelL.bare hF captured cs p.2 h2⟩
  | .face t x, _, p, r => by
    simp only [Rel] at r ⊢
    simp only [V.pure] at p
    obtain ⟨c, rfl, hc⟩ := r
    exact ⟨c, rfl, Rel.bare hF x c p hc⟩
  | .agg cells, _, p, r => by
    simp only [Rel] at r ⊢
    simp only [V.pure] at p
    obtain ⟨vs, rfl, hl⟩ := r
    exact ⟨vs, rfl, RelL.bare hF cells vs p hl⟩
  | .tuple cells, _, p, r => by
    simp only [Rel] at r ⊢
    simp only [V.pure] at p
    obtain ⟨vs, rfl, hl⟩ := r
    exact ⟨vs, rfl, RelL.bare hF cells vs p hl⟩
theorem RelL.bare (hF : ∀ b i, F b i → E.mod b i) : ∀ (xs : List V) (vs : List Value), pureL xs = true → RelL E xs vs → RelL (bare E.tab E.w F) xs vs
  | [], _, _, r => r
  | x :: xs, _, p, r => by
    simp only [pureL, Bool.and_eq_true] at p
    obtain ⟨v, r', rfl, hv, hr⟩ := RelL.cons_iff.1 r
    exact .cons (Rel.bare hF x v p.1 hv) (RelL.bare hF xs r' p.2 hr)
end

mutual
theorem Rel.dress {E' : Env} (hw : E'.w = E.w) (hm : E'.mod = E.mod) : ∀ (x : V) (v : Value), x.pure = true → Rel E x v → Rel E' x v
  | .bad, _, _, _ => by simp [Rel]
  | .bool _, _, _, r | .int _ _, _, _, r | .str _, _, _, r | .nilptr, _, _, r | .nilslice, _, _, r | .nilmap, _, _, r | .nilfunc, _, _, r | .nilface, _, _, r | .byte, _, _, r => by
    simpa only [Rel] using r
  | .ptr f s o, _, p, _ => by simp [V.pure] at p
  | .iptr cells o, _, _, r => by
    simp only [Rel] at r ⊢
    obtain ⟨b, off, vs, rfl, hr, hl, hp⟩ := r
    refine ⟨b, off, vs, rfl, ?_, RelL.dress hw hm cells vs hp hl, hp⟩
    intro i v hv; rw [hw, hm]; exact hr i v hv
  | .islice cells len full, _, _, r => by
    simp only [Rel] at r ⊢
    obtain ⟨a, cap, vs, rfl, h1, h2, hr, hl, hp⟩ := r
    refine ⟨a, cap, vs, rfl, h1, h2, hr.imp id (fun ⟨a, b⟩ => ⟨a, ?_⟩), RelL.dress hw hm cells vs hp hl, hp⟩
    intro i v hv; rw [hw, hm]; exact b i v hv
  | .gslice f s cells len esz, _, p, _ => by simp [V.pure] at p
  | .rptr _ _, _, p, _ => by simp [V.pure] at p
  | .mslice f s o len cap esz, _, p, _ => by simp [V.pure] at p
  | .map f s, _, p, _ => by simp [V.pure] at p
  | .yield f s, _, p, _ => by simp [V.pure] at p
  | .func fn first captured, _, p, r => by
    simp only [Rel] at r ⊢
    simp only [V.pure, Bool.and_eq_true] at p
    obtain ⟨fs, cs, rfl, h1, h2⟩ := r
    exact ⟨fs, cs, rfl, RelL.dress hw hm first fs p.1 h1, RelL.dress hw hm captured cs p.2 h2⟩
  | .face t x, _, p, r => by
    simp only [Rel] at r ⊢
    simp only [V.pure] at p
    obtain ⟨c, rfl, hc⟩ := r
    exact ⟨c, rfl, Rel.dress hw hm x c p hc⟩
  | .agg cells, _, p, r => by
    simp only [Rel] at r ⊢
    simp only [V.pure] at p
    obtain ⟨vs, rfl, hl⟩ := r
    exact ⟨vs, rfl, RelL.dress hw hm cells vs p hl⟩
  | .tuple cells, _, p, r => by
    simp only [Rel] at r ⊢
    simp only [V.pure] at p
    obtain ⟨vs, rfl, hl⟩ := r
    exact ⟨vs, rfl, RelL.dress hw hm cells vs p hl⟩
theorem RelL.dress {E' : Env} (hw : E'.w = E.w) (hm : E'.mod = E.mod) : ∀ (xs : List V) (vs : List Value), pureL xs = true → RelL E xs vs → RelL E' xs vs
  | [], _, _, r => r
  | x :: xs, _, p, r => by
    simp only [pureL, Bool.and_eq_true] at p
    obtain ⟨v, r', rfl, hv, hr⟩ := RelL.cons_iff.1 r
    exact .cons (Rel.dress hw hm x v p.1 hv) (RelL.dress hw hm xs r' p.2 hr)
end

theorem frzL_sound {f : V → Option V} {E' : Env} (hf : ∀ x y v, f x = some y → Rel E x v → Rel E' y v ∧ y.pure = true) :
    ∀ (xs ys : List V) (vs : List Value), frzL f xs = some ys → RelL E xs vs → RelL E' ys vs ∧ pureL ys = true
  | [], ys, vs, h, r => by cases h; rw [RelL.nil_iff] at r; subst r; exact ⟨.nil, rfl⟩
  | x :: xs, ys, vs, h, r => by
    simp only [frzL] at h
    split at h
    · rename_i y ys' h1 h2
      cases h
      obtain ⟨v, r', rfl, hv, hr⟩ := RelL.cons_iff.1 r
      obtain ⟨a1, a2⟩ := hf x y v h1 hv
      obtain ⟨b1, b2⟩ := frzL_sound hf xs ys' r' h2 hr
      exact ⟨.cons a1 b1, by simp [pureL, a2, b2]⟩
    · cases h

theorem frz_sound {g : Get} (hF : ∀ b i, F b i → E.mod b i)
    (hg : ∀ f s xs, g f s = some (.cells xs) → ∃ b T vs n, E.mu f s = some b ∧ RelL E xs vs ∧ Lies E.w b 0 vs ∧ (∀ i, ¬ F b i) ∧ E.w.shape? b = some (T, n)) :
    ∀ (n : Nat) (x y : V) (v : Value), frz g n x = some y → Rel E x v → Rel (bare E.tab E.w F) y v ∧ y.pure = true := by
  intro n
  induction n with
  | zero => intro x y v h; cases h
  | succ n ih =>
    intro x y v h r
    have self : x.pure = true → frz g (n + 1) x = some x → Rel (bare E.tab E.w F) y v ∧ y.pure = true := by
      intro hp he
      rw [he] at h; cases h
      exact ⟨Rel.bare hF _ _ hp r, hp⟩
    cases x with
    | bad => exact self rfl rfl
    | bool => exact self rfl rfl
    | int => exact self rfl rfl
    | str => exact self rfl rfl
    | nilptr => exact self rfl rfl
    | iptr => exact self rfl rfl
    | nilslice => exact self rfl rfl
    | islice => exact self rfl rfl
    | nilmap => exact self rfl rfl
    | nilfunc => exact self rfl rfl
    | nilface => exact self rfl rfl
    | byte => exact self rfl rfl
    | map => cases h
    | yield => cases h
    | ptr f s o =>
      simp only [frz] at h
      split at h
      case h_2 => cases h
      rename_i xs hx
      cases hq : frzL (frz g n) xs with
      | none => rw [hq] at h; cases h
      | some cs =>
        rw [hq] at h; cases h
        obtain ⟨b, T, vs, m, h1, h2, h3, h4, _⟩ := hg f s xs hx
        simp only [Rel] at r
        obtain ⟨b', hb', rfl⟩ := r
        rw [h1] at hb'; cases hb'
        obtain ⟨a1, a2⟩ := frzL_sound ih xs cs vs hq h2
        refine ⟨?_, rfl⟩
        simp only [Rel]
        exact ⟨b, 0, vs, by rw [Nat.zero_add], fun i v hv => ⟨h3 i v hv, h4 _⟩, a1, a2⟩
    | gslice f s cs len esz =>
      simp only [frz] at h
      cases hq : frzL (frz g n) cs with
      | none => rw [hq] at h; cases h
      | some cs' =>
        rw [hq] at h; cases h
        simp only [Rel] at r
        obtain ⟨b, off, cap, vs, rfl, h1, hr, hl, hlen, _⟩ := r
        obtain ⟨a1, a2⟩ := frzL_sound ih cs cs' vs hq hl
        refine ⟨?_, rfl⟩
        simp only [Rel]
        exact ⟨_, cap, vs, rfl, h1, (fun h => by cases h), .inr ⟨rfl, hr.bare hF⟩, a1, a2⟩
    | rptr cs o =>
      simp only [frz] at h
      cases hq : frzL (frz g n) cs with
      | none => rw [hq] at h; cases h
      | some cs' =>
        rw [hq] at h; cases h
        simp only [Rel] at r
        obtain ⟨b, off, vs, rfl, hr, hl⟩ := r
        obtain ⟨a1, a2⟩ := frzL_sound ih cs cs' vs hq hl
        refine ⟨?_, rfl⟩
        simp only [Rel]
        exact ⟨b, off, vs, rfl, hr.bare hF, a1, a2⟩
    | mslice f s o len cap esz =>
      simp only [frz] at h
      split at h
      case h_2 => cases h
      rename_i xs hx
      split at h
      case isFalse => cases h
      rename_i hle
      cases hq : frzL (frz g n) ((xs.drop o).take (len * esz)) with
      | none => rw [hq] at h; cases h
      | some cs =>
        rw [hq] at h; cases h
        obtain ⟨b, T, vs, m, h1, h2, h3, h4, _⟩ := hg f s xs hx
        simp only [Rel] at r
        obtain ⟨b', c, T', n', hb', rfl, g1, g2, _⟩ := r
        rw [h1] at hb'; cases hb'
        obtain ⟨a1, a2⟩ := frzL_sound ih _ cs ((vs.drop o).take (len * esz)) hq ((h2.drop o).take _)
        refine ⟨?_, rfl⟩
        simp only [Rel]
        refine ⟨_, c, _, rfl, g1, ?_, .inr ⟨rfl, fun i v hv => ⟨h3.from o _ i v hv, h4 _⟩⟩, a1, a2⟩
        intro hcap
        have : cap = some len := by simpa using hcap
        exact g2 len this
    | func fn a b =>
      simp only [frz] at h
      split at h
      · rename_i a' b' ha hb
        cases h
        simp only [Rel] at r
        obtain ⟨fs, cs, rfl, h1, h2⟩ := r
        obtain ⟨p1, p2⟩ := frzL_sound ih a a' fs ha h1
        obtain ⟨q1, q2⟩ := frzL_sound ih b b' cs hb h2
        exact ⟨by simp only [Rel]; exact ⟨fs, cs, rfl, p1, q1⟩, by simp [V.pure, p2, q2]⟩
      · cases h
    | face t x =>
      simp only [frz] at h
      cases hq : frz g n x with
      | none => rw [hq] at h; cases h
      | some x' =>
        rw [hq] at h; cases h
        simp only [Rel] at r
        obtain ⟨c, rfl, hc⟩ := r
        obtain ⟨p1, p2⟩ := ih x x' c hq hc
        exact ⟨by simp only [Rel]; exact ⟨c, rfl, p1⟩, p2⟩
    | agg cs =>
      simp only [frz] at h
      cases hq : frzL (frz g n) cs with
      | none => rw [hq] at h; cases h
      | some cs' =>
        rw [hq] at h; cases h
        simp only [Rel] at r
        obtain ⟨vs, rfl, hl⟩ := r
        obtain ⟨p1, p2⟩ := frzL_sound ih cs cs' vs hq hl
        exact ⟨by simp only [Rel]; exact ⟨vs, rfl, p1⟩, p2⟩
    | tuple cs =>
      simp only [frz] at h
      cases hq : frzL (frz g n) cs with
      | none => rw [hq] at h; cases h
      | some cs' =>
        rw [hq] at h; cases h
        simp only [Rel] at r
        obtain ⟨vs, rfl, hl⟩ := r
        obtain ⟨p1, p2⟩ := frzL_sound ih cs cs' vs hq hl
        exact ⟨by simp only [Rel]; exact ⟨vs, rfl, p1⟩, p2⟩

theorem Sim.frz (S : Sim B F H E) {n : Nat} {x y : V} {v : Value} (h : frz (hget H) n x = some y) (r : Rel E x v) : Rel (bare E.tab E.w F) y v ∧ y.pure = true := by
  refine frz_sound S.fmod ?_ n x y v h r
  intro f s xs hx
  obtain ⟨b, c, T, vs, rest, h1, h2, h3, h4, h5, h6, h7, h8⟩ := S.lies hx
  exact ⟨b, T, vs, c.size, h1, h5, h8, fun i hi => by have := S.fb b i hi; omega, by simp [World.shape?, h3]⟩

theorem frzN_sound {g : Get} {M : Nat → Nat → Prop}
    (hg : ∀ f s xs, g f s = some (.cells xs) → ∃ b T vs n, E.mu f s = some b ∧ RelL E xs vs ∧ Lies E.w b 0 vs ∧ (∀ i, ¬ M b i) ∧ E.w.shape? b = some (T, n))
    (hr : ∀ f s k, g f s = some (.grow k) → ∃ b lo hi, E.reg f s = some (k, b, lo, hi) ∧ ∀ i, ¬ M b i) :
    ∀ (n : Nat) (x y : V) (v : Value), frzN g n x = some y → Rel E x v → Rel (bare E.tab E.w M) y v ∧ y.pure = true := by
  intro n
  induction n with
  | zero => intro x y v h; cases h
  | succ n ih =>
    intro x y v h r
    cases x with
    | bad => cases h
    | bool => cases h; exact ⟨by simpa [Rel] using r, rfl⟩
    | int => cases h; exact ⟨by simpa [Rel] using r, rfl⟩
    | str => cases h; exact ⟨by simpa [Rel] using r, rfl⟩
    | nilptr => cases h; exact ⟨by simpa [Rel] using r, rfl⟩
    | iptr => cases h
    | nilslice => cases h; exact ⟨by simpa [Rel] using r, rfl⟩
    | islice => cases h
    | nilmap => cases h; exact ⟨by simpa [Rel] using r, rfl⟩
    | nilfunc => cases h; exact ⟨by simpa [Rel] using r, rfl⟩
    | nilface => cases h; exact ⟨by simpa [Rel] using r, rfl⟩
    | byte => cases h; exact ⟨by simpa [Rel] using r, rfl⟩
    | map => cases h
    | yield => cases h
    | gslice f s cs len esz =>
      simp only [frzN] at h
      split at h
      case h_2 => cases h
      rename_i k hk
      split at h
      case isFalse => cases h
      rename_i hlen
      subst hlen
      cases hq : frzL (frzN g n) cs with
      | none => rw [hq] at h; cases h
      | some cs' =>
        rw [hq] at h; cases h
        obtain ⟨b1, lo, hi, e1, e2⟩ := hr f s k hk
        simp only [Rel] at r
        obtain ⟨b, off, cap, vs, rfl, h1, h2, h3, _, _, h4⟩ := r
        obtain ⟨_, h5⟩ := h4 _ _ _ _ e1
        obtain ⟨rfl, _, _⟩ := h5 rfl
        obtain ⟨a1, a2⟩ := frzL_sound ih cs cs' vs hq h3
        refine ⟨?_, rfl⟩
        simp only [Rel]
        exact ⟨_, cap, _, rfl, h1, (fun e => by cases e), .inr ⟨rfl, fun i v hv => ⟨(h2 i v hv).1, e2 _⟩⟩, a1, a2⟩
    | rptr => cases h
    | func => cases h
    | ptr f s o =>
      simp only [frzN] at h
      split at h
      case h_2 => cases h
      rename_i xs hx
      cases hq : frzL (frzN g n) xs with
      | none => rw [hq] at h; cases h
      | some cs =>
        rw [hq] at h; cases h
        obtain ⟨b, T, vs, m, h1, h2, h3, h4, _⟩ := hg f s xs hx
        simp only [Rel] at r
        obtain ⟨b', hb', rfl⟩ := r
        rw [h1] at hb'; cases hb'
        obtain ⟨a1, a2⟩ := frzL_sound ih xs cs vs hq h2
        refine ⟨?_, rfl⟩
        simp only [Rel]
        exact ⟨b, 0, vs, by rw [Nat.zero_add], fun i v hv => ⟨h3 i v hv, h4 _⟩, a1, a2⟩
    | mslice f s o len cap esz =>
      simp only [frzN] at h
      split at h
      case h_2 => cases h
      rename_i xs hx
      split at h
      case isFalse => cases h
      rename_i hle
      cases hq : frzL (frzN g n) ((xs.drop o).take (len * esz)) with
      | none => rw [hq] at h; cases h
      | some cs =>
        rw [hq] at h; cases h
        obtain ⟨b, T, vs, m, h1, h2, h3, h4, _⟩ := hg f s xs hx
        simp only [Rel] at r
        obtain ⟨b', c, T', n', hb', rfl, g1, g2, _⟩ := r
        rw [h1] at hb'; cases hb'
        obtain ⟨a1, a2⟩ := frzL_sound ih _ cs ((vs.drop o).take (len * esz)) hq ((h2.drop o).take _)
        refine ⟨?_, rfl⟩
        simp only [Rel]
        refine ⟨_, c, _, rfl, g1, ?_, .inr ⟨rfl, fun i v hv => ⟨h3.from o _ i v hv, h4 _⟩⟩, a1, a2⟩
        intro hcap
        have : cap = some len := by simpa using hcap
        exact g2 len this
    | face t x =>
      simp only [frzN] at h
      cases hq : frzN g n x with
      | none => rw [hq] at h; cases h
      | some x' =>
        rw [hq] at h; cases h
        simp only [Rel] at r
        obtain ⟨c, rfl, hc⟩ := r
        obtain ⟨p1, p2⟩ := ih x x' c hq hc
        exact ⟨by simp only [Rel]; exact ⟨c, rfl, p1⟩, p2⟩
    | agg cs =>
      simp only [frzN] at h
      cases hq : frzL (frzN g n) cs with
      | none => rw [hq] at h; cases h
      | some cs' =>
        rw [hq] at h; cases h
        simp only [Rel] at r
        obtain ⟨vs, rfl, hl⟩ := r
        obtain ⟨p1, p2⟩ := frzL_sound ih cs cs' vs hq hl
        exact ⟨by simp only [Rel]; exact ⟨vs, rfl, p1⟩, p2⟩
    | tuple cs =>
      simp only [frzN] at h
      cases hq : frzL (frzN g n) cs with
      | none => rw [hq] at h; cases h
      | some cs' =>
        rw [hq] at h; cases h
        simp only [Rel] at r
        obtain ⟨vs, rfl, hl⟩ := r
        obtain ⟨p1, p2⟩ := frzL_sound ih cs cs' vs hq hl
        exact ⟨by simp only [Rel]; exact ⟨vs, rfl, p1⟩, p2⟩

theorem Sim.frzN (S : Sim B F H E) {M : Nat → Nat → Prop} (hM : ∀ b i, M b i → b < B) {n : Nat} {x y : V} {v : Value} (h : frzN (hget H) n x = some y) (r : Rel E x v) : Rel (bare E.tab E.w M) y v ∧ y.pure = true := by
  refine frzN_sound ?_ (fun f s k hk => ?_) n x y v h r
  case refine_2 =>
    obtain ⟨b, lo, hi, c, T, z, g1, g2, g3, g4, g5, _⟩ := S.obj f s _ hk
    exact ⟨b, lo, hi, g1, fun i hi => by have := hM b i hi; omega⟩
  intro f s xs hx
  obtain ⟨b, c, T, vs, rest, h1, h2, h3, h4, h5, h6, h7, h8⟩ := S.lies hx
  exact ⟨b, T, vs, c.size, h1, h5, h8, fun i hi => by have := hM b i hi; omega, by simp [World.shape?, h3]⟩

theorem Sim.bareF (S : Sim B F H E) : Sim E.w.heap.size F [] (bare E.tab E.w F) where
  dom := fun f s => rfl
  bsz := Nat.le_refl _
  fb := fun b i h => Nat.lt_of_lt_of_le (S.fb b i h) S.bsz
  fmod := fun _ _ h => h
  modsz := fun b i h => Nat.lt_of_lt_of_le (S.fb b i h) S.bsz
  obj := fun f s o h => by simp [hget] at h
  nreg := fun f s n x h => by cases h
  inj := fun f s o _ _ _ _ h => by simp [hget] at h

theorem strip_sound {xs ys : List V} {vs : List Value} (n : Nat) (h : frzL (frz (fun _ _ => none) n) xs = some ys) (r : RelL E xs vs) : RelL (bare E.tab E.w E.mod) ys vs ∧ pureL ys = true :=
  frzL_sound (frz_sound (F := E.mod) (fun _ _ h => h) (fun _ _ _ h => by cases h) n) xs ys vs h r

theorem Sim.bare (S : Sim B F H E) : Sim E.w.heap.size E.mod [] (bare E.tab E.w E.mod) where
  dom := fun f s => rfl
  bsz := Nat.le_refl _
  fb := S.modsz
  fmod := fun _ _ h => h
  modsz := S.modsz
  obj := fun f s o h => by simp [hget] at h
  nreg := fun f s n x h => by cases h
  inj := fun f s o _ _ _ _ h => by simp [hget] at h

theorem Sim.behindM (S : Sim B F H E) {M : Nat → Nat → Prop} (hM : ∀ b i, M b i → E.mod b i) {E1 : Env} {k : Nat} (X : Ext k E.w.heap.size (AM.bare E.tab E.w M) E1) :
    Ext H.length B E { E with w := E1.w } ∧ Sim B F H { E with w := E1.w } := by
  have hX : Ext H.length B E { E with w := E1.w } := by
    refine ⟨X.size, X.shape, fun b i v hm h => X.cell b i v (fun h' => hm (hM b i h')) h, fun _ _ _ _ h => h, fun _ _ _ _ h => h, fun f s n b lo hi _ _ h => ⟨n, b, lo, hi, h, .inr ⟨rfl, rfl, rfl, rfl⟩⟩, ?_, X.rest, rfl, X.dfr⟩
    exact fun b hb => X.old b (Nat.lt_of_lt_of_le hb S.bsz)
  refine ⟨hX, S.dom, Nat.le_trans S.bsz X.size, S.fb, S.fmod, fun b i h => Nat.lt_of_lt_of_le (S.modsz b i h) X.size, ?_, S.nreg, ?_⟩
  · intro f s o ho
    exact (S.obj f s o ho).mono hX S.lt rfl rfl (fun b hb => ⟨X.old b (S.blk_lt ho hb), fun i h => h⟩)
  · intro f s o f' s' o' b h1 h2 h3 h4
    refine S.inj f s o f' s' o' b h1 h2 ?_ ?_
    · cases o <;> exact h3
    · cases o' <;> exact h4

theorem Sim.behind (S : Sim B F H E) {E1 : Env} {k : Nat} (X : Ext k E.w.heap.size (AM.bare E.tab E.w E.mod) E1) :
    Ext H.length B E { E with w := E1.w } ∧ Sim B F H { E with w := E1.w } := S.behindM (fun _ _ h => h) X

end Go.AM
end
