/- This file holds in one the texts Am15, Am16; each says at its head what it proves. -/
import Derived.Test.YtebbgmeomkjibaaGreatI12
set_option linter.unusedSimpArgs false
set_option linter.unusedVariables false
section
/- The abstract machine, part 15: what is frozen, forgotten or left behind still stands for the same. -/
namespace Go.AM
variable {P : Program} {E : Env} {B : Nat} {F : Nat → Nat → Prop} {H : Heap}

/-! ### Frozen -/

/-- No objects at all: the world, and the cells to keep clear of. -/
def bare (w : World) (F : Nat → Nat → Prop) : Env := { w := w, mu := fun _ _ => none, reg := fun _ _ => none, mod := F }

theorem Row.bare {b off : Nat} {vs : List Value} (h : Row E b off vs) (hF : ∀ b i, F b i → E.mod b i) : Row (bare E.w F) b off vs :=
  fun i v hv => ⟨(h i v hv).1, fun hm => (h i v hv).2 (hF _ _ hm)⟩

mutual
/-- A value without objects stands for the same under other objects. -/
theorem Rel.bare (hF : ∀ b i, F b i → E.mod b i) : ∀ (x : V) (v : Value), x.pure = true → Rel E x v → Rel (bare E.w F) x v
  | .bad, _, _, _ => by simp [Rel]
  | .bool _, _, _, r | .int _ _, _, _, r | .str _, _, _, r | .nilptr, _, _, r | .nilslice, _, _, r | .nilmap, _, _, r | .nilfunc, _, _, r | .nilface, _, _, r | .byte, _, _, r => by
    simpa only [Rel] using r
  | .ptr f s o, _, p, _ => by simp [V.pure] at p
  | .iptr cells o, _, _, r => by
    simp only [Rel] at r ⊢
    obtain ⟨b, off, vs, rfl, hr, hl, hp⟩ := r
    exact ⟨b, off, vs, rfl, hr.bare hF, RelL.bare hF cells vs hp hl, hp⟩
  | .islice cells len full, _, _, r => by
    simp only [Rel] at r ⊢
    obtain ⟨a, cap, vs, rfl, h1, h2, hr, hl, hp⟩ := r
    exact ⟨a, cap, vs, rfl, h1, h2, hr.imp id (fun ⟨a, b⟩ => ⟨a, b.bare hF⟩), RelL.bare hF cells vs hp hl, hp⟩
  | .gslice f s cells len esz, _, p, _ => by simp [V.pure] at p
  | .mslice f s o len cap esz, _, p, _ => by simp [V.pure] at p
  | .map f s, _, p, _ => by simp [V.pure] at p
  | .func fn first captured, _, p, r => by
    simp only [Rel] at r ⊢
    simp only [V.pure, Bool.and_eq_true] at p
    obtain ⟨fs, cs, rfl, h1, h2⟩ := r
    exact ⟨fs, cs, rfl, RelL.bare hF first fs p.1 h1, RelL.bare hF captured cs p.2 h2⟩
  | .face t x, _, p, r => by
    simp only [Rel] at r ⊢
    simp only [V.pure] at p
    obtain ⟨c, rfl, hc⟩ := r
    exact ⟨c, rfl, Rel.bare hF x c p hc⟩
  | .agg cells, _, p, r => by
    simp only [Rel] at r ⊢
    simp only [V.pure] at p
    obtain ⟨vs, rfl, hl⟩ := r
    exact ⟨vs, rfl, RelL.bare hF cells vs p hl⟩
  | .tuple cells, _, p, r => by
    simp only [Rel] at r ⊢
    simp only [V.pure] at p
    obtain ⟨vs, rfl, hl⟩ := r
    exact ⟨vs, rfl, RelL.bare hF cells vs p hl⟩
theorem RelL.bare (hF : ∀ b i, F b i → E.mod b i) : ∀ (xs : List V) (vs : List Value), pureL xs = true → RelL E xs vs → RelL (bare E.w F) xs vs
  | [], _, _, r => r
  | x :: xs, _, p, r => by
    simp only [pureL, Bool.and_eq_true] at p
    obtain ⟨v, r', rfl, hv, hr⟩ := RelL.cons_iff.1 r
    exact .cons (Rel.bare hF x v p.1 hv) (RelL.bare hF xs r' p.2 hr)
end

mutual
/-- A value without objects, seen under whatever objects. -/
theorem Rel.dress {E' : Env} (hw : E'.w = E.w) (hm : E'.mod = E.mod) : ∀ (x : V) (v : Value), x.pure = true → Rel E x v → Rel E' x v
  | .bad, _, _, _ => by simp [Rel]
  | .bool _, _, _, r | .int _ _, _, _, r | .str _, _, _, r | .nilptr, _, _, r | .nilslice, _, _, r | .nilmap, _, _, r | .nilfunc, _, _, r | .nilface, _, _, r | .byte, _, _, r => by
    simpa only [Rel] using r
  | .ptr f s o, _, p, _ => by simp [V.pure] at p
  | .iptr cells o, _, _, r => by
    simp only [Rel] at r ⊢
    obtain ⟨b, off, vs, rfl, hr, hl, hp⟩ := r
    refine ⟨b, off, vs, rfl, ?_, RelL.dress hw hm cells vs hp hl, hp⟩
    intro i v hv; rw [hw, hm]; exact hr i v hv
  | .islice cells len full, _, _, r => by
    simp only [Rel] at r ⊢
    obtain ⟨a, cap, vs, rfl, h1, h2, hr, hl, hp⟩ := r
    refine ⟨a, cap, vs, rfl, h1, h2, hr.imp id (fun ⟨a, b⟩ => ⟨a, ?_⟩), RelL.dress hw hm cells vs hp hl, hp⟩
    intro i v hv; rw [hw, hm]; exact b i v hv
  | .gslice f s cells len esz, _, p, _ => by simp [V.pure] at p
  | .mslice f s o len cap esz, _, p, _ => by simp [V.pure] at p
  | .map f s, _, p, _ => by simp [V.pure] at p
  | .func fn first captured, _, p, r => by
    simp only [Rel] at r ⊢
    simp only [V.pure, Bool.and_eq_true] at p
    obtain ⟨fs, cs, rfl, h1, h2⟩ := r
    exact ⟨fs, cs, rfl, RelL.dress hw hm first fs p.1 h1, RelL.dress hw hm captured cs p.2 h2⟩
  | .face t x, _, p, r => by
    simp only [Rel] at r ⊢
    simp only [V.pure] at p
    obtain ⟨c, rfl, hc⟩ := r
    exact ⟨c, rfl, Rel.dress hw hm x c p hc⟩
  | .agg cells, _, p, r => by
    simp only [Rel] at r ⊢
    simp only [V.pure] at p
    obtain ⟨vs, rfl, hl⟩ := r
    exact ⟨vs, rfl, RelL.dress hw hm cells vs p hl⟩
  | .tuple cells, _, p, r => by
    simp only [Rel] at r ⊢
    simp only [V.pure] at p
    obtain ⟨vs, rfl, hl⟩ := r
    exact ⟨vs, rfl, RelL.dress hw hm cells vs p hl⟩
theorem RelL.dress {E' : Env} (hw : E'.w = E.w) (hm : E'.mod = E.mod) : ∀ (xs : List V) (vs : List Value), pureL xs = true → RelL E xs vs → RelL E' xs vs
  | [], _, _, r => r
  | x :: xs, _, p, r => by
    simp only [pureL, Bool.and_eq_true] at p
    obtain ⟨v, r', rfl, hv, hr⟩ := RelL.cons_iff.1 r
    exact .cons (Rel.dress hw hm x v p.1 hv) (RelL.dress hw hm xs r' p.2 hr)
end

theorem frzL_sound {f : V → Option V} {E' : Env} (hf : ∀ x y v, f x = some y → Rel E x v → Rel E' y v ∧ y.pure = true) :
    ∀ (xs ys : List V) (vs : List Value), frzL f xs = some ys → RelL E xs vs → RelL E' ys vs ∧ pureL ys = true
  | [], ys, vs, h, r => by cases h; rw [RelL.nil_iff] at r; subst r; exact ⟨.nil, rfl⟩
  | x :: xs, ys, vs, h, r => by
    simp only [frzL] at h
    split at h
    · rename_i y ys' h1 h2
      cases h
      obtain ⟨v, r', rfl, hv, hr⟩ := RelL.cons_iff.1 r
      obtain ⟨a1, a2⟩ := hf x y v h1 hv
      obtain ⟨b1, b2⟩ := frzL_sound hf xs ys' r' h2 hr
      exact ⟨.cons a1 b1, by simp [pureL, a2, b2]⟩
    · cases h

/-- What is frozen stands for the same, without objects. -/
theorem frz_sound {g : Get} (hF : ∀ b i, F b i → E.mod b i)
    (hg : ∀ f s xs, g f s = some (.cells xs) → ∃ b T vs n, E.mu f s = some b ∧ RelL E xs vs ∧ Lies E.w b 0 vs ∧ (∀ i, ¬ F b i) ∧ E.w.shape? b = some (T, n)) :
    ∀ (n : Nat) (x y : V) (v : Value), frz g n x = some y → Rel E x v → Rel (bare E.w F) y v ∧ y.pure = true := by
  intro n
  induction n with
  | zero => intro x y v h; cases h
  | succ n ih =>
    intro x y v h r
    have self : x.pure = true → frz g (n + 1) x = some x → Rel (bare E.w F) y v ∧ y.pure = true := by
      intro hp he
      rw [he] at h; cases h
      exact ⟨Rel.bare hF _ _ hp r, hp⟩
    cases x with
    | bad => exact self rfl rfl
    | bool => exact self rfl rfl
    | int => exact self rfl rfl
    | str => exact self rfl rfl
    | nilptr => exact self rfl rfl
    | iptr => exact self rfl rfl
    | nilslice => exact self rfl rfl
    | islice => exact self rfl rfl
    | nilmap => exact self rfl rfl
    | nilfunc => exact self rfl rfl
    | nilface => exact self rfl rfl
    | byte => exact self rfl rfl
    | map => cases h
    | ptr f s o =>
      simp only [frz] at h
      split at h
      case h_2 => cases h
      rename_i xs hx
      cases hq : frzL (frz g n) xs with
      | none => rw [hq] at h; cases h
      | some cs =>
        rw [hq] at h; cases h
        obtain ⟨b, T, vs, m, h1, h2, h3, h4, _⟩ := hg f s xs hx
        simp only [Rel] at r
        obtain ⟨b', hb', rfl⟩ := r
        rw [h1] at hb'; cases hb'
        obtain ⟨a1, a2⟩ := frzL_sound ih xs cs vs hq h2
        refine ⟨?_, rfl⟩
        simp only [Rel]
        exact ⟨b, 0, vs, by rw [Nat.zero_add], fun i v hv => ⟨h3 i v hv, h4 _⟩, a1, a2⟩
    | gslice f s cs len esz =>
      simp only [frz, Option.some.injEq] at h
      subst h
      simp only [Rel] at r
      obtain ⟨b, off, cap, vs, rfl, h1, hr, hl, hp, hlen, _⟩ := r
      refine ⟨?_, rfl⟩
      simp only [Rel]
      exact ⟨_, cap, vs, rfl, h1, (fun h => by cases h), .inr ⟨rfl, hr.bare hF⟩, RelL.bare hF _ _ hp hl, hp⟩
    | mslice f s o len cap esz =>
      simp only [frz] at h
      split at h
      case h_2 => cases h
      rename_i xs hx
      split at h
      case isFalse => cases h
      rename_i hle
      cases hq : frzL (frz g n) ((xs.drop o).take (len * esz)) with
      | none => rw [hq] at h; cases h
      | some cs =>
        rw [hq] at h; cases h
        obtain ⟨b, T, vs, m, h1, h2, h3, h4, _⟩ := hg f s xs hx
        simp only [Rel] at r
        obtain ⟨b', c, T', n', hb', rfl, g1, g2, _⟩ := r
        rw [h1] at hb'; cases hb'
        obtain ⟨a1, a2⟩ := frzL_sound ih _ cs ((vs.drop o).take (len * esz)) hq ((h2.drop o).take _)
        refine ⟨?_, rfl⟩
        simp only [Rel]
        refine ⟨_, c, _, rfl, g1, ?_, .inr ⟨rfl, fun i v hv => ⟨h3.from o _ i v hv, h4 _⟩⟩, a1, a2⟩
        intro hcap
        have : cap = some len := by simpa using hcap
        exact g2 len this
    | func fn a b =>
      simp only [frz] at h
      split at h
      · rename_i a' b' ha hb
        cases h
        simp only [Rel] at r
        obtain ⟨fs, cs, rfl, h1, h2⟩ := r
        obtain ⟨p1, p2⟩ := frzL_sound ih a a' fs ha h1
        obtain ⟨q1, q2⟩ := frzL_sound ih b b' cs hb h2
        exact ⟨by simp only [Rel]; exact ⟨fs, cs, rfl, p1, q1⟩, by simp [V.pure, p2, q2]⟩
      · cases h
    | face t x =>
      simp only [frz] at h
      cases hq : frz g n x with
      | none => rw [hq] at h; cases h
      | some x' =>
        rw [hq] at h; cases h
        simp only [Rel] at r
        obtain ⟨c, rfl, hc⟩ := r
        obtain ⟨p1, p2⟩ := ih x x' c hq hc
        exact ⟨by simp only [Rel]; exact ⟨c, rfl, p1⟩, p2⟩
    | agg cs =>
      simp only [frz] at h
      cases hq : frzL (frz g n) cs with
      | none => rw [hq] at h; cases h
      | some cs' =>
        rw [hq] at h; cases h
        simp only [Rel] at r
        obtain ⟨vs, rfl, hl⟩ := r
        obtain ⟨p1, p2⟩ := frzL_sound ih cs cs' vs hq hl
        exact ⟨by simp only [Rel]; exact ⟨vs, rfl, p1⟩, p2⟩
    | tuple cs =>
      simp only [frz] at h
      cases hq : frzL (frz g n) cs with
      | none => rw [hq] at h; cases h
      | some cs' =>
        rw [hq] at h; cases h
        simp only [Rel] at r
        obtain ⟨vs, rfl, hl⟩ := r
        obtain ⟨p1, p2⟩ := frzL_sound ih cs cs' vs hq hl
        exact ⟨by simp only [Rel]; exact ⟨vs, rfl, p1⟩, p2⟩

theorem Sim.frz (S : Sim B F H E) {n : Nat} {x y : V} {v : Value} (h : frz (hget H) n x = some y) (r : Rel E x v) : Rel (bare E.w F) y v ∧ y.pure = true := by
  refine frz_sound S.fmod ?_ n x y v h r
  intro f s xs hx
  obtain ⟨b, c, T, vs, rest, h1, h2, h3, h4, h5, h6, h7, h8⟩ := S.lies hx
  exact ⟨b, T, vs, c.size, h1, h5, h8, fun i hi => by have := S.fb b i hi; omega, by simp [World.shape?, h3]⟩

/-- The same, of things that are all of this heap. -/
theorem frzN_sound {g : Get} {M : Nat → Nat → Prop}
    (hg : ∀ f s xs, g f s = some (.cells xs) → ∃ b T vs n, E.mu f s = some b ∧ RelL E xs vs ∧ Lies E.w b 0 vs ∧ (∀ i, ¬ M b i) ∧ E.w.shape? b = some (T, n)) :
    ∀ (n : Nat) (x y : V) (v : Value), frzN g n x = some y → Rel E x v → Rel (bare E.w M) y v ∧ y.pure = true := by
  intro n
  induction n with
  | zero => intro x y v h; cases h
  | succ n ih =>
    intro x y v h r
    cases x with
    | bad => cases h
    | bool => cases h; exact ⟨by simpa [Rel] using r, rfl⟩
    | int => cases h; exact ⟨by simpa [Rel] using r, rfl⟩
    | str => cases h; exact ⟨by simpa [Rel] using r, rfl⟩
    | nilptr => cases h; exact ⟨by simpa [Rel] using r, rfl⟩
    | iptr => cases h
    | nilslice => cases h; exact ⟨by simpa [Rel] using r, rfl⟩
    | islice => cases h
    | nilmap => cases h; exact ⟨by simpa [Rel] using r, rfl⟩
    | nilfunc => cases h; exact ⟨by simpa [Rel] using r, rfl⟩
    | nilface => cases h; exact ⟨by simpa [Rel] using r, rfl⟩
    | byte => cases h; exact ⟨by simpa [Rel] using r, rfl⟩
    | map => cases h
    | gslice => cases h
    | func => cases h
    | ptr f s o =>
      simp only [frzN] at h
      split at h
      case h_2 => cases h
      rename_i xs hx
      cases hq : frzL (frzN g n) xs with
      | none => rw [hq] at h; cases h
      | some cs =>
        rw [hq] at h; cases h
        obtain ⟨b, T, vs, m, h1, h2, h3, h4, _⟩ := hg f s xs hx
        simp only [Rel] at r
        obtain ⟨b', hb', rfl⟩ := r
        rw [h1] at hb'; cases hb'
        obtain ⟨a1, a2⟩ := frzL_sound ih xs cs vs hq h2
        refine ⟨?_, rfl⟩
        simp only [Rel]
        exact ⟨b, 0, vs, by rw [Nat.zero_add], fun i v hv => ⟨h3 i v hv, h4 _⟩, a1, a2⟩
    | mslice f s o len cap esz =>
      simp only [frzN] at h
      split at h
      case h_2 => cases h
      rename_i xs hx
      split at h
      case isFalse => cases h
      rename_i hle
      cases hq : frzL (frzN g n) ((xs.drop o).take (len * esz)) with
      | none => rw [hq] at h; cases h
      | some cs =>
        rw [hq] at h; cases h
        obtain ⟨b, T, vs, m, h1, h2, h3, h4, _⟩ := hg f s xs hx
        simp only [Rel] at r
        obtain ⟨b', c, T', n', hb', rfl, g1, g2, _⟩ := r
        rw [h1] at hb'; cases hb'
        obtain ⟨a1, a2⟩ := frzL_sound ih _ cs ((vs.drop o).take (len * esz)) hq ((h2.drop o).take _)
        refine ⟨?_, rfl⟩
        simp only [Rel]
        refine ⟨_, c, _, rfl, g1, ?_, .inr ⟨rfl, fun i v hv => ⟨h3.from o _ i v hv, h4 _⟩⟩, a1, a2⟩
        intro hcap
        have : cap = some len := by simpa using hcap
        exact g2 len this
    | face t x =>
      simp only [frzN] at h
      cases hq : frzN g n x with
      | none => rw [hq] at h; cases h
      | some x' =>
        rw [hq] at h; cases h
        simp only [Rel] at r
        obtain ⟨c, rfl, hc⟩ := r
        obtain ⟨p1, p2⟩ := ih x x' c hq hc
        exact ⟨by simp only [Rel]; exact ⟨c, rfl, p1⟩, p2⟩
    | agg cs =>
      simp only [frzN] at h
      cases hq : frzL (frzN g n) cs with
      | none => rw [hq] at h; cases h
      | some cs' =>
        rw [hq] at h; cases h
        simp only [Rel] at r
        obtain ⟨vs, rfl, hl⟩ := r
        obtain ⟨p1, p2⟩ := frzL_sound ih cs cs' vs hq hl
        exact ⟨by simp only [Rel]; exact ⟨vs, rfl, p1⟩, p2⟩
    | tuple cs =>
      simp only [frzN] at h
      cases hq : frzL (frzN g n) cs with
      | none => rw [hq] at h; cases h
      | some cs' =>
        rw [hq] at h; cases h
        simp only [Rel] at r
        obtain ⟨vs, rfl, hl⟩ := r
        obtain ⟨p1, p2⟩ := frzL_sound ih cs cs' vs hq hl
        exact ⟨by simp only [Rel]; exact ⟨vs, rfl, p1⟩, p2⟩

theorem Sim.frzN (S : Sim B F H E) {M : Nat → Nat → Prop} (hM : ∀ b i, M b i → b < B) {n : Nat} {x y : V} {v : Value} (h : frzN (hget H) n x = some y) (r : Rel E x v) : Rel (bare E.w M) y v ∧ y.pure = true := by
  refine frzN_sound ?_ n x y v h r
  intro f s xs hx
  obtain ⟨b, c, T, vs, rest, h1, h2, h3, h4, h5, h6, h7, h8⟩ := S.lies hx
  exact ⟨b, T, vs, c.size, h1, h5, h8, fun i hi => by have := hM b i hi; omega, by simp [World.shape?, h3]⟩

theorem Sim.bareF (S : Sim B F H E) : Sim E.w.heap.size F [] (bare E.w F) where
  dom := fun f s => rfl
  bsz := Nat.le_refl _
  fb := fun b i h => Nat.lt_of_lt_of_le (S.fb b i h) S.bsz
  fmod := fun _ _ h => h
  modsz := fun b i h => Nat.lt_of_lt_of_le (S.fb b i h) S.bsz
  obj := fun f s o h => by simp [hget] at h
  nreg := fun f s n x h => by cases h
  inj := fun f s o _ _ _ _ h => by simp [hget] at h

/-- Arguments for a call on an empty heap. -/
theorem strip_sound {xs ys : List V} {vs : List Value} (n : Nat) (h : frzL (frz (fun _ _ => none) n) xs = some ys) (r : RelL E xs vs) : RelL (bare E.w E.mod) ys vs ∧ pureL ys = true :=
  frzL_sound (frz_sound (F := E.mod) (fun _ _ h => h) (fun _ _ _ h => by cases h) n) xs ys vs h r

theorem Sim.bare (S : Sim B F H E) : Sim E.w.heap.size E.mod [] (bare E.w E.mod) where
  dom := fun f s => rfl
  bsz := Nat.le_refl _
  fb := S.modsz
  fmod := fun _ _ h => h
  modsz := S.modsz
  obj := fun f s o h => by simp [hget] at h
  nreg := fun f s n x h => by cases h
  inj := fun f s o _ _ _ _ h => by simp [hget] at h

/-- Behind a call on an empty heap all that was there is as it was. -/
theorem Sim.behindM (S : Sim B F H E) {M : Nat → Nat → Prop} (hM : ∀ b i, M b i → E.mod b i) {E1 : Env} {k : Nat} (X : Ext k E.w.heap.size (AM.bare E.w M) E1) :
    Ext H.length B E { E with w := E1.w } ∧ Sim B F H { E with w := E1.w } := by
  have hX : Ext H.length B E { E with w := E1.w } := by
    refine ⟨X.size, X.shape, fun b i v hm h => X.cell b i v (fun h' => hm (hM b i h')) h, fun _ _ _ _ h => h, fun _ _ _ _ h => h, fun f s n b lo hi _ _ h => ⟨n, b, lo, hi, h, .inr ⟨rfl, rfl, rfl, rfl⟩⟩, ?_, X.rest⟩
    exact fun b hb => X.old b (Nat.lt_of_lt_of_le hb S.bsz)
  refine ⟨hX, S.dom, Nat.le_trans S.bsz X.size, S.fb, S.fmod, fun b i h => Nat.lt_of_lt_of_le (S.modsz b i h) X.size, ?_, S.nreg, ?_⟩
  · intro f s o ho
    exact (S.obj f s o ho).mono hX S.lt rfl rfl (fun b hb => ⟨X.old b (S.blk_lt ho hb), fun i h => h⟩)
  · intro f s o f' s' o' b h1 h2 h3 h4
    refine S.inj f s o f' s' o' b h1 h2 ?_ ?_
    · cases o <;> exact h3
    · cases o' <;> exact h4

theorem Sim.behind (S : Sim B F H E) {E1 : Env} {k : Nat} (X : Ext k E.w.heap.size (AM.bare E.w E.mod) E1) :
    Ext H.length B E { E with w := E1.w } ∧ Sim B F H { E with w := E1.w } := S.behindM (fun _ _ h => h) X

end Go.AM
end
section
/- The abstract machine, part 16: frames come and go. -/
namespace Go.AM
variable {P : Program} {E : Env} {B : Nat} {F : Nat → Nat → Prop} {H : Heap}

/-- Some objects are forgotten. -/
def Env.drop (E : Env) (p : Nat → Nat → Bool) : Env :=
  { w := E.w, mu := fun f s => if p f s then none else E.mu f s, reg := fun f s => if p f s then none else E.reg f s, mod := E.mod }

theorem Env.drop_mu (E : Env) {p : Nat → Nat → Bool} {f s : Nat} (h : p f s = false) : (E.drop p).mu f s = E.mu f s := by simp [Env.drop, h]
theorem Env.drop_reg (E : Env) {p : Nat → Nat → Bool} {f s : Nat} (h : p f s = false) : (E.drop p).reg f s = E.reg f s := by simp [Env.drop, h]

mutual
theorem Rel.strike {p : Nat → Nat → Bool} : ∀ (x : V) (v : Value), x.refs p = false → Rel E x v → Rel (E.drop p) x v
  | .bad, _, _, _ => by simp [Rel]
  | .bool _, _, _, r | .int _ _, _, _, r | .str _, _, _, r | .nilptr, _, _, r | .nilslice, _, _, r | .nilmap, _, _, r | .nilfunc, _, _, r | .nilface, _, _, r | .byte, _, _, r => by
    simpa only [Rel] using r
  | .ptr f s o, _, q, r => by
    simp only [V.refs] at q
    simp only [Rel, E.drop_mu q] at r ⊢
    exact r
  | .iptr cells o, _, _, r => by
    simp only [Rel] at r ⊢
    obtain ⟨b, off, vs, rfl, hr, hl, hp⟩ := r
    exact ⟨b, off, vs, rfl, hr, RelL.dress (E := E) (E' := E.drop p) rfl rfl cells vs hp hl, hp⟩
  | .islice cells len full, _, _, r => by
    simp only [Rel] at r ⊢
    obtain ⟨a, cap, vs, rfl, h1, h2, hr, hl, hp⟩ := r
    exact ⟨a, cap, vs, rfl, h1, h2, hr, RelL.dress (E := E) (E' := E.drop p) rfl rfl cells vs hp hl, hp⟩
  | .gslice f s cells len esz, _, q, r => by
    simp only [V.refs] at q
    simp only [Rel, E.drop_mu q, E.drop_reg q] at r ⊢
    obtain ⟨b, off, cap, vs, rfl, h1, hr, hl, hp, hrest⟩ := r
    exact ⟨b, off, cap, vs, rfl, h1, hr, RelL.dress (E := E) (E' := E.drop p) rfl rfl cells vs hp hl, hp, hrest⟩
  | .mslice f s o len cap esz, _, q, r => by
    simp only [V.refs] at q
    simp only [Rel, E.drop_mu q] at r ⊢
    exact r
  | .map f s, _, q, r => by
    simp only [V.refs] at q
    simp only [Rel, E.drop_mu q] at r ⊢
    exact r
  | .func fn first captured, _, q, r => by
    simp only [V.refs, Bool.or_eq_false_iff] at q
    simp only [Rel] at r ⊢
    obtain ⟨fs, cs, rfl, h1, h2⟩ := r
    exact ⟨fs, cs, rfl, RelL.strike first fs q.1 h1, RelL.strike captured cs q.2 h2⟩
  | .face t x, _, q, r => by
    simp only [V.refs] at q
    simp only [Rel] at r ⊢
    obtain ⟨c, rfl, hc⟩ := r
    exact ⟨c, rfl, Rel.strike x c q hc⟩
  | .agg cells, _, q, r => by
    simp only [V.refs] at q
    simp only [Rel] at r ⊢
    obtain ⟨vs, rfl, hl⟩ := r
    exact ⟨vs, rfl, RelL.strike cells vs q hl⟩
  | .tuple cells, _, q, r => by
    simp only [V.refs] at q
    simp only [Rel] at r ⊢
    obtain ⟨vs, rfl, hl⟩ := r
    exact ⟨vs, rfl, RelL.strike cells vs q hl⟩
theorem RelL.strike {p : Nat → Nat → Bool} : ∀ (xs : List V) (vs : List Value), refsL p xs = false → RelL E xs vs → RelL (E.drop p) xs vs
  | [], _, _, r => r
  | x :: xs, _, q, r => by
    simp only [refsL, Bool.or_eq_false_iff] at q
    obtain ⟨v, r', rfl, hv, hr⟩ := RelL.cons_iff.1 r
    exact .cons (Rel.strike x v q.1 hv) (RelL.strike xs r' q.2 hr)
end

theorem RelM.strike {p : Nat → Nat → Bool} : ∀ (es : List (V × V)) (ces : List MapEntry), refsM p es = false → RelM E es ces → RelM (E.drop p) es ces
  | [], _, _, r => r
  | (k, x) :: es, _, q, r => by
    simp only [refsM, Bool.or_eq_false_iff] at q
    obtain ⟨e, r', rfl, h1, h2, h3⟩ := r
    exact ⟨e, r', rfl, Rel.strike k _ q.1.1 h1, Rel.strike x _ q.1.2 h2, RelM.strike es r' q.2 h3⟩

theorem Sim.drop (S : Sim B F H E) {p : Nat → Nat → Bool} {H' : Heap} {k : Nat} (hp : ∀ f s, p f s = true → k ≤ f)
    (hget' : ∀ f s, hget H' f s = if p f s then none else hget H f s) (hno : ∀ f s o, hget H' f s = some o → o.refs p = false) :
    Ext k B E (E.drop p) ∧ Sim B F H' (E.drop p) := by
  have hold : ∀ f s o, hget H' f s = some o → p f s = false ∧ hget H f s = some o := by
    intro f s o ho
    rw [hget'] at ho
    cases hq : p f s with
    | true => rw [hq] at ho; cases ho
    | false => rw [hq] at ho; exact ⟨rfl, ho⟩
  refine ⟨⟨Nat.le_refl _, fun _ _ _ h => h, fun _ _ _ _ h => h, fun _ _ _ _ h => h, ?_, ?_, fun _ _ => rfl, ⟨rfl, rfl, rfl⟩⟩, ⟨?_, S.bsz, S.fb, S.fmod, S.modsz, ?_, ?_, ?_⟩⟩
  · intro f s b hf h
    have : p f s = false := by
      cases hq : p f s with
      | true => have := hp f s hq; omega
      | false => rfl
    rw [E.drop_mu this]; exact h
  · intro f s n b lo hi hf hs h
    have : p f s = false := by
      cases hq : p f s with
      | true => have := hp f s hq; omega
      | false => rfl
    rw [E.drop_reg this] at h
    exact ⟨n, b, lo, hi, h, .inr ⟨rfl, rfl, rfl, rfl⟩⟩
  · intro f s
    rw [hget']
    cases hq : p f s with
    | true => simp [Env.drop, hq]
    | false => rw [E.drop_mu hq]; exact S.dom f s
  · intro f s o ho
    obtain ⟨hq, ho'⟩ := hold f s o ho
    have hr := hno f s o ho
    have := S.obj f s o ho'
    cases o with
    | cells xs =>
      obtain ⟨b, c, T, vs, rest, h1, h2, h3, h4, h5, h6, h7⟩ := this
      exact ⟨b, c, T, vs, rest, (E.drop_mu hq).trans h1, h2, h3, h4, RelL.strike xs vs hr h5, h6, h7⟩
    | map es bs clk =>
      obtain ⟨b, ces, h1, h2, h3, h4, h5⟩ := this
      exact ⟨b, ces, (E.drop_mu hq).trans h1, h2, h3, RelM.strike es _ hr h4, h5⟩
    | iter m since seen stepped =>
      obtain ⟨b, mb, h1, h2, h3, h4⟩ := this
      refine ⟨b, mb, (E.drop_mu hq).trans h1, h2, h3, ?_⟩
      cases m with
      | none => exact h4
      | some x =>
        obtain ⟨r, h5, h6⟩ := h4
        exact ⟨r, h5, (E.drop_mu hr).trans h6⟩
    | grow n =>
      obtain ⟨b, lo, hi, c, T, h1, h2⟩ := this
      exact ⟨b, lo, hi, c, T, (E.drop_reg hq).trans h1, h2⟩
    | dead => trivial
  · intro f s n x h
    rw [hget']
    cases hq : p f s with
    | true => simp [Env.drop, hq] at h
    | false => rw [E.drop_reg hq] at h; exact S.nreg f s n x h
  · intro f s o f' s' o' b h1 h2 h3 h4
    obtain ⟨q1, g1⟩ := hold f s o h1
    obtain ⟨q2, g2⟩ := hold f' s' o' h2
    refine S.inj f s o f' s' o' b g1 g2 ?_ ?_
    · cases o <;> simp only [blk, E.drop_mu q1, E.drop_reg q1] at h3 <;> exact h3
    · cases o' <;> simp only [blk, E.drop_mu q2, E.drop_reg q2] at h4 <;> exact h4

theorem clearF_get {p : Nat → Nat → Bool} : ∀ (fr : Frame) (s : Nat) (o : O), clearF p fr = true → fget fr s = some o → o.refs p = false
  | [], s, o, _, h => by cases h
  | (k, q) :: r, s, o, hc, h => by
    simp only [clearF, Bool.and_eq_true, Bool.not_eq_true'] at hc
    simp only [fget] at h
    split at h
    · cases h; exact hc.1
    · exact clearF_get r s o hc.2 h

theorem clearH_get {p : Nat → Nat → Bool} : ∀ (H : Heap) (f s : Nat) (o : O), clearH p H = true → hget H f s = some o → o.refs p = false
  | [], f, s, o, _, h => by simp [hget] at h
  | fr :: r, f, s, o, hc, h => by
    simp only [clearH, Bool.and_eq_true] at hc
    cases f with
    | zero => exact clearF_get fr s o hc.1 (by simpa [hget] using h)
    | succ f => exact clearH_get r f s o hc.2 (by simpa [hget] using h)

/-- A new frame. -/
theorem hget_push (H : Heap) (f s : Nat) : hget (H ++ [[]]) f s = hget H f s := by
  unfold hget
  by_cases h : f < H.length
  · rw [List.getElem?_append_left h]
  · rw [List.getElem?_append_right (by omega), List.getElem?_eq_none (l := H) (by omega)]
    by_cases e : f = H.length
    · subst e; simp [fget]
    · rw [List.getElem?_eq_none]
      simp; omega

theorem Sim.push (S : Sim B F H E) : Sim B F (H ++ [[]]) E where
  dom := fun f s => by rw [hget_push]; exact S.dom f s
  bsz := S.bsz
  fb := S.fb
  fmod := S.fmod
  modsz := S.modsz
  obj := fun f s o h => S.obj f s o (by rw [hget_push] at h; exact h)
  nreg := fun f s n x h => by rw [hget_push]; exact S.nreg f s n x h
  inj := fun f s o f' s' o' b h1 h2 => S.inj f s o f' s' o' b (by rw [hget_push] at h1; exact h1) (by rw [hget_push] at h2; exact h2)

theorem hget_take (H : Heap) (b f s : Nat) : hget (H.take b) f s = if Nat.ble b f then none else hget H f s := by
  unfold hget
  rw [List.getElem?_take]
  by_cases h : f < b
  · have : Nat.ble b f = false := by
      cases hq : Nat.ble b f with
      | true => have := Nat.le_of_ble_eq_true hq; omega
      | false => rfl
    rw [if_pos h, this]; rfl
  · have : Nat.ble b f = true := Nat.ble_eq_true_of_le (by omega)
    rw [if_neg h, this]; rfl

/-- The frames of a call go, where nothing names them. -/
theorem Sim.pop (S : Sim B F H E) (b : Nat) (x : V) (v : Value) (r : Rel E x v) :
    ∃ E', E'.w = E.w ∧ Ext b B E E' ∧ Sim B F (popF b x H) E' ∧ Rel E' x v := by
  unfold popF
  split
  · rename_i h
    simp only [Bool.and_eq_true, Bool.not_eq_true'] at h
    obtain ⟨X, S'⟩ := S.drop (p := fun f _ => Nat.ble b f) (H' := H.take b) (k := b) (fun f s h => Nat.le_of_ble_eq_true h) (fun f s => hget_take H b f s)
      (fun f s o ho => clearH_get (H.take b) f s o h.2 ho)
    exact ⟨E.drop _, rfl, X, S', Rel.strike x v h.1 r⟩
  · exact ⟨E, rfl, Ext.refl _ _ _, S, r⟩

theorem popF_length (b : Nat) (x : V) (H : Heap) (h : b ≤ H.length) : b ≤ (popF b x H).length := by
  unfold popF
  split
  · simp; omega
  · exact h

theorem fget_fdel (p : Nat → Bool) : ∀ (fr : Frame) (s : Nat), fget (fdel p fr) s = if p s then none else fget fr s
  | [], s => by simp [fdel, fget]
  | (k, o) :: r, s => by
    simp only [fdel]
    split
    · rename_i hk
      rw [fget_fdel p r s]
      simp only [fget]
      by_cases e : s = k
      · subst e; simp [hk]
      · simp [e]
    · rename_i hk
      simp only [fget]
      by_cases e : s = k
      · subst e; simp [hk]
      · simp only [e, if_false]; exact fget_fdel p r s

theorem hget_del (H : Heap) (fr : Nat) (ds : List Nat) (f s : Nat) :
    hget (H.modify fr (fdel fun s => ds.contains s)) f s = if (f == fr && ds.contains s) then none else hget H f s := by
  unfold hget
  rw [List.getElem?_modify]
  by_cases e : fr = f
  · subst e
    cases H[fr]? with
    | none => simp
    | some x => simp [fget_fdel]
  · have : (f == fr) = false := by simp; omega
    simp only [e, if_false, this, Bool.false_and, Bool.false_eq_true]
    cases H[f]? <;> rfl

theorem maskT_rel (keep : List Nat) : ∀ (t : List V) (vs : List Value) (i : Nat), RelL E t vs → RelL E (maskT keep t i) vs
  | [], vs, i, r => r
  | x :: t, vs, i, r => by
    obtain ⟨v, r', rfl, hv, hr⟩ := RelL.cons_iff.1 r
    refine .cons ?_ (maskT_rel keep t r' (i + 1) hr)
    split
    · exact hv
    · simp [Rel]

theorem Sim.forget (S : Sim B F H E) {pol : Pol} {fn fr r : Nat} {t t' : List V} {H' : Heap} {vs : List Value} (h : forget pol fn fr r t H = some (t', H')) (hr : RelL E t vs) :
    ∃ E', E'.w = E.w ∧ Ext fr B E E' ∧ Sim B F H' E' ∧ RelL E' t' vs ∧ H'.length = H.length := by
  unfold AM.forget at h
  split at h
  · cases h; exact ⟨E, rfl, Ext.refl _ _ _, S, hr, rfl⟩
  · rename_i kt ds _
    split at h
    · cases h
    · rename_i h1
      split at h
      case isFalse => cases h
      rename_i h2
      cases h
      obtain ⟨X, S'⟩ := S.drop (p := fun f s => f == fr && ds.contains s) (H' := H.modify fr (fdel fun s => ds.contains s)) (k := fr)
        (fun f s h => by simp only [Bool.and_eq_true, beq_iff_eq] at h; omega) (fun f s => hget_del H fr ds f s) (fun f s o ho => clearH_get _ f s o h2 ho)
      exact ⟨E.drop _, rfl, X, S', RelL.strike _ _ (by simpa using h1) (maskT_rel kt t vs 0 hr), by simp⟩

end Go.AM
end
