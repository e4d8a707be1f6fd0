/- The abstract machine, part 8: operators, lengths, conversions, maps: as the model does. -/
import Derived.Test.YtebbgmeomkjibaaAm7
set_option linter.unusedSimpArgs false
set_option linter.unusedVariables false
namespace Go.AM
variable {P : Program} {E : Env} {B : Nat} {F : Nat → Nat → Prop} {H : Heap}

theorem guard_plain (w : World) (op : BinOp) (t : TypeId) (x y : Operand) (ca cb : Value) (h1 : ca ≠ .nilIface) (h2 : ∀ xs, ca ≠ .agg xs) : (eqGuard op t x y ca cb).run P w = .ok () w :=
  guard_sound w op t x y ca cb (fun e => absurd e h1) (fun xs _ e => absurd e (h2 xs))

theorem RelM.length {E : Env} : ∀ {es : List (V × V)} {ces : List MapEntry}, RelM E es ces → es.length = ces.length
  | [], _, h => by simp only [RelM] at h; subst h; rfl
  | (_, _) :: es, _, ⟨e, r, h, _, _, h3⟩ => by subst h; simp [RelM.length h3]

/-- What '==' asks by the type alone. -/
def Eqable : Value → Prop
  | .agg _ | .bool _ | .pointer _ | .slice _ _ _ | .map _ | .func _ _ _ | .nilFunc | .nilIface | .iface _ _ => True
  | _ => False

theorem binOp_eqable (t : TypeId) (c e : Value) (h1 : Eqable c) (h2 : Eqable e) :
    binOp .eql t c e = (do pure (.bool (← Op.equal t c e))) ∧ binOp .neq t c e = (do pure (.bool (!(← Op.equal t c e)))) := by
  cases c <;> simp only [Eqable] at h1 <;> cases e <;> simp only [Eqable] at h2 <;> exact ⟨rfl, rfl⟩

theorem eqOp_eqable {t : TypeId} {x y : Operand} {a b : V} {ca cb : Value} {r : Bool} (h : eqOp P t x y a b = some r) (ra : Rel E a ca) (rb : Rel E b cb) :
    (∃ k m k' n, a = .int k m ∧ b = .int k' n) ∨ (∃ s s', a = .str s ∧ b = .str s') ∨ (Eqable ca ∧ Eqable cb) := by
  unfold eqOp at h
  split at h
  · rename_i fs hu
    split at h
    · cases h
    · simp only [eqV, hu] at h
      split at h
      · simp only [Rel] at ra rb; obtain ⟨_, rfl, _⟩ := ra; obtain ⟨_, rfl, _⟩ := rb; exact .inr (.inr ⟨trivial, trivial⟩)
      · cases h
  · rename_i fs hu
    split at h
    · cases h
    · simp only [eqV, hu] at h
      split at h
      · simp only [Rel] at ra rb; obtain ⟨_, rfl, _⟩ := ra; obtain ⟨_, rfl, _⟩ := rb; exact .inr (.inr ⟨trivial, trivial⟩)
      · cases h
  · rename_i hu
    simp only [eqV, hu, eqBool] at h
    split at h
    · simp only [Rel] at ra rb; subst ra; subst rb; exact .inr (.inr ⟨trivial, trivial⟩)
    · cases h
  · rename_i hu
    simp only [eqV, hu, eqInt] at h
    split at h
    · exact .inl ⟨_, _, _, _, rfl, rfl⟩
    · cases h
  · rename_i hu
    simp only [eqV, hu, eqStr] at h
    split at h
    · exact .inr (.inl ⟨_, _, rfl, rfl⟩)
    · cases h
  · rename_i d _ _ _ _ _ hu
    split at h
    case isFalse => cases h
    rename_i hk
    simp only [Bool.and_eq_true] at hk
    have : ∀ (z : V) (c : Value), nilKind d z = true → Rel E z c → Eqable c := by
      intro z c hz rz
      obtain ⟨nb, i1, s1⟩ := nilShape hz rz
      cases d <;> simp only [NilShape] at s1 <;> cases nb <;> simp only [if_true, if_false, Bool.false_eq_true] at s1
      all_goals first
        | (subst s1; trivial)
        | (obtain ⟨_, rfl⟩ := s1; trivial)
        | (obtain ⟨_, _, rfl⟩ := s1; trivial)
        | (obtain ⟨_, _, _, rfl⟩ := s1; trivial)
    exact .inr (.inr ⟨this _ _ hk.1 ra, this _ _ hk.2 rb⟩)
  · cases h

theorem binV_sound (w : World) {op : BinOp} {t : TypeId} {x y : Operand} {a b r : V} {ca cb : Value} (h : binV P op t x y a b = some r) (ra : Rel E a ca) (rb : Rel E b cb) :
    ∃ v, (do eqGuard op t x y ca cb; binOp op t ca cb : Sem Value).run P w = .ok v w ∧ Rel E r v := by
  unfold binV at h
  split at h
  · simp only [Rel] at ra rb
    subst ra; subst rb
    obtain ⟨v, h1, h2⟩ := shiftI_sound (P := P) (E := E) (w := w) h
    refine ⟨v, ?_, h2⟩
    rw [Sem.run_bind, guard_plain w _ t x y _ _ (fun e => by cases e) (fun _ e => by cases e)]
    simp only [Result.andThen_ok, binOp]
    exact h1
  · simp only [Rel] at ra rb
    subst ra; subst rb
    obtain ⟨v, h1, h2⟩ := shiftI_sound (P := P) (E := E) (w := w) h
    refine ⟨v, ?_, h2⟩
    rw [Sem.run_bind, guard_plain w _ t x y _ _ (fun e => by cases e) (fun _ e => by cases e)]
    simp only [Result.andThen_ok, binOp]
    exact h1
  · split at h
    case isFalse => cases h
    rename_i hk
    subst hk
    simp only [Rel] at ra rb
    subst ra; subst rb
    obtain ⟨v, h1, h2⟩ := binI_sound (P := P) (E := E) (w := w) t h
    refine ⟨v, ?_, h2⟩
    rw [Sem.run_bind, guard_plain w _ t x y _ _ (fun e => by cases e) (fun _ e => by cases e)]
    exact h1
  · simp only [Rel] at ra rb
    subst ra; subst rb
    obtain ⟨v, h1, h2⟩ := binS_sound (P := P) (E := E) (w := w) h
    refine ⟨v, ?_, h2⟩
    rw [Sem.run_bind, guard_plain w _ t x y _ _ (fun e => by cases e) (fun _ e => by cases e)]
    simp only [Result.andThen_ok]
    cases op <;> exact h1
  · rename_i hni hns
    cases he : eqOp P t x y a b with
    | none => rw [he] at h; cases h
    | some q =>
      rw [he] at h; cases h
      obtain ⟨h1, h2⟩ := eqOp_sound w .eql he ra rb
      refine ⟨.bool q, ?_, by simp [Rel]⟩
      rcases eqOp_eqable he ra rb with ⟨k, m, k', n, rfl, rfl⟩ | ⟨s, s', rfl, rfl⟩ | ⟨e1, e2⟩
      · exact (hni _ _ _ _ rfl rfl).elim
      · exact (hns _ _ rfl rfl).elim
      · rw [Sem.run_bind, h1]
        simp only [Result.andThen_ok, (binOp_eqable t ca cb e1 e2).1, Sem.run_bind, h2, Sem.run_pure]
  · rename_i hni hns
    cases he : eqOp P t x y a b with
    | none => rw [he] at h; cases h
    | some q =>
      rw [he] at h; cases h
      obtain ⟨h1, h2⟩ := eqOp_sound w .neq he ra rb
      refine ⟨.bool (!q), ?_, by simp [Rel]⟩
      rcases eqOp_eqable he ra rb with ⟨k, m, k', n, rfl, rfl⟩ | ⟨s, s', rfl, rfl⟩ | ⟨e1, e2⟩
      · exact (hni _ _ _ _ rfl rfl).elim
      · exact (hns _ _ rfl rfl).elim
      · rw [Sem.run_bind, h1]
        simp only [Result.andThen_ok, (binOp_eqable t ca cb e1 e2).2, Sem.run_bind, h2, Sem.run_pure]
  · cases h

/-! ### Lengths -/

theorem run_getMap {w : World} {r : Nat} {es : Array MapEntry} {clk : Nat} (hb : w.heap[r]? = some (.map es clk)) : (getObj r).run P w = .ok (.map es clk) w := by
  simp only [getObj, Sem.run, hb]
theorem run_setMap {w : World} {r : Nat} {es : Array MapEntry} {clk : Nat} (hb : w.heap[r]? = some (.map es clk)) (o : Obj) :
    (setObj r o).run P w = .ok () { w with heap := w.heap.setIfInBounds r o } := by
  simp only [setObj, Sem.run, hb]

theorem lenV_sound (S : Sim B F H E) {ts : Array TypeId} {t : TypeId} (ty : TypeId) {x y : V} {c : Value} (ht : ts[0]? = some t) (h : lenV P (hget H) t x = some y) (hr : Rel E x c) :
    ∃ v, (Builtin.len_ ts ty #[c]).run P E.w = .ok v E.w ∧ Rel E y v := by
  unfold lenV at h
  split at h
  · rename_i s hu
    cases h
    simp only [Rel] at hr; subst hr
    exact ⟨goInt s.length, by simp [Builtin.len_, ht, run_und hu]; rfl, by simp [Rel, goInt]⟩
  · rename_i n e hu
    cases h
    exact ⟨goInt n, by simp [Builtin.len_, ht, run_und hu], by simp [Rel, goInt]⟩
  · rename_i a hu
    split at h
    case h_2 => cases h
    rename_i n e hu2
    cases h
    exact ⟨goInt n, by simp [Builtin.len_, ht, run_und hu, run_und hu2], by simp [Rel, goInt]⟩
  · rename_i hu
    cases h
    simp only [Rel] at hr; subst hr
    exact ⟨goInt 0, by simp [Builtin.len_, ht, run_und hu], by simp [Rel, goInt]⟩
  · rename_i hu
    cases h
    simp only [Rel] at hr; obtain ⟨a, cap, vs, rfl, _⟩ := hr
    exact ⟨goInt _, by simp [Builtin.len_, ht, run_und hu]; rfl, by simp [Rel, goInt]⟩
  · rename_i hu
    cases h
    simp only [Rel] at hr; obtain ⟨b, off, cap, vs, rfl, _⟩ := hr
    exact ⟨goInt _, by simp [Builtin.len_, ht, run_und hu]; rfl, by simp [Rel, goInt]⟩
  · rename_i hu
    cases h
    simp only [Rel] at hr; obtain ⟨b, c', T, n', _, rfl, _⟩ := hr
    exact ⟨goInt _, by simp [Builtin.len_, ht, run_und hu]; rfl, by simp [Rel, goInt]⟩
  · rename_i hu
    cases h
    simp only [Rel] at hr; subst hr
    exact ⟨goInt 0, by simp [Builtin.len_, ht, run_und hu], by simp [Rel, goInt]⟩
  · rename_i f s hu
    split at h
    case h_2 => cases h
    rename_i es bs clk hg
    cases h
    simp only [Rel] at hr; obtain ⟨b, hb, rfl⟩ := hr
    obtain ⟨b', ces, g1, _, g3, g4, _⟩ := S.obj f s _ hg
    rw [hb] at g1; cases g1
    have hl := g4.length
    refine ⟨goInt ces.size, ?_, by simp [Rel, goInt, hl]⟩
    simp [Builtin.len_, ht, run_und hu, run_getMap g3]
  · cases h

theorem capV_sound {ts : Array TypeId} {t : TypeId} (ty : TypeId) {x y : V} {c : Value} (ht : ts[0]? = some t) (h : capV P t x = some y) (hr : Rel E x c) :
    ∃ v, (Builtin.cap_ ts ty #[c]).run P E.w = .ok v E.w ∧ Rel E y v := by
  unfold capV at h
  split at h
  · rename_i hu
    cases h
    simp only [Rel] at hr; subst hr
    exact ⟨goInt 0, by simp [Builtin.cap_, ht, run_und hu], by simp [Rel, goInt]⟩
  · rename_i n hu
    cases h
    simp only [Rel] at hr; obtain ⟨a, cap, vs, rfl, _, hf, _⟩ := hr
    have := hf trivial
    subst this
    exact ⟨goInt _, by simp [Builtin.cap_, ht, run_und hu]; rfl, by simp [Rel, goInt]⟩
  · rename_i k _ hu
    cases h
    simp only [Rel] at hr; obtain ⟨b, c', T, n', _, rfl, _, hk, _⟩ := hr
    have := hk _ rfl
    subst this
    exact ⟨goInt _, by simp [Builtin.cap_, ht, run_und hu]; rfl, by simp [Rel, goInt]⟩
  · cases h

theorem minV_sound (w : World) : ∀ (l : List V) (vs : List Value) (x y : V) (c : Value), minV false x l = some y → Rel E x c → RelL E l vs →
    ∃ v, (vs.foldlM Builtin.min2 c).run P w = .ok v w ∧ Rel E y v
  | [], vs, x, y, c, h, hr, hl => by
    rw [RelL.nil_iff] at hl; subst hl
    have e : ∀ b, minV b x [] = some x := fun b => by cases x <;> rfl
    rw [e] at h; cases h; exact ⟨c, rfl, hr⟩
  | z :: l, vs, x, y, c, h, hr, hl => by
    obtain ⟨u, r, rfl, hu, hl2⟩ := RelL.cons_iff.1 hl
    clear hl
    unfold minV at h
    split at h
    · rename_i e; cases e
    · rename_i e
      injection e with e1 e2
      subst e1; subst e2
      simp only [Rel] at hr hu
      subst hr; subst hu
      obtain ⟨v, h1, h2⟩ := minV_sound w _ r _ y _ h (by simp only [Rel]; rfl) hl2
      exact ⟨v, by simp only [List.foldlM_cons, Sem.run_bind, Builtin.min2, Sem.run_pure, Result.andThen_ok]; simpa using h1, h2⟩
    · cases h

theorem maxV_sound (w : World) : ∀ (l : List V) (vs : List Value) (x y : V) (c : Value), minV true x l = some y → Rel E x c → RelL E l vs →
    ∃ v, (vs.foldlM Builtin.max2 c).run P w = .ok v w ∧ Rel E y v
  | [], vs, x, y, c, h, hr, hl => by
    rw [RelL.nil_iff] at hl; subst hl
    have e : ∀ b, minV b x [] = some x := fun b => by cases x <;> rfl
    rw [e] at h; cases h; exact ⟨c, rfl, hr⟩
  | z :: l, vs, x, y, c, h, hr, hl => by
    obtain ⟨u, r, rfl, hu, hl2⟩ := RelL.cons_iff.1 hl
    clear hl
    unfold minV at h
    split at h
    · rename_i e; cases e
    · rename_i e
      injection e with e1 e2
      subst e1; subst e2
      simp only [Rel] at hr hu
      subst hr; subst hu
      obtain ⟨v, h1, h2⟩ := maxV_sound w _ r _ y _ h (by simp only [Rel]; rfl) hl2
      exact ⟨v, by simp only [List.foldlM_cons, Sem.run_bind, Builtin.max2, Sem.run_pure, Result.andThen_ok]; simpa using h1, h2⟩
    · cases h

end Go.AM
