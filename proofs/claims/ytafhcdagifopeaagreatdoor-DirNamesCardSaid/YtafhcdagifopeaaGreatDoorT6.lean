/- This file holds in one the texts An8, An9; each says at its head what it proves. -/
import Derived.Test.YtafhcdagifopeaaGreatDoorT5
set_option linter.unusedSimpArgs false
set_option linter.unusedVariables false
section
/- The abstract machine, part 8: operators, lengths, conversions, maps: as the model does. -/
namespace Go.AM
variable {P : Program} {E : Env} {B : Nat} {F : Nat → Nat → Prop} {H : Heap}

theorem guard_plain (w : World) (op : BinOp) (t : TypeId) (x y : Operand) (ca cb : Value) (h1 : ca ≠ .nilIface) (h2 : ∀ xs, ca ≠ .agg xs) : (eqGuard op t x y ca cb).run P w = .ok () w :=
  guard_sound w op t x y ca cb (fun e => absurd e h1) (fun xs _ e => absurd e (h2 xs))

theorem RelM.length {E : Env} : ∀ {es : List (V × V)} {ces : List MapEntry}, RelM E es ces → es.length = ces.length
  | [], _, h => by simp only [RelM] at h; subst h; rfl
  | (_, _) :: es, _, ⟨e, r, h, _, _, h3⟩ => by subst h; simp [RelM.length h3]

def Eqable : Value → Prop
  | .agg _ | .bool _ | .pointer _ | .slice _ _ _ | .map _ | .func _ _ _ | .nilFunc | .nilIface | .iface _ _ => True
  | _ => False

theorem binOp_eqable (t : TypeId) (c e : Value) (h1 : Eqable c) (h2 : Eqable e) :
    binOp .eql t c e = (do pure (.bool (← Op.equal t c e))) ∧ binOp .neq t c e = (do pure (.bool (!(← Op.equal t c e)))) := by
  cases c <;> simp only [Eqable] at h1 <;> cases e <;> simp only [Eqable] at h2 <;> exact ⟨rfl, rfl⟩

theorem eqOp_eqable {t : TypeId} {x y : Operand} {a b : V} {ca cb : Value} {r : Bool} (h : eqOp P t x y a b = some r) (ra : Rel E a ca) (rb : Rel E b cb) :
    (∃ k m k' n, a = .int k m ∧ b = .int k' n) ∨ (∃ s s', a = .str s ∧ b = .str s') ∨ (Eqable ca ∧ Eqable cb) := by
  unfold eqOp at h
  split at h
  · rename_i fs hu
    split at h
    · cases h
    · simp only [eqV, hu] at h
      split at h
      · simp only [Rel] at ra rb; obtain ⟨_, rfl, _⟩ := ra; obtain ⟨_, rfl, _⟩ := rb; exact .inr (.inr ⟨trivial, trivial⟩)
      · cases h
  · rename_i fs hu
    split at h
    · cases h
    · simp only [eqV, hu] at h
      split at h
      · simp only [Rel] at ra rb; obtain ⟨_, rfl, _⟩ := ra; obtain ⟨_, rfl, _⟩ := rb; exact .inr (.inr ⟨trivial, trivial⟩)
      · cases h
  · rename_i hu
    simp only [eqV, hu, eqBool] at h
    split at h
    · simp only [Rel] at ra rb; subst ra; subst rb; exact .inr (.inr ⟨trivial, trivial⟩)
    · cases h
  · rename_i hu
    simp only [eqV, hu, eqInt] at h
    split at h
    · exact .inl ⟨_, _, _, _, rfl, rfl⟩
    · cases h
  · rename_i hu
    simp only [eqV, hu, eqStr] at h
    split at h
    · exact .inr (.inl ⟨_, _, rfl, rfl⟩)
    · cases h
  · rename_i d _ _ _ _ _ hu
    split at h
    case isFalse => cases h
    rename_i hk
    simp only [Bool.and_eq_true] at hk
    have : ∀ (z : V) (c : Value), nilKind d z = true → Rel E z c → Eqable c := by
      intro z c hz rz
      obtain ⟨nb, i1, s1⟩ := nilShape hz rz
      cases d <;> simp only [NilShape] at s1 <;> cases nb <;> simp only [if_true, if_false, Bool.false_eq_true] at s1
      all_goals first
        | (subst s1; trivial)
        | (obtain ⟨_, rfl⟩ := s1; trivial)
        | (obtain ⟨_, _, rfl⟩ := s1; trivial)
        | (obtain ⟨_, _, _, rfl⟩ := s1; trivial)
    exact .inr (.inr ⟨this _ _ hk.1 ra, this _ _ hk.2 rb⟩)
  · cases h

theorem binV_sound (w : World) {op : BinOp} {t : TypeId} {x y : Operand} {a b r : V} {ca cb : Value} (h : binV P op t x y a b = some r) (ra : Rel E a ca) (rb : Rel E b cb) :
    ∃ v, (do eqGuard op t x y ca cb; binOp op t ca cb : Sem Value).run P w = .ok v w ∧ Rel E r v := by
  unfold binV at h
  split at h
  · simp only [Rel] at ra rb
    subst ra; subst rb
    obtain ⟨v, h1, h2⟩ := shiftI_sound (P := P) (E := E) (w := w) h
    refine ⟨v, ?_, h2⟩
    rw [Sem.run_bind, guard_plain w _ t x y _ _ (fun e => by cases e) (fun _ e => by cases e)]
    simp only [Result.andThen_ok, binOp]
    exact h1
  · simp only [Rel] at ra rb
    subst ra; subst rb
    obtain ⟨v, h1, h2⟩ := shiftI_sound (P := P) (E := E) (w := w) h
    refine ⟨v, ?_, h2⟩
    rw [Sem.run_bind, guard_plain w _ t x y _ _ (fun e => by cases e) (fun _ e => by cases e)]
    simp only [Result.andThen_ok, binOp]
    exact h1
  · split at h
    case isFalse => cases h
    rename_i hk
    subst hk
    simp only [Rel] at ra rb
    subst ra; subst rb
    obtain ⟨v, h1, h2⟩ := binI_sound (P := P) (E := E) (w := w) t h
    refine ⟨v, ?_, h2⟩
    rw [Sem.run_bind, guard_plain w _ t x y _ _ (fun e => by cases e) (fun _ e => by cases e)]
    exact h1
  · simp only [Rel] at ra rb
    subst ra; subst rb
    obtain ⟨v, h1, h2⟩ := binS_sound (P := P) (E := E) (w := w) h
    refine ⟨v, ?_, h2⟩
    rw [Sem.run_bind, guard_plain w _ t x y _ _ (fun e => by cases e) (fun _ e => by cases e)]
    simp only [Result.andThen_ok]
    cases op <;> exact h1
  · rename_i hni hns
    cases he : eqOp P t x y a b with
    | none => rw [he] at h; cases h
    | some q =>
      rw [he] at h; cases h
      obtain ⟨h1, h2⟩ := eqOp_sound w .eql he ra rb
      refine ⟨.bool q, ?_, by simp [Rel]⟩
      rcases eqOp_eqable he ra rb with ⟨k, m, k', n, rfl, rfl⟩ | ⟨s, s', rfl, rfl⟩ | ⟨e1, e2⟩
      · exact (hni _ _ _ _ rfl rfl).elim
      · exact (hns _ _ rfl rfl).elim
      · rw [Sem.run_bind, h1]
        simp only [Result.andThen_ok, (binOp_eqable t ca cb e1 e2).1, Sem.run_bind, h2, Sem.run_pure]
  · rename_i hni hns
    cases he : eqOp P t x y a b with
    | none => rw [he] at h; cases h
    | some q =>
      rw [he] at h; cases h
      obtain ⟨h1, h2⟩ := eqOp_sound w .neq he ra rb
      refine ⟨.bool (!q), ?_, by simp [Rel]⟩
      rcases eqOp_eqable he ra rb with ⟨k, m, k', n, rfl, rfl⟩ | ⟨s, s', rfl, rfl⟩ | ⟨e1, e2⟩
      · exact (hni _ _ _ _ rfl rfl).elim
      · exact (hns _ _ rfl rfl).elim
      · rw [Sem.run_bind, h1]
        simp only [Result.andThen_ok, (binOp_eqable t ca cb e1 e2).2, Sem.run_bind, h2, Sem.run_pure]
  · cases h

/-! ### Lengths -/

theorem run_getMap {w : World} {r : Nat} {es : Array MapEntry} {clk : Nat} (hb : w.heap[r]? = some (.map es clk)) : (getObj r).run P w = .ok (.map es clk) w := by
  simp only [getObj, Sem.run, hb]
theorem run_setMap {w : World} {r : Nat} {es : Array MapEntry} {clk : Nat} (hb : w.heap[r]? = some (.map es clk)) (o : Obj) :
    (setObj r o).run P w = .ok () { w with heap := w.heap.setIfInBounds r o } := by
  simp only [setObj, Sem.run, hb]

theorem lenV_sound (S : Sim B F H E) {ts : Array TypeId} {t : TypeId} (ty : TypeId) {x y : V} {c : Value} (ht : ts[0]? = some t) (h : lenV P (hget H) t x = some y) (hr : Rel E x c) :
    ∃ v, (Builtin.len_ ts ty #[c]).run P E.w = .ok v E.w ∧ Rel E y v := by
  unfold lenV at h
  split at h
  · rename_i s hu
    cases h
    simp only [Rel] at hr; subst hr
    exact ⟨goInt s.length, by simp [Builtin.len_, ht, run_und hu]; rfl, by simp [Rel, goInt]⟩
  · rename_i n e hu
    cases h
    exact ⟨goInt n, by simp [Builtin.len_, ht, run_und hu], by simp [Rel, goInt]⟩
  · rename_i a hu
    split at h
    case h_2 => cases h
    rename_i n e hu2
    cases h
    exact ⟨goInt n, by simp [Builtin.len_, ht, run_und hu, run_und hu2], by simp [Rel, goInt]⟩
  · rename_i hu
    cases h
    simp only [Rel] at hr; subst hr
    exact ⟨goInt 0, by simp [Builtin.len_, ht, run_und hu], by simp [Rel, goInt]⟩
  · rename_i hu
    cases h
    simp only [Rel] at hr; obtain ⟨a, cap, vs, rfl, _⟩ := hr
    exact ⟨goInt _, by simp [Builtin.len_, ht, run_und hu]; rfl, by simp [Rel, goInt]⟩
  · rename_i hu
    cases h
    simp only [Rel] at hr; obtain ⟨b, off, cap, vs, rfl, _⟩ := hr
    exact ⟨goInt _, by simp [Builtin.len_, ht, run_und hu]; rfl, by simp [Rel, goInt]⟩
  · rename_i hu
    cases h
    simp only [Rel] at hr; obtain ⟨b, c', T, n', _, rfl, _⟩ := hr
    exact ⟨goInt _, by simp [Builtin.len_, ht, run_und hu]; rfl, by simp [Rel, goInt]⟩
  · rename_i hu
    cases h
    simp only [Rel] at hr; subst hr
    exact ⟨goInt 0, by simp [Builtin.len_, ht, run_und hu], by simp [Rel, goInt]⟩
  · rename_i f s hu
    split at h
    case h_2 => cases h
    rename_i es bs clk hg
    cases h
    simp only [Rel] at hr; obtain ⟨b, hb, rfl⟩ := hr
    obtain ⟨b', ces, g1, _, g3, g4, _⟩ := S.obj f s _ hg
    rw [hb] at g1; cases g1
    have hl := g4.length
    refine ⟨goInt ces.size, ?_, by simp [Rel, goInt, hl]⟩
    simp [Builtin.len_, ht, run_und hu, run_getMap g3]
  · cases h

theorem capV_sound {ts : Array TypeId} {t : TypeId} (ty : TypeId) {x y : V} {c : Value} (ht : ts[0]? = some t) (h : capV P t x = some y) (hr : Rel E x c) :
    ∃ v, (Builtin.cap_ ts ty #[c]).run P E.w = .ok v E.w ∧ Rel E y v := by
  unfold capV at h
  split at h
  · rename_i hu
    cases h
    simp only [Rel] at hr; subst hr
    exact ⟨goInt 0, by simp [Builtin.cap_, ht, run_und hu], by simp [Rel, goInt]⟩
  · rename_i n hu
    cases h
    simp only [Rel] at hr; obtain ⟨a, cap, vs, rfl, _, hf, _⟩ := hr
    have := hf trivial
    subst this
    exact ⟨goInt _, by simp [Builtin.cap_, ht, run_und hu]; rfl, by simp [Rel, goInt]⟩
  · rename_i k _ hu
    cases h
    simp only [Rel] at hr; obtain ⟨b, c', T, n', _, rfl, _, hk, _⟩ := hr
    have := hk _ rfl
    subst this
    exact ⟨goInt _, by simp [Builtin.cap_, ht, run_und hu]; rfl, by simp [Rel, goInt]⟩
  · cases h

theorem minV_sound (w : World) : ∀ (l : List V) (vs : List Value) (x y : V) (c : Value), minV false x l = some y → Rel E x c → RelL E l vs →
    ∃ v, (vs.foldlM Builtin.min2 c).run P w = .ok v w ∧ Rel E y v
  | [], vs, x, y, c, h, hr, hl => by
    rw [RelL.nil_iff] at hl; subst hl
    have e : ∀ b, minV b x [] = some x := fun b => by cases x <;> rfl
    rw [e] at h; cases h; exact ⟨c, rfl, hr⟩
  | z :: l, vs, x, y, c, h, hr, hl => by
    obtain ⟨u, r, rfl, hu, hl2⟩ := RelL.cons_iff.1 hl
    clear hl
    unfold minV at h
    split at h
    · rename_i e; cases e
    · rename_i e
      injection e with e1 e2
      subst e1; subst e2
      simp only [Rel] at hr hu
      subst hr; subst hu
      obtain ⟨v, h1, h2⟩ := minV_sound w _ r _ y _ h (by simp only [Rel]; rfl) hl2
      exact ⟨v, by simp only [List.foldlM_cons, Sem.run_bind, Builtin.min2, Sem.run_pure, Result.andThen_ok]; simpa using h1, h2⟩
    · cases h

theorem maxV_sound (w : World) : ∀ (l : List V) (vs : List Value) (x y : V) (c : Value), minV true x l = some y → Rel E x c → RelL E l vs →
    ∃ v, (vs.foldlM Builtin.max2 c).run P w = .ok v w ∧ Rel E y v
  | [], vs, x, y, c, h, hr, hl => by
    rw [RelL.nil_iff] at hl; subst hl
    have e : ∀ b, minV b x [] = some x := fun b => by cases x <;> rfl
    rw [e] at h; cases h; exact ⟨c, rfl, hr⟩
  | z :: l, vs, x, y, c, h, hr, hl => by
    obtain ⟨u, r, rfl, hu, hl2⟩ := RelL.cons_iff.1 hl
    clear hl
    unfold minV at h
    split at h
    · rename_i e; cases e
    · rename_i e
      injection e with e1 e2
      subst e1; subst e2
      simp only [Rel] at hr hu
      subst hr; subst hu
      obtain ⟨v, h1, h2⟩ := maxV_sound w _ r _ y _ h (by simp only [Rel]; rfl) hl2
      exact ⟨v, by simp only [List.foldlM_cons, Sem.run_bind, Builtin.max2, Sem.run_pure, Result.andThen_ok]; simpa using h1, h2⟩
    · cases h

end Go.AM
end
section
/- The abstract machine, part 9: maps, new slices, appends, copies: as the model does. -/
namespace Go.AM
variable {P : Program} {E : Env} {B : Nat} {F : Nat → Nat → Prop} {H : Heap}

/-! ### Maps -/

theorem keyEq_sound {kd : TypeDesc} {k k' : V} {ck ck' : Value} {b : Bool} (hp : plainKey kd k = true) (h : keyEq k k' = some b) (r1 : Rel E k ck) (r2 : Rel E k' ck') : Instr.sameNow kd ck ck' = some b := by
  unfold keyEq at h
  split at h
  · split at h
    case isFalse => cases h
    rename_i hk
    cases h
    simp only [Rel] at r1 r2
    subst r1; subst r2
    cases kd <;> simp only [plainKey, Bool.false_eq_true] at hp
    simp [Instr.sameNow, hk]
  · cases h
    simp only [Rel] at r1 r2
    subst r1; subst r2
    cases kd <;> simp only [plainKey, Bool.false_eq_true] at hp
    simp only [Instr.sameNow, bytes_beq]
  · cases h
    simp only [Rel] at r1 r2
    subst r1; subst r2
    cases kd <;> simp only [plainKey, Bool.false_eq_true] at hp
    rfl
  · cases h

theorem findKey_sound {kd : TypeDesc} {k : V} {ck : Value} (hp : plainKey kd k = true) (rk : Rel E k ck) :
    ∀ (es : List (V × V)) (ces : List MapEntry) (i : Nat) (r : Option (Nat × V)), findKey k es i = some r → RelM E es ces →
      ∃ r', Instr.findNow kd ck ces i = some r' ∧ ((r = none ∧ r' = none) ∨ ∃ j x v, r = some (j, x) ∧ r' = some (j, v) ∧ Rel E x v ∧ i ≤ j ∧ j < i + es.length)
  | [], ces, i, r, h, hm => by
    simp only [RelM] at hm; subst hm
    cases h
    exact ⟨none, rfl, .inl ⟨rfl, rfl⟩⟩
  | (k', x) :: es, ces, i, r, h, hm => by
    obtain ⟨e, ces, rfl, h1, h2, h3⟩ := hm
    simp only [findKey] at h
    split at h
    · rename_i hk
      cases h
      exact ⟨_, by simp only [Instr.findNow, keyEq_sound hp hk rk h1], .inr ⟨i, x, e.val, rfl, rfl, h2, Nat.le_refl _, by simp⟩⟩
    · rename_i hk
      obtain ⟨r', g1, g2⟩ := findKey_sound hp rk es ces (i + 1) r h h3
      refine ⟨r', by simp only [Instr.findNow, keyEq_sound hp hk rk h1]; exact g1, ?_⟩
      rcases g2 with g2 | ⟨j, x, v, a1, a2, a3, a4, a5⟩
      · exact .inl g2
      · exact .inr ⟨j, x, v, a1, a2, a3, by omega, by rw [List.length_cons]; omega⟩
    · cases h

theorem run_checkKey {kt : TypeId} {kd : TypeDesc} {k : V} {ck : Value} (w : World) (b : Bool) (hu : P.underlying kt = some kd) (hp : plainKey kd k = true) (rk : Rel E k ck) :
    (Instr.checkKey b 10000 kt ck).run P w = .ok () w := by
  have : ∀ n, (Instr.checkKey b (n + 1) kt ck).run P w = .ok () w := by
    intro n
    cases k <;> cases kd <;> simp only [plainKey, Bool.false_eq_true] at hp <;> simp only [Rel] at rk <;> subst rk <;> simp [Instr.checkKey, run_und hu]
  exact this 9999

theorem run_findKey {kt : TypeId} {kd : TypeDesc} {ck : Value} {ces : List MapEntry} {r' : Option (Nat × Value)} (w : World) (hu : P.underlying kt = some kd)
    (h : Instr.findNow kd ck ces 0 = some r') : (Instr.findKey kt ck ces).run P w = .ok r' w := by
  simp only [Instr.findKey, Sem.run_bind, run_und hu, Result.andThen_ok, h, Sem.run_pure]

theorem lookupV_sound (S : Sim B F H E) {t : TypeId} {m k y : V} {ok : Bool} {cm ck : Value} (h : lookupV P (hget H) t m k ok = some y) (rm : Rel E m cm) (rk : Rel E k ck) :
    ∃ v, (Instr.lookup t cm ck ok).run P E.w = .ok v E.w ∧ Rel E y v := by
  unfold lookupV at h
  split at h
  case h_2 => cases h
  rename_i kt e hu
  split at h
  case h_2 => cases h
  rename_i kd z hk hz
  split at h
  case isFalse => cases h
  rename_i hp
  have hzero : Rel E (if ok then V.tuple [ofConst z, .bool false] else ofConst z) (if ok then .tuple #[z, .bool false] else z) := by
    cases ok
    · exact rel_ofConst E z
    · simp only [if_true, Rel]
      exact ⟨[z, .bool false], rfl, .cons (rel_ofConst E z) (.cons (by simp [Rel]) .nil)⟩
  split at h
  · cases h
    simp only [Rel] at rm; subst rm
    refine ⟨_, ?_, hzero⟩
    simp only [Instr.lookup, Sem.run_bind, run_und hu, Result.andThen_ok, Sem.run_pure, run_checkKey E.w _ hk hp rk, run_findKey E.w hk (ces := []) rfl, run_zer hz]
  · rename_i f s
    split at h
    case h_2 => cases h
    rename_i es bs clk hg
    simp only [Rel] at rm
    obtain ⟨b, hb, rfl⟩ := rm
    obtain ⟨b', ces, g1, _, g3, g4, g5⟩ := S.obj f s _ hg
    rw [hb] at g1; cases g1
    split at h
    · rename_i j x hf
      cases h
      obtain ⟨r', h1, h2⟩ := findKey_sound hp rk es ces.toList 0 _ hf g4
      rcases h2 with ⟨h2, _⟩ | ⟨j', x', v, h2, rfl, h3, _⟩
      · cases h2
      cases h2
      refine ⟨if ok then .tuple #[v, .bool true] else v, ?_, ?_⟩
      · simp only [Instr.lookup, Sem.run_bind, run_und hu, Result.andThen_ok, Sem.run_pure, run_getMap g3, run_checkKey E.w _ hk hp rk, run_findKey E.w hk h1]
      · cases ok
        · exact h3
        · simp only [if_true, Rel]
          exact ⟨[v, .bool true], rfl, .cons h3 (.cons (by simp [Rel]) .nil)⟩
    · rename_i hf
      cases h
      obtain ⟨r', h1, h2⟩ := findKey_sound hp rk es ces.toList 0 _ hf g4
      rcases h2 with ⟨_, rfl⟩ | ⟨_, _, _, h2, _⟩
      · refine ⟨_, ?_, hzero⟩
        simp only [Instr.lookup, Sem.run_bind, run_und hu, Result.andThen_ok, Sem.run_pure, run_getMap g3, run_checkKey E.w _ hk hp rk, run_findKey E.w hk h1, run_zer hz]
      · cases h2
    · cases h
  · cases h

def Env.setMap (E : Env) (b : Nat) (ces : List MapEntry) (clk : Nat) : Env := { E with w := { E.w with heap := E.w.heap.setIfInBounds b (.map ⟨ces⟩ clk) } }

theorem setMap_other (E : Env) (b : Nat) (ces : List MapEntry) (clk : Nat) (b' : Nat) (h : b' ≠ b) : (E.setMap b ces clk).w.heap[b']? = E.w.heap[b']? := by
  simp only [Env.setMap]
  rw [Array.getElem?_setIfInBounds_ne (by omega)]

theorem Sim.setMap (S : Sim B F H E) {f0 s0 b : Nat} {es0 es : List (V × V)} {bs0 : List Nat} {k0 : Nat} (ho : hget H f0 s0 = some (.map es0 bs0 k0)) (hmu : E.mu f0 s0 = some b) {ces0 : Array MapEntry} {clk0 : Nat}
    (hb : E.w.heap[b]? = some (.map ces0 clk0)) (hB : B ≤ b) (ces : List MapEntry) (clk : Nat) (hr : RelM E es ces) :
    Ext H.length B E (E.setMap b ces clk) ∧ Sim B F (hset H f0 s0 (.map es (ces.map (·.born)) clk)) (E.setMap b ces clk) := by
  have hlt : b < E.w.heap.size := (Array.getElem?_eq_some_iff.1 hb).1
  have hself : (E.setMap b ces clk).w.heap[b]? = some (.map ⟨ces⟩ clk) := by simp [Env.setMap, hlt]
  have hcell : ∀ i, E.w.cell? ⟨b, i, none⟩ = none := fun i => by simp [World.cell?, hb]
  have X : Ext H.length B E (E.setMap b ces clk) := by
    refine ⟨by simp [Env.setMap], ?_, ?_, fun _ _ _ _ h => h, fun _ _ _ _ h => h, fun f s n b lo hi _ _ h => ⟨n, b, lo, hi, h, .inr ⟨rfl, rfl, rfl, rfl⟩⟩, ?_, ⟨rfl, rfl, rfl⟩, rfl, fun b' h => by rw [setMap_other E b ces clk b' (by rintro rfl; rw [hb] at h; cases h)]; exact h⟩
    · intro b' T n h
      by_cases e : b' = b
      · subst e; simp [World.shape?, hb] at h
      · rw [shape_of_heap (setMap_other E b ces clk b' e)]; exact h
    · intro b' i v _ h
      by_cases e : b' = b
      · subst e; rw [hcell] at h; cases h
      · rw [cell_of_heap (setMap_other E b ces clk b' e)]; exact h
    · intro b' hb'
      exact setMap_other E b ces clk b' (by omega)
  have hblk : blk E f0 s0 (.map es0 bs0 k0) = some b := hmu
  refine ⟨X, S.step f0 s0 _ (hget_lt ho) X (fun f s e => rfl) (by simp [Env.setMap, hmu]) (fun f s e => rfl) ?_ ?_ ?_ ?_ ?_ ?_⟩
  · intro n x h
    have := S.nreg f0 s0 n x h
    rw [ho] at this; cases this
  · intro f s o b' e ho' hb'
    refine ⟨?_, fun i h => h⟩
    have hne : b' ≠ b := fun e' => e (S.inj f s o f0 s0 _ b' ho' ho hb' (e' ▸ hblk))
    exact setMap_other E b ces clk b' hne
  · exact fun b i h => S.fmod b i h
  · intro b' i h
    simp only [Env.setMap, Array.size_setIfInBounds]
    exact S.modsz b' i h
  · exact ⟨b, ⟨ces⟩, hmu, hB, hself, RelM.mono X S.lt _ _ hr, rfl⟩
  · intro f s o b' e ho' hb' h
    simp only [blk, Env.setMap, hmu, Option.some.injEq] at h
    subst h
    exact e (S.inj f s o f0 s0 _ b ho' ho hb' hblk)

theorem RelM.set {es : List (V × V)} : ∀ {ces : List MapEntry} (i : Nat) {k x : V} {ck cx : Value}, RelM E es ces → Rel E k ck → Rel E x cx →
    RelM E (es.set i (k, x)) (ces.modify i fun e => { e with key := ck, val := cx }) := by
  induction es with
  | nil => intro ces i k x ck cx h _ _; simp only [RelM] at h; subst h; simp [RelM]
  | cons y es ih =>
    intro ces i k x ck cx h hk hx
    obtain ⟨k', x'⟩ := y
    obtain ⟨e, r, rfl, h1, h2, h3⟩ := h
    cases i with
    | zero => simp only [List.set_cons_zero, List.modify_cons, RelM]; exact ⟨_, _, rfl, hk, hx, h3⟩
    | succ i => simp only [List.set_cons_succ, List.modify_succ_cons, RelM]; exact ⟨_, _, rfl, h1, h2, ih i h3 hk hx⟩

theorem RelM.append {es es' : List (V × V)} : ∀ {ces ces' : List MapEntry}, RelM E es ces → RelM E es' ces' → RelM E (es ++ es') (ces ++ ces') := by
  induction es with
  | nil => intro ces ces' h g; simp only [RelM] at h; subst h; simpa using g
  | cons y es ih =>
    intro ces ces' h g
    obtain ⟨k', x'⟩ := y
    obtain ⟨e, r, rfl, h1, h2, h3⟩ := h
    exact ⟨e, r ++ ces', rfl, h1, h2, ih h3 g⟩

theorem RelM.one {k x : V} {e : MapEntry} (hk : Rel E k e.key) (hx : Rel E x e.val) : RelM E [(k, x)] [e] := ⟨e, [], rfl, hk, hx, rfl⟩

theorem RelM.erase {es : List (V × V)} : ∀ {ces : List MapEntry} (i : Nat), RelM E es ces → RelM E (es.eraseIdx i) (ces.eraseIdx i) := by
  induction es with
  | nil => intro ces i h; simp only [RelM] at h; subst h; simp [RelM]
  | cons y es ih =>
    intro ces i h
    obtain ⟨k', x'⟩ := y
    obtain ⟨e, r, rfl, h1, h2, h3⟩ := h
    cases i with
    | zero => simpa using h3
    | succ i => simp only [List.eraseIdx_cons_succ, RelM]; exact ⟨_, _, rfl, h1, h2, ih i h3⟩

theorem born_modify (ck cx : Value) : ∀ (l : List MapEntry) (j : Nat), (l.modify j fun e => { e with key := ck, val := cx }).map (·.born) = l.map (·.born)
  | [], j => by simp
  | e :: l, 0 => by simp
  | e :: l, j + 1 => by simp [born_modify ck cx l j]
theorem born_key (ck : Value) : ∀ (l : List MapEntry) (j : Nat), (l.modify j fun e => { e with key := ck }).map (·.born) = l.map (·.born)
  | [], j => by simp
  | e :: l, 0 => by simp
  | e :: l, j + 1 => by simp [born_key ck l j]
theorem findNow_val {kd : TypeDesc} {ck : Value} : ∀ {ces : List MapEntry} {i j : Nat} {v : Value}, Instr.findNow kd ck ces i = some (some (j, v)) → (ces[j - i]?).map (·.val) = some v
  | [], i, j, v, h => by cases h
  | e :: r, i, j, v, h => by
    simp only [Instr.findNow] at h
    split at h
    · cases h; simp
    · have h1 := findNow_val h
      have h2 : i + 1 ≤ j := by
        have : ∀ {ces : List MapEntry} {i j : Nat} {v : Value}, Instr.findNow kd ck ces i = some (some (j, v)) → i ≤ j := by
          intro ces
          induction ces with
          | nil => intro i j v h; cases h
          | cons e r ih =>
            intro i j v h
            simp only [Instr.findNow] at h
            split at h
            · cases h; exact Nat.le_refl _
            · have := ih h; omega
            · cases h
        exact this h
      rw [show j - i = (j - (i + 1)) + 1 by omega]
      simpa using h1
    · cases h
theorem born_erase : ∀ (l : List MapEntry) (j : Nat), (l.eraseIdx j).map (·.born) = (l.map (·.born)).eraseIdx j
  | [], j => by simp
  | e :: l, 0 => by simp
  | e :: l, j + 1 => by simp [born_erase l j]
theorem RelM.get {es : List (V × V)} : ∀ {ces : List MapEntry}, RelM E es ces → ∀ {i : Nat} {x : V × V}, es[i]? = some x → ∃ e, ces[i]? = some e ∧ Rel E x.1 e.key ∧ Rel E x.2 e.val := by
  induction es with
  | nil => intro ces h i x hx; simp at hx
  | cons y es ih =>
    intro ces h i x hx
    obtain ⟨k', x'⟩ := y
    obtain ⟨e, r, rfl, h1, h2, h3⟩ := h
    cases i with
    | zero => simp at hx; subst hx; exact ⟨e, rfl, h1, h2⟩
    | succ i => simp at hx; obtain ⟨e', q1, q2⟩ := ih h3 hx; exact ⟨e', by simpa using q1, q2⟩

def Does (B : Nat) (F : Nat → Nat → Prop) (H : Heap) (E : Env) (v : V) (wr : Option (Nat × Nat × O)) (r : Result Next) : Prop :=
  ∃ E' cv, Ext H.length B E E' ∧ Sim B F (match wr with | none => H | some (f, s, o) => hset H f s o) E' ∧ Rel E' v cv ∧ (r = .ok (.value cv) E'.w ∨ (r = .ok .skip E'.w ∧ cv = undef))

theorem Does.same (S : Sim B F H E) {v : V} {cv : Value} {r : Result Next} (hr : Rel E v cv) (h : r = .ok (.value cv) E.w) : Does B F H E v none r :=
  ⟨E, cv, Ext.refl _ _ _, S, hr, .inl h⟩

theorem keyStays {kd : TypeDesc} {k : V} {ck : Value} (hp : plainKey kd k = true) {ces : List MapEntry} : ∀ {i j : Nat} {v : Value}, Instr.findNow kd ck ces i = some (some (j, v)) → Rel E k ck →
    ∃ e, ces[j - i]? = some e ∧ i ≤ j ∧ Instr.sameBits 10000 e.key ck = true := by
  induction ces with
  | nil => intro i j v h _; cases h
  | cons e r ih =>
    intro i j v h rk
    simp only [Instr.findNow] at h
    split at h
    · rename_i hs
      cases h
      refine ⟨e, by simp, Nat.le_refl _, ?_⟩
      cases k <;> cases kd <;> simp only [plainKey, Bool.false_eq_true] at hp <;> simp only [Rel] at rk <;> subst rk
      · cases hk : e.key <;> rw [hk] at hs <;> simp only [Instr.sameNow, reduceCtorEq] at hs
        simp only [Option.some.injEq, beq_iff_eq] at hs; subst hs
        simp [Instr.sameBits]
      · cases hk : e.key <;> rw [hk] at hs <;> simp only [Instr.sameNow, reduceCtorEq] at hs
        split at hs
        · rename_i hkk
          simp only [Option.some.injEq, beq_iff_eq] at hs; subst hs; subst hkk
          simp [Instr.sameBits]
        · cases hs
      · cases hk : e.key <;> rw [hk] at hs <;> simp only [Instr.sameNow, reduceCtorEq] at hs
        rename_i s s'
        obtain ⟨⟨l⟩⟩ := s'
        rw [bytes_beq] at hs
        simp only [Option.some.injEq, beq_iff_eq] at hs; subst hs
        simp only [Instr.sameBits, bytes_beq, beq_self_eq_true]
    · obtain ⟨e', h1, h2, h3⟩ := ih h rk
      refine ⟨e', ?_, by omega, h3⟩
      rw [show j - i = (j - (i + 1)) + 1 by omega]
      simpa using h1
    · cases h

theorem updateV_sound (S : Sim B F H E) {t : TypeId} {m k x : V} {cm ck cx : Value} {st : Step} (h : updateV P (hget H) t m k x = some st) (rm : Rel E m cm) (rk : Rel E k ck) (rx : Rel E x cx) :
    ∃ v wr, st = .val v wr ∧ ∀ r, (Instr.mapUpdate t cm ck cx).run P E.w = r → ∃ E' cv, Ext H.length B E E' ∧ Sim B F (match wr with | none => H | some (f, s, o) => hset H f s o) E' ∧ Rel E' v cv ∧ r = .ok () E'.w ∧ cv = undef := by
  unfold updateV at h
  split at h
  case h_2 => cases h
  rename_i kt e hu
  split at h
  case h_2 => cases h
  rename_i kd hk
  split at h
  case isFalse => cases h
  rename_i hp
  split at h
  case h_2 => cases h
  rename_i f s
  split at h
  case h_2 => cases h
  rename_i es bs clk hg
  simp only [Rel] at rm
  obtain ⟨b, hb, rfl⟩ := rm
  obtain ⟨b', ces, g1, g2, g3, g4, g5⟩ := S.obj f s _ hg
  rw [hb] at g1; cases g1
  split at h
  · rename_i j y hf
    cases h
    refine ⟨_, _, rfl, ?_⟩
    rintro r rfl
    obtain ⟨r', h1, h2⟩ := findKey_sound hp rk es ces.toList 0 _ hf g4
    rcases h2 with ⟨h2, _⟩ | ⟨j', x', v, h2, rfl, h3, _, h5⟩
    · cases h2
    cases h2
    obtain ⟨e', q1, _, q2⟩ := keyStays hp h1 rk
    simp only [Nat.sub_zero] at q1
    have hkey : ((ces[j]?).map (·.key)).getD ck = e'.key := by
      have : ces[j]? = some e' := by simpa using q1
      rw [this]; rfl
    have q2' : Instr.sameBits 10000 (((ces[j]?).map (·.key)).getD ck) ck = true := by rw [hkey]; exact q2
    obtain ⟨X, S'⟩ := S.setMap hg hb g3 g2 (ces.toList.modify j fun e => { e with key := ck, val := cx }) clk (RelM.set j g4 rk rx)
    rw [born_modify, g5] at S'
    refine ⟨_, undef, X, S', by simp [Rel], ?_, rfl⟩
    simp only [Instr.mapUpdate, Sem.run_bind, run_und hu, Result.andThen_ok, run_getMap g3, run_checkKey E.w _ hk hp rk, run_findKey E.w hk h1, Instr.keyThatStays, q2', if_true, Sem.run_pure, run_setMap g3]
    congr 1
    simp only [Env.setMap]
    congr 2
    congr 1
    apply Array.ext'
    simp
  · rename_i hf
    cases h
    refine ⟨_, _, rfl, ?_⟩
    rintro r rfl
    obtain ⟨r', h1, h2⟩ := findKey_sound hp rk es ces.toList 0 _ hf g4
    rcases h2 with ⟨_, rfl⟩ | ⟨_, _, _, h2, _⟩
    · obtain ⟨X, S'⟩ := S.setMap hg hb g3 g2 (ces.toList ++ [{ key := ck, val := cx, born := clk }]) (clk + 1) (RelM.append g4 (RelM.one rk rx))
      rw [List.map_append, g5] at S'
      refine ⟨_, undef, X, S', by simp [Rel], ?_, rfl⟩
      simp only [Instr.mapUpdate, Sem.run_bind, run_und hu, Result.andThen_ok, run_getMap g3, run_checkKey E.w _ hk hp rk, run_findKey E.w hk h1, run_setMap g3]
      congr 1
      simp only [Env.setMap]
      congr 2
      congr 1
      apply Array.ext'
      simp
    · cases h2
  · cases h

theorem deleteV_sound (S : Sim B F H E) {ts : Array TypeId} {t ty : TypeId} {m k : V} {cm ck : Value} {st : Step} (ht : ts[0]? = some t) (h : deleteV P (hget H) t m k = some st) (rm : Rel E m cm) (rk : Rel E k ck) :
    ∃ v wr, st = .val v wr ∧ ∀ r, (Builtin.delete_ ts ty #[cm, ck]).run P E.w = r → ∃ E' cv, Ext H.length B E E' ∧ Sim B F (match wr with | none => H | some (f, s, o) => hset H f s o) E' ∧ Rel E' v cv ∧ r = .ok cv E'.w := by
  unfold deleteV at h
  split at h
  case h_2 => cases h
  rename_i kt e hu
  split at h
  case h_2 => cases h
  rename_i kd hk
  split at h
  case isFalse => cases h
  rename_i hp
  have hnil : Rel E (.tuple []) (.tuple #[]) := by simp only [Rel]; exact ⟨[], rfl, .nil⟩
  split at h
  · cases h
    refine ⟨_, _, rfl, ?_⟩
    rintro r rfl
    simp only [Rel] at rm; subst rm
    exact ⟨E, .tuple #[], Ext.refl _ _ _, S, hnil, by simp [Builtin.delete_, ht, run_und hu, run_checkKey E.w _ hk hp rk]⟩
  · rename_i f s
    split at h
    case h_2 => cases h
    rename_i es bs clk hg
    simp only [Rel] at rm
    obtain ⟨b, hb, rfl⟩ := rm
    obtain ⟨b', ces, g1, g2, g3, g4, g5⟩ := S.obj f s _ hg
    rw [hb] at g1; cases g1
    split at h
    · rename_i j y hf
      cases h
      refine ⟨_, _, rfl, ?_⟩
      rintro r rfl
      obtain ⟨r', h1, h2⟩ := findKey_sound hp rk es ces.toList 0 _ hf g4
      rcases h2 with ⟨h2, _⟩ | ⟨j', x', v, h2, rfl, h3, _, h5⟩
      · cases h2
      cases h2
      obtain ⟨X, S'⟩ := S.setMap hg hb g3 g2 (ces.toList.eraseIdx j) clk (RelM.erase j g4)
      rw [born_erase, g5] at S'
      refine ⟨_, .tuple #[], X, S', Rel.mono X S.lt _ _ hnil, ?_⟩
      have harr : (⟨ces.toList.eraseIdx j⟩ : Array MapEntry) = ces.eraseIdxIfInBounds j := by
        apply Array.ext'
        simp [Array.toList_eraseIdxIfInBounds]
      simp [Builtin.delete_, ht, run_und hu, run_getMap g3, run_checkKey E.w _ hk hp rk, run_findKey E.w hk h1, run_setMap g3, Env.setMap, harr]
    · rename_i hf
      cases h
      refine ⟨_, _, rfl, ?_⟩
      rintro r rfl
      obtain ⟨r', h1, h2⟩ := findKey_sound hp rk es ces.toList 0 _ hf g4
      rcases h2 with ⟨_, rfl⟩ | ⟨_, _, _, h2, _⟩
      · obtain ⟨X, S'⟩ := S.setMap hg hb g3 g2 ces.toList clk g4
        rw [g5] at S'
        refine ⟨_, .tuple #[], X, S', Rel.mono X S.lt _ _ hnil, ?_⟩
        simp [Builtin.delete_, ht, run_und hu, run_getMap g3, run_checkKey E.w _ hk hp rk, run_findKey E.w hk h1, run_setMap g3, Env.setMap]
      · cases h2
    · cases h
  · cases h

end Go.AM
end
