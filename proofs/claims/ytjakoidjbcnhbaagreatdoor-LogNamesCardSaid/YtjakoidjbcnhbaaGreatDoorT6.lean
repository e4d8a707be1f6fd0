/- This file holds in one the texts An7, An8; each says at its head what it proves. -/
import Derived.Test.YtjakoidjbcnhbaaGreatDoorT5
set_option linter.unusedSimpArgs false
set_option linter.unusedVariables false
section
/- The abstract machine, part 7: addresses, indexes, '==', lengths, conversions, look-ups: as the model does. -/
namespace Go.AM
variable {P : Program} {E : Env} {B : Nat} {F : Nat → Nat → Prop} {H : Heap}

theorem indexAddrV_sound {t : TypeId} {x i y : V} {c ci : Value} (w : World) (h : indexAddrV P t x i = some y) (hr : Rel E x c) (hi : Rel E i ci) :
    ∃ v, (Instr.indexAt t c ci).run P w = .ok v w ∧ Rel E y v := by
  unfold indexAddrV at h
  split at h
  case h_2 => cases h
  rename_i k n
  simp only [Rel] at hi
  subst hi
  split at h
  · rename_i m e hu
    split at h
    case h_2 => cases h
    rename_i es hes
    split at h
    case isFalse => cases h
    rename_i hin
    have run1 : ∀ a : Addr, (Instr.indexAt t (.pointer (some a)) (.int k n)).run P w = .ok (.pointer (some (a.add (n.toNat * es)))) w := by
      intro a
      simp [Instr.indexAt, asIntOf, run_und hu, Instr.sureAddr, hin, run_sz hes]
    split at h
    · cases h
      simp only [Rel] at hr
      obtain ⟨b, hb, rfl⟩ := hr
      refine ⟨_, run1 _, ?_⟩
      simp only [Rel]
      exact ⟨b, hb, by rw [addr_add]⟩
    · cases h
      simp only [Rel] at hr
      obtain ⟨b, off, vs, rfl, r1, r2, r3⟩ := hr
      refine ⟨_, run1 _, ?_⟩
      simp only [Rel]
      exact ⟨b, off, vs, by rw [addr_add, Nat.add_assoc], r1, r2, r3⟩
    · cases h
      simp only [Rel] at hr
      obtain ⟨b, off, vs, rfl, r1, r2⟩ := hr
      refine ⟨_, run1 _, ?_⟩
      simp only [Rel]
      exact ⟨b, off, vs, by rw [addr_add, Nat.add_assoc], r1, r2⟩
    · cases h
  · rename_i e hu
    split at h
    case h_2 => cases h
    rename_i es hes
    have run1 : ∀ (a : Addr) (len cap : Nat), 0 ≤ n → n < len → (Instr.indexAt t (.slice (some a) len cap) (.int k n)).run P w = .ok (.pointer (some (a.add (n.toNat * es)))) w := by
      intro a len cap h1 h2
      have hin : 0 ≤ n ∧ n < len := ⟨h1, h2⟩
      simp [Instr.indexAt, asIntOf, run_und hu, hin, run_sz hes]
    split at h
    · rename_i cs len full
      split at h
      case isFalse => cases h
      rename_i hin
      obtain ⟨h1, h2, h3, h4⟩ := hin
      cases h
      simp only [Rel] at hr
      obtain ⟨a, cap, vs, rfl, _, _, r3, r4, r5⟩ := hr
      refine ⟨_, run1 a len cap h1 h2, ?_⟩
      have hne : vs ≠ [] := by
        intro e
        have := r4.length
        rw [e, h3] at this
        have : 0 < len * es := Nat.mul_pos (by omega) h4
        simp at *; omega
      rcases r3 with r3 | ⟨r3, r6⟩
      · exact absurd r3 hne
      · obtain ⟨b, off, sp⟩ := a
        simp only at r3; subst r3
        simp only [Rel]
        exact ⟨b, off, vs, by rw [addr_add], r6, r4, r5⟩
    · rename_i f s cs len e'
      split at h
      case isFalse => cases h
      rename_i hin
      obtain ⟨h1, h2, rfl⟩ := hin
      cases h
      simp only [Rel] at hr
      obtain ⟨b, off, cap, vs, rfl, _, r3, r4, _⟩ := hr
      refine ⟨_, run1 _ len cap h1 h2, ?_⟩
      split
      · rename_i r5
        simp only [Rel]
        exact ⟨b, off, vs, by rw [addr_add], r3, r4, r5⟩
      · simp only [Rel]
        exact ⟨b, off, vs, by rw [addr_add], r3, r4⟩
    · rename_i f s o len cap e'
      split at h
      case isFalse => cases h
      rename_i hin
      obtain ⟨h1, h2, rfl⟩ := hin
      cases h
      simp only [Rel] at hr
      obtain ⟨b, c', T, sz', hmu, rfl, _⟩ := hr
      refine ⟨_, run1 _ len c' h1 h2, ?_⟩
      simp only [Rel]
      exact ⟨b, hmu, by rw [addr_add]⟩
    · cases h
  · cases h

theorem indexV_sound {t : TypeId} {x i y : V} {c ci : Value} (w : World) (h : indexV P t x i = some y) (hr : Rel E x c) (hi : Rel E i ci) :
    ∃ v, (Instr.index t c ci).run P w = .ok v w ∧ Rel E y v := by
  unfold indexV at h
  split at h
  case h_2 => cases h
  rename_i k n
  simp only [Rel] at hi
  subst hi
  split at h
  · rename_i m e cs hu
    split at h
    case h_2 => cases h
    rename_i es hes
    split at h
    case isFalse => cases h
    rename_i hin
    simp only [Rel] at hr
    obtain ⟨vs, rfl, hl⟩ := hr
    obtain ⟨v, h1, h2⟩ := partV_sound (w := w) h hl
    exact ⟨v, by simp [Instr.index, asIntOf, run_und hu, hin, run_sz hes, h1], h2⟩
  · rename_i s hu
    split at h
    case isFalse => cases h
    rename_i hin
    simp only [Rel] at hr
    subst hr
    cases hs : s[n.toNat]? with
    | none => rw [hs] at h; cases h
    | some b =>
      rw [hs] at h; cases h
      have e : (⟨⟨s⟩⟩ : ByteArray)[n.toNat]? = some b := by
        have hlt : n.toNat < (⟨⟨s⟩⟩ : ByteArray).size := (List.getElem?_eq_some_iff.1 hs).1
        rw [ByteArray.getElem?_lt' _ _ hlt]
        have := (List.getElem?_eq_some_iff.1 hs).2
        exact congrArg some this
      exact ⟨.int .u8 b.toNat, by simp [Instr.index, asIntOf, run_und hu, hin, e], by simp [Rel]⟩
  · cases h

/-! ### '==' -/

theorem bytes_beq (a b : List UInt8) : ((⟨⟨a⟩⟩ : ByteArray) == (⟨⟨b⟩⟩ : ByteArray)) = (a == b) := by
  show ((⟨a⟩ : Array UInt8) == ⟨b⟩) = (a == b)
  rw [Bool.eq_iff_iff]; simp

section
variable {eq : TypeId → V → V → Option Bool} {d : Nat} (w : World)
    (ih : ∀ (t : TypeId) (x y : V) (b : Bool) (c e : Value), eq t x y = some b → Rel E x c → Rel E y e → (Op.equalIn d t c e).run P w = .ok b w)
include ih

theorem eqFields_sound :
    ∀ (fs : List Field) (xs ys : List V) (vs us : List Value) (b : Bool), eqFields P eq fs xs ys = some b → RelL E xs vs → RelL E ys us →
      (forIn (m := Sem) fs ((none, ()) : Option Bool × Unit) fun f _ => (do
          if f.name ≠ "_" then do
            let x ← part f.type ⟨vs⟩ f.offset
            let y ← part f.type ⟨us⟩ f.offset
            let r ← Op.equalIn d f.type x y
            if (!r) = true then pure (ForInStep.done (some false, ())) else pure (ForInStep.yield (none, ()))
          else pure (ForInStep.yield (none, ())))).run P w = .ok (if b then none else some false, ()) w := by
  intro fs
  induction fs with
  | nil => intro xs ys vs us b h _ _; simp only [eqFields, Option.some.injEq] at h; subst h; rfl
  | cons f fs ihf =>
    intro xs ys vs us b h hx hy
    simp only [eqFields] at h
    by_cases hn : f.name = "_"
    · rw [if_pos hn] at h
      have h1 := ihf xs ys vs us b h hx hy
      simp only [List.forIn_cons, hn, ne_eq, not_true, if_false, pure_bind]
      exact h1
    · rw [if_neg hn] at h
      split at h
      case h_2 => cases h
      rename_i x y px py
      obtain ⟨c, pc, rc⟩ := partV_sound (w := w) px hx
      obtain ⟨e, pe, re⟩ := partV_sound (w := w) py hy
      split at h
      · rename_i he
        have h1 := ihf xs ys vs us b h hx hy
        have := ih _ _ _ _ _ _ he rc re
        simp only [List.forIn_cons, hn, ne_eq, not_false_eq_true, if_true, Sem.run_bind, pc, pe, Result.andThen_ok, this, Bool.not_true, Bool.false_eq_true, if_false, Sem.run_pure]
        exact h1
      · rename_i he
        cases h
        have := ih _ _ _ _ _ _ he rc re
        simp only [List.forIn_cons, hn, ne_eq, not_false_eq_true, if_true, Sem.run_bind, pc, pe, Result.andThen_ok, this, Bool.not_false, Sem.run_pure]
        rfl
      · cases h

theorem eqElems_sound (ty : TypeId) (m : Nat) :
    ∀ (n i : Nat) (xs ys : List V) (vs us : List Value) (b : Bool), eqElems P eq ty m xs ys i n = some b → RelL E xs vs → RelL E ys us →
      (forIn (m := Sem) (List.range' i n) ((none, ()) : Option Bool × Unit) fun i _ => (do
            let x ← part ty ⟨vs⟩ (i * m)
            let y ← part ty ⟨us⟩ (i * m)
            let r ← Op.equalIn d ty x y
            if (!r) = true then pure (ForInStep.done (some false, ())) else pure (ForInStep.yield (none, ())))).run P w = .ok (if b then none else some false, ()) w := by
  intro n
  induction n with
  | zero => intro i xs ys vs us b h _ _; simp only [eqElems, Option.some.injEq] at h; subst h; rfl
  | succ n ihn =>
    intro i xs ys vs us b h hx hy
    simp only [eqElems] at h
    split at h
    case h_2 => cases h
    rename_i x y px py
    obtain ⟨c, pc, rc⟩ := partV_sound (w := w) px hx
    obtain ⟨e, pe, re⟩ := partV_sound (w := w) py hy
    split at h
    · rename_i he
      have h1 := ihn (i + 1) xs ys vs us b h hx hy
      have := ih _ _ _ _ _ _ he rc re
      simp only [List.range'_succ, List.forIn_cons, Sem.run_bind, pc, pe, Result.andThen_ok, this, Bool.not_true, Bool.false_eq_true, if_false, Sem.run_pure]
      exact h1
    · rename_i he
      cases h
      have := ih _ _ _ _ _ _ he rc re
      simp only [List.range'_succ, List.forIn_cons, Sem.run_bind, pc, pe, Result.andThen_ok, this, Bool.not_false, if_true, Sem.run_pure]
      rfl
    · cases h
end

theorem eqV_sound (w : World) : ∀ (n : Nat) (t : TypeId) (x y : V) (b : Bool) (c e : Value) (d : Nat), n ≤ d → eqV P n t x y = some b → Rel E x c → Rel E y e →
    (Op.equalIn d t c e).run P w = .ok b w := by
  intro n
  induction n with
  | zero => intro t x y b c e d _ h; simp [eqV] at h
  | succ n ih =>
    intro t x y b c e d hd h hx hy
    obtain ⟨d, rfl⟩ : ∃ d', d = d' + 1 := ⟨d - 1, by omega⟩
    have ih' : ∀ (t : TypeId) (x y : V) (b : Bool) (c e : Value), eqV P n t x y = some b → Rel E x c → Rel E y e → (Op.equalIn d t c e).run P w = .ok b w :=
      fun t x y b c e => ih t x y b c e d (by omega)
    simp only [eqV] at h
    split at h
    · rename_i hu
      unfold eqBool at h
      split at h
      · cases h
        simp only [Rel] at hx hy
        subst hx; subst hy
        simp [Op.equalIn, run_und hu]
      · cases h
    · rename_i hu
      unfold eqInt at h
      split at h
      · split at h
        · rename_i hk
          cases h
          simp only [Rel] at hx hy
          subst hx; subst hy
          simp [Op.equalIn, run_und hu, hk]
        · cases h
      · cases h
    · rename_i hu
      unfold eqStr at h
      split at h
      · rename_i a a'
        cases h
        simp only [Rel] at hx hy
        subst hx; subst hy
        simp [Op.equalIn, run_und hu, bytes_beq]
      · cases h
    · rename_i fs hu
      split at h
      case h_2 => cases h
      rename_i xs ys
      split at h
      · cases h
      · rename_i hst
        simp only [Rel] at hx hy
        obtain ⟨vs, rfl, hx⟩ := hx
        obtain ⟨us, rfl, hy⟩ := hy
        have := eqFields_sound (P := P) w ih' fs.toList xs ys vs us b h hx hy
        simp only [Op.equalIn, Sem.run_bind, run_und hu, Result.andThen_ok, run_program, hst, Bool.false_eq_true, if_false]
        rw [← Array.forIn_toList, this]
        cases b <;> rfl
    · rename_i m el hu
      split at h
      case h_2 => cases h
      rename_i xs ys k hk
      simp only [Rel] at hx hy
      obtain ⟨vs, rfl, hx⟩ := hx
      obtain ⟨us, rfl, hy⟩ := hy
      have := eqElems_sound (P := P) w ih' el k m 0 xs ys vs us b h hx hy
      simp only [Op.equalIn, Sem.run_bind, run_und hu, Result.andThen_ok, run_sz hk]
      rw [Std.Legacy.Range.forIn_eq_forIn_range']
      simp only [Std.Legacy.Range.size, Nat.sub_zero, Nat.add_sub_cancel, Nat.div_one]
      rw [this]
      cases b <;> rfl
    · cases h


def NilShape (c : Value) (nb : Bool) : TypeDesc → Prop
  | .pointer _ => if nb then c = .pointer none else ∃ a, c = .pointer (some a)
  | .slice _ => if nb then c = .slice none 0 0 else ∃ a l k, c = .slice (some a) l k
  | .map _ _ => if nb then c = .map none else ∃ b, c = .map (some b)
  | .func _ _ _ => if nb then c = .nilFunc else ∃ f a b, c = .func f a b
  | .interface _ => if nb then c = .nilIface else ∃ t v, c = .iface t v
  | _ => False

theorem nilShape {d : TypeDesc} {x : V} {c : Value} (hx : nilKind d x = true) (rx : Rel E x c) : ∃ nb, x.isNil = some nb ∧ NilShape c nb d := by
  cases x <;> simp only [Rel] at rx
  case nilptr => cases d <;> simp only [nilKind, Bool.false_eq_true] at hx; exact ⟨true, rfl, rx⟩
  case ptr => cases d <;> simp only [nilKind, Bool.false_eq_true] at hx; obtain ⟨b, _, rfl⟩ := rx; exact ⟨false, rfl, _, rfl⟩
  case iptr => cases d <;> simp only [nilKind, Bool.false_eq_true] at hx; obtain ⟨b, _, _, rfl, _⟩ := rx; exact ⟨false, rfl, _, rfl⟩
  case rptr => cases d <;> simp only [nilKind, Bool.false_eq_true] at hx; obtain ⟨b, _, _, rfl, _⟩ := rx; exact ⟨false, rfl, _, rfl⟩
  case nilslice => cases d <;> simp only [nilKind, Bool.false_eq_true] at hx; exact ⟨true, rfl, rx⟩
  case islice => cases d <;> simp only [nilKind, Bool.false_eq_true] at hx; obtain ⟨_, _, _, rfl, _⟩ := rx; exact ⟨false, rfl, _, _, _, rfl⟩
  case gslice => cases d <;> simp only [nilKind, Bool.false_eq_true] at hx; obtain ⟨_, _, _, _, rfl, _⟩ := rx; exact ⟨false, rfl, _, _, _, rfl⟩
  case mslice => cases d <;> simp only [nilKind, Bool.false_eq_true] at hx; obtain ⟨_, _, _, _, _, rfl, _⟩ := rx; exact ⟨false, rfl, _, _, _, rfl⟩
  case nilmap => cases d <;> simp only [nilKind, Bool.false_eq_true] at hx; exact ⟨true, rfl, rx⟩
  case map => cases d <;> simp only [nilKind, Bool.false_eq_true] at hx; obtain ⟨_, _, rfl⟩ := rx; exact ⟨false, rfl, _, rfl⟩
  case nilfunc => cases d <;> simp only [nilKind, Bool.false_eq_true] at hx; exact ⟨true, rfl, rx⟩
  case func => cases d <;> simp only [nilKind, Bool.false_eq_true] at hx; obtain ⟨_, _, rfl, _⟩ := rx; exact ⟨false, rfl, _, _, _, rfl⟩
  case nilface => cases d <;> simp only [nilKind, Bool.false_eq_true] at hx; exact ⟨true, rfl, rx⟩
  case face => cases d <;> simp only [nilKind, Bool.false_eq_true] at hx; obtain ⟨_, rfl, _⟩ := rx; exact ⟨false, rfl, _, _, rfl⟩
  all_goals (cases d <;> simp only [nilKind, Bool.false_eq_true] at hx)

theorem eqNil_sound (w : World) {t : TypeId} {d : TypeDesc} {x y : V} {c e : Value} {b : Bool} (k : Nat) (hu : P.underlying t = some d) (hx : nilKind d x = true) (hy : nilKind d y = true)
    (h : eqNil x y = some b) (rx : Rel E x c) (ry : Rel E y e) : (Op.equalIn (k + 1) t c e).run P w = .ok b w := by
  obtain ⟨n1, i1, s1⟩ := nilShape hx rx
  obtain ⟨n2, i2, s2⟩ := nilShape hy ry
  simp only [eqNil, i1, i2] at h
  cases d <;> simp only [NilShape] at s1 s2 <;> cases n1 <;> cases n2 <;> simp only [Option.some.injEq, reduceCtorEq, if_true, if_false, Bool.false_eq_true] at h s1 s2 <;> subst h
  case pointer.false.true => obtain ⟨_, rfl⟩ := s1; subst s2; simp [Op.equalIn, run_und hu]
  case pointer.true.false => obtain ⟨_, rfl⟩ := s2; subst s1; simp [Op.equalIn, run_und hu]
  case pointer.true.true => subst s1; subst s2; simp [Op.equalIn, run_und hu]
  case slice.false.true => obtain ⟨_, _, _, rfl⟩ := s1; subst s2; simp [Op.equalIn, run_und hu]
  case slice.true.false => obtain ⟨_, _, _, rfl⟩ := s2; subst s1; simp [Op.equalIn, run_und hu]
  case slice.true.true => subst s1; subst s2; simp [Op.equalIn, run_und hu]
  case map.false.true => obtain ⟨_, rfl⟩ := s1; subst s2; simp [Op.equalIn, run_und hu]
  case map.true.false => obtain ⟨_, rfl⟩ := s2; subst s1; simp [Op.equalIn, run_und hu]
  case map.true.true => subst s1; subst s2; simp [Op.equalIn, run_und hu]
  case func.false.true => obtain ⟨_, _, _, rfl⟩ := s1; subst s2; simp [Op.equalIn, run_und hu]
  case func.true.false => obtain ⟨_, _, _, rfl⟩ := s2; subst s1; simp [Op.equalIn, run_und hu]
  case func.true.true => subst s1; subst s2; simp [Op.equalIn, run_und hu]
  case interface.false.true => obtain ⟨_, _, rfl⟩ := s1; subst s2; simp [Op.equalIn, run_und hu]
  case interface.true.false => obtain ⟨_, _, rfl⟩ := s2; subst s1; simp [Op.equalIn, run_und hu]
  case interface.true.true => subst s1; subst s2; simp [Op.equalIn, run_und hu]

theorem constOr (x y : Operand) : (isConst x || isConst y) = true → ((match x with | .const _ => true | _ => false) || (match y with | .const _ => true | _ => false)) = true := by
  intro h
  simp only [Bool.or_eq_true] at h
  rcases h with h | h
  · cases x <;> simp_all [isConst]
  · cases y <;> simp_all [isConst]

theorem guard_sound (w : World) (op : BinOp) (t : TypeId) (x y : Operand) (ca cb : Value) (hn : ca = .nilIface → cb = .nilIface → (isConst x || isConst y) = true)
    (hg : ∀ xs ys, ca = .agg xs → cb = .agg ys → P.eqGuardType P.depth t = false) : (eqGuard op t x y ca cb).run P w = .ok () w := by
  unfold eqGuard
  rw [Sem.run_ite]
  split
  case h_3 => rfl
  all_goals
    simp only [Bool.not_true, Bool.false_eq_true, if_false]
    split
    · have := constOr x y (hn rfl rfl)
      rw [Sem.run_ite, if_pos]
      · rfl
      · exact this
    · simp only [Sem.run_bind, run_program, Result.andThen_ok, hg _ _ rfl rfl, Bool.not_false, if_true, Sem.run_pure]
    · rfl

theorem eqOp_sound (w : World) {t : TypeId} {x y : Operand} {a b : V} {ca cb : Value} {r : Bool} (op : BinOp) (h : eqOp P t x y a b = some r) (ra : Rel E a ca) (rb : Rel E b cb) :
    (eqGuard op t x y ca cb).run P w = .ok () w ∧ (Op.equal t ca cb).run P w = .ok r w := by
  have deep : eqV P 8 t a b = some r → (∀ xs ys, ca = .agg xs → cb = .agg ys → P.eqGuardType P.depth t = false) → (ca ≠ .nilIface) →
      (eqGuard op t x y ca cb).run P w = .ok () w ∧ (Op.equal t ca cb).run P w = .ok r w :=
    fun he hg hn => ⟨guard_sound w op t x y ca cb (fun h => absurd h hn) hg, eqV_sound w 8 t a b r ca cb _ (by decide) he ra rb⟩
  unfold eqOp at h
  split at h
  · rename_i fs hu
    split at h
    · cases h
    · rename_i hg
      refine deep h (fun _ _ _ _ => by simpa using hg) ?_
      simp only [eqV, hu] at h
      split at h
      · simp only [Rel] at ra; obtain ⟨_, rfl, _⟩ := ra; exact fun h => by cases h
      · cases h
  · rename_i n e hu
    split at h
    · cases h
    · rename_i hg
      refine deep h (fun _ _ _ _ => by simpa using hg) ?_
      simp only [eqV, hu] at h
      split at h
      · simp only [Rel] at ra; obtain ⟨_, rfl, _⟩ := ra; exact fun h => by cases h
      · cases h
  · rename_i hu
    have he := h
    simp only [eqV, hu, eqBool] at he
    split at he
    · simp only [Rel] at ra; subst ra; exact deep h (fun _ _ e => by cases e) (fun e => by cases e)
    · cases he
  · rename_i hu
    have he := h
    simp only [eqV, hu, eqInt] at he
    split at he
    · simp only [Rel] at ra; subst ra; exact deep h (fun _ _ e => by cases e) (fun e => by cases e)
    · cases he
  · rename_i hu
    have he := h
    simp only [eqV, hu, eqStr] at he
    split at he
    · simp only [Rel] at ra; subst ra; exact deep h (fun _ _ e => by cases e) (fun e => by cases e)
    · cases he
  · rename_i d _ _ _ _ _ hu
    split at h
    case isFalse => cases h
    rename_i hk
    simp only [Bool.and_eq_true] at hk
    have shapes : ∀ (z : V) (c : Value), nilKind d z = true → Rel E z c → (∀ xs, c ≠ .agg xs) ∧ (c = .nilIface → z = .nilface) := by
      intro z c hz rz
      obtain ⟨nb, i1, s1⟩ := nilShape hz rz
      cases d <;> simp only [NilShape] at s1 <;> cases nb <;> simp only [if_true, if_false, Bool.false_eq_true] at s1
      case interface.true => subst s1; exact ⟨(fun _ e => by cases e), (fun _ => by cases z <;> simp only [nilKind, Bool.false_eq_true] at hz <;> simp only [V.isNil, Option.some.injEq, reduceCtorEq] at i1; rfl)⟩
      all_goals first
        | (subst s1; exact ⟨(fun _ e => by cases e), (fun e => by cases e)⟩)
        | (obtain ⟨_, rfl⟩ := s1; exact ⟨(fun _ e => by cases e), (fun e => by cases e)⟩)
        | (obtain ⟨_, _, rfl⟩ := s1; exact ⟨(fun _ e => by cases e), (fun e => by cases e)⟩)
        | (obtain ⟨_, _, _, rfl⟩ := s1; exact ⟨(fun _ e => by cases e), (fun e => by cases e)⟩)
    have noAgg := (shapes a ca hk.1 ra).1
    split at h
    · split at h
      case isFalse => cases h
      rename_i hc
      cases h
      exact ⟨guard_sound w op t x y ca cb (fun _ _ => hc) (fun xs _ e => absurd e (noAgg xs)), eqNil_sound w 9999 hu hk.1 hk.2 rfl ra rb⟩
    · rename_i hnn
      exact ⟨guard_sound w op t x y ca cb (fun e1 e2 => (hnn ((shapes a ca hk.1 ra).2 e1) ((shapes b cb hk.2 rb).2 e2)).elim) (fun xs _ e => absurd e (noAgg xs)), eqNil_sound w 9999 hu hk.1 hk.2 h ra rb⟩
  · cases h

end Go.AM
end
section
/- The abstract machine, part 8: operators, lengths, conversions, maps: as the model does. -/
namespace Go.AM
variable {P : Program} {E : Env} {B : Nat} {F : Nat → Nat → Prop} {H : Heap}

theorem guard_plain (w : World) (op : BinOp) (t : TypeId) (x y : Operand) (ca cb : Value) (h1 : ca ≠ .nilIface) (h2 : ∀ xs, ca ≠ .agg xs) : (eqGuard op t x y ca cb).run P w = .ok () w :=
  guard_sound w op t x y ca cb (fun e => absurd e h1) (fun xs _ e => absurd e (h2 xs))

theorem RelM.length {E : Env} : ∀ {es : List (V × V)} {ces : List MapEntry}, RelM E es ces → es.length = ces.length
  | [], _, h => by simp only [RelM] at h; subst h; rfl
  | (_, _) :: es, _, ⟨e, r, h, _, _, h3⟩ => by subst h; simp [RelM.length h3]

def Eqable : Value → Prop
  | .agg _ | .bool _ | .pointer _ | .slice _ _ _ | .map _ | .func _ _ _ | .nilFunc | .nilIface | .iface _ _ => True
  | _ => False

theorem binOp_eqable (t : TypeId) (c e : Value) (h1 : Eqable c) (h2 : Eqable e) :
    binOp .eql t c e = (do pure (.bool (← Op.equal t c e))) ∧ binOp .neq t c e = (do pure (.bool (!(← Op.equal t c e)))) := by
  cases c <;> simp only [Eqable] at h1 <;> cases e <;> simp only [Eqable] at h2 <;> exact ⟨rfl, rfl⟩

theorem eqOp_eqable {t : TypeId} {x y : Operand} {a b : V} {ca cb : Value} {r : Bool} (h : eqOp P t x y a b = some r) (ra : Rel E a ca) (rb : Rel E b cb) :
    (∃ k m k' n, a = .int k m ∧ b = .int k' n) ∨ (∃ s s', a = .str s ∧ b = .str s') ∨ (Eqable ca ∧ Eqable cb) := by
  unfold eqOp at h
  split at h
  · rename_i fs hu
    split at h
    · cases h
    · simp only [eqV, hu] at h
      split at h
      · simp only [Rel] at ra rb; obtain ⟨_, rfl, _⟩ := ra; obtain ⟨_, rfl, _⟩ := rb; exact .inr (.inr ⟨trivial, trivial⟩)
      · cases h
  · rename_i fs hu
    split at h
    · cases h
    · simp only [eqV, hu] at h
      split at h
      · simp only [Rel] at ra rb; obtain ⟨_, rfl, _⟩ := ra; obtain ⟨_, rfl, _⟩ := rb; exact .inr (.inr ⟨trivial, trivial⟩)
      · cases h
  · rename_i hu
    simp only [eqV, hu, eqBool] at h
    split at h
    · simp only [Rel] at ra rb; subst ra; subst rb; exact .inr (.inr ⟨trivial, trivial⟩)
    · cases h
  · rename_i hu
    simp only [eqV, hu, eqInt] at h
    split at h
    · exact .inl ⟨_, _, _, _, rfl, rfl⟩
    · cases h
  · rename_i hu
    simp only [eqV, hu, eqStr] at h
    split at h
    · exact .inr (.inl ⟨_, _, rfl, rfl⟩)
    · cases h
  · rename_i d _ _ _ _ _ hu
    split at h
    case isFalse => cases h
    rename_i hk
    simp only [Bool.and_eq_true] at hk
    have : ∀ (z : V) (c : Value), nilKind d z = true → Rel E z c → Eqable c := by
      intro z c hz rz
      obtain ⟨nb, i1, s1⟩ := nilShape hz rz
      cases d <;> simp only [NilShape] at s1 <;> cases nb <;> simp only [if_true, if_false, Bool.false_eq_true] at s1
      all_goals first
        | (subst s1; trivial)
        | (obtain ⟨_, rfl⟩ := s1; trivial)
        | (obtain ⟨_, _, rfl⟩ := s1; trivial)
        | (obtain ⟨_, _, _, rfl⟩ := s1; trivial)
    exact .inr (.inr ⟨this _ _ hk.1 ra, this _ _ hk.2 rb⟩)
  · cases h

theorem binV_sound (w : World) {op : BinOp} {t : TypeId} {x y : Operand} {a b r : V} {ca cb : Value} (h : binV P op t x y a b = some r) (ra : Rel E a ca) (rb : Rel E b cb) :
    ∃ v, (do eqGuard op t x y ca cb; binOp op t ca cb : Sem Value).run P w = .ok v w ∧ Rel E r v := by
  unfold binV at h
  split at h
  · simp only [Rel] at ra rb
    subst ra; subst rb
    obtain ⟨v, h1, h2⟩ := shiftI_sound (P := P) (E := E) (w := w) h
    refine ⟨v, ?_, h2⟩
    rw [Sem.run_bind, guard_plain w _ t x y _ _ (fun e => by cases e) (fun _ e => by cases e)]
    simp only [Result.andThen_ok, binOp]
    exact h1
  · simp only [Rel] at ra rb
    subst ra; subst rb
    obtain ⟨v, h1, h2⟩ := shiftI_sound (P := P) (E := E) (w := w) h
    refine ⟨v, ?_, h2⟩
    rw [Sem.run_bind, guard_plain w _ t x y _ _ (fun e => by cases e) (fun _ e => by cases e)]
    simp only [Result.andThen_ok, binOp]
    exact h1
  · split at h
    case isFalse => cases h
    rename_i hk
    subst hk
    simp only [Rel] at ra rb
    subst ra; subst rb
    obtain ⟨v, h1, h2⟩ := binI_sound (P := P) (E := E) (w := w) t h
    refine ⟨v, ?_, h2⟩
    rw [Sem.run_bind, guard_plain w _ t x y _ _ (fun e => by cases e) (fun _ e => by cases e)]
    exact h1
  · simp only [Rel] at ra rb
    subst ra; subst rb
    obtain ⟨v, h1, h2⟩ := binS_sound (P := P) (E := E) (w := w) h
    refine ⟨v, ?_, h2⟩
    rw [Sem.run_bind, guard_plain w _ t x y _ _ (fun e => by cases e) (fun _ e => by cases e)]
    simp only [Result.andThen_ok]
    cases op <;> exact h1
  · rename_i hni hns
    cases he : eqOp P t x y a b with
    | none => rw [he] at h; cases h
    | some q =>
      rw [he] at h; cases h
      obtain ⟨h1, h2⟩ := eqOp_sound w .eql he ra rb
      refine ⟨.bool q, ?_, by simp [Rel]⟩
      rcases eqOp_eqable he ra rb with ⟨k, m, k', n, rfl, rfl⟩ | ⟨s, s', rfl, rfl⟩ | ⟨e1, e2⟩
      · exact (hni _ _ _ _ rfl rfl).elim
      · exact (hns _ _ rfl rfl).elim
      · rw [Sem.run_bind, h1]
        simp only [Result.andThen_ok, (binOp_eqable t ca cb e1 e2).1, Sem.run_bind, h2, Sem.run_pure]
  · rename_i hni hns
    cases he : eqOp P t x y a b with
    | none => rw [he] at h; cases h
    | some q =>
      rw [he] at h; cases h
      obtain ⟨h1, h2⟩ := eqOp_sound w .neq he ra rb
      refine ⟨.bool (!q), ?_, by simp [Rel]⟩
      rcases eqOp_eqable he ra rb with ⟨k, m, k', n, rfl, rfl⟩ | ⟨s, s', rfl, rfl⟩ | ⟨e1, e2⟩
      · exact (hni _ _ _ _ rfl rfl).elim
      · exact (hns _ _ rfl rfl).elim
      · rw [Sem.run_bind, h1]
        simp only [Result.andThen_ok, (binOp_eqable t ca cb e1 e2).2, Sem.run_bind, h2, Sem.run_pure]
  · cases h

/-! ### Lengths -/

theorem run_getMap {w : World} {r : Nat} {es : Array MapEntry} {clk : Nat} (hb : w.heap[r]? = some (.map es clk)) : (getObj r).run P w = .ok (.map es clk) w := by
  simp only [getObj, Sem.run, hb]
theorem run_setMap {w : World} {r : Nat} {es : Array MapEntry} {clk : Nat} (hb : w.heap[r]? = some (.map es clk)) (o : Obj) :
    (setObj r o).run P w = .ok () { w with heap := w.heap.setIfInBounds r o } := by
  simp only [setObj, Sem.run, hb]

theorem lenV_sound (S : Sim B F H E) {ts : Array TypeId} {t : TypeId} (ty : TypeId) {x y : V} {c : Value} (ht : ts[0]? = some t) (h : lenV P (hget H) t x = some y) (hr : Rel E x c) :
    ∃ v, (Builtin.len_ ts ty #[c]).run P E.w = .ok v E.w ∧ Rel E y v := by
  unfold lenV at h
  split at h
  · rename_i s hu
    cases h
    simp only [Rel] at hr; subst hr
    exact ⟨goInt s.length, by simp [Builtin.len_, ht, run_und hu]; rfl, by simp [Rel, goInt]⟩
  · rename_i n e hu
    cases h
    exact ⟨goInt n, by simp [Builtin.len_, ht, run_und hu], by simp [Rel, goInt]⟩
  · rename_i a hu
    split at h
    case h_2 => cases h
    rename_i n e hu2
    cases h
    exact ⟨goInt n, by simp [Builtin.len_, ht, run_und hu, run_und hu2], by simp [Rel, goInt]⟩
  · rename_i hu
    cases h
    simp only [Rel] at hr; subst hr
    exact ⟨goInt 0, by simp [Builtin.len_, ht, run_und hu], by simp [Rel, goInt]⟩
  · rename_i hu
    cases h
    simp only [Rel] at hr; obtain ⟨a, cap, vs, rfl, _⟩ := hr
    exact ⟨goInt _, by simp [Builtin.len_, ht, run_und hu]; rfl, by simp [Rel, goInt]⟩
  · rename_i hu
    cases h
    simp only [Rel] at hr; obtain ⟨b, off, cap, vs, rfl, _⟩ := hr
    exact ⟨goInt _, by simp [Builtin.len_, ht, run_und hu]; rfl, by simp [Rel, goInt]⟩
  · rename_i hu
    cases h
    simp only [Rel] at hr; obtain ⟨b, c', T, n', _, rfl, _⟩ := hr
    exact ⟨goInt _, by simp [Builtin.len_, ht, run_und hu]; rfl, by simp [Rel, goInt]⟩
  · rename_i hu
    cases h
    simp only [Rel] at hr; subst hr
    exact ⟨goInt 0, by simp [Builtin.len_, ht, run_und hu], by simp [Rel, goInt]⟩
  · rename_i f s hu
    split at h
    case h_2 => cases h
    rename_i es bs clk hg
    cases h
    simp only [Rel] at hr; obtain ⟨b, hb, rfl⟩ := hr
    obtain ⟨b', ces, g1, _, g3, g4, _⟩ := S.obj f s _ hg
    rw [hb] at g1; cases g1
    have hl := g4.length
    refine ⟨goInt ces.size, ?_, by simp [Rel, goInt, hl]⟩
    simp [Builtin.len_, ht, run_und hu, run_getMap g3]
  · cases h

theorem capV_sound {ts : Array TypeId} {t : TypeId} (ty : TypeId) {x y : V} {c : Value} (ht : ts[0]? = some t) (h : capV P t x = some y) (hr : Rel E x c) :
    ∃ v, (Builtin.cap_ ts ty #[c]).run P E.w = .ok v E.w ∧ Rel E y v := by
  unfold capV at h
  split at h
  · rename_i hu
    cases h
    simp only [Rel] at hr; subst hr
    exact ⟨goInt 0, by simp [Builtin.cap_, ht, run_und hu], by simp [Rel, goInt]⟩
  · rename_i n hu
    cases h
    simp only [Rel] at hr; obtain ⟨a, cap, vs, rfl, _, hf, _⟩ := hr
    have := hf trivial
    subst this
    exact ⟨goInt _, by simp [Builtin.cap_, ht, run_und hu]; rfl, by simp [Rel, goInt]⟩
  · rename_i k _ hu
    cases h
    simp only [Rel] at hr; obtain ⟨b, c', T, n', _, rfl, _, hk, _⟩ := hr
    have := hk _ rfl
    subst this
    exact ⟨goInt _, by simp [Builtin.cap_, ht, run_und hu]; rfl, by simp [Rel, goInt]⟩
  · cases h

theorem minV_sound (w : World) : ∀ (l : List V) (vs : List Value) (x y : V) (c : Value), minV false x l = some y → Rel E x c → RelL E l vs →
    ∃ v, (vs.foldlM Builtin.min2 c).run P w = .ok v w ∧ Rel E y v
  | [], vs, x, y, c, h, hr, hl => by
    rw [RelL.nil_iff] at hl; subst hl
    have e : ∀ b, minV b x [] = some x := fun b => by cases x <;> rfl
    rw [e] at h; cases h; exact ⟨c, rfl, hr⟩
  | z :: l, vs, x, y, c, h, hr, hl => by
    obtain ⟨u, r, rfl, hu, hl2⟩ := RelL.cons_iff.1 hl
    clear hl
    unfold minV at h
    split at h
    · rename_i e; cases e
    · rename_i e
      injection e with e1 e2
      subst e1; subst e2
      simp only [Rel] at hr hu
      subst hr; subst hu
      obtain ⟨v, h1, h2⟩ := minV_sound w _ r _ y _ h (by simp only [Rel]; rfl) hl2
      exact ⟨v, by simp only [List.foldlM_cons, Sem.run_bind, Builtin.min2, Sem.run_pure, Result.andThen_ok]; simpa using h1, h2⟩
    · cases h

theorem maxV_sound (w : World) : ∀ (l : List V) (vs : List Value) (x y : V) (c : Value), minV true x l = some y → Rel E x c → RelL E l vs →
    ∃ v, (vs.foldlM Builtin.max2 c).run P w = .ok v w ∧ Rel E y v
  | [], vs, x, y, c, h, hr, hl => by
    rw [RelL.nil_iff] at hl; subst hl
    have e : ∀ b, minV b x [] = some x := fun b => by cases x <;> rfl
    rw [e] at h; cases h; exact ⟨c, rfl, hr⟩
  | z :: l, vs, x, y, c, h, hr, hl => by
    obtain ⟨u, r, rfl, hu, hl2⟩ := RelL.cons_iff.1 hl
    clear hl
    unfold minV at h
    split at h
    · rename_i e; cases e
    · rename_i e
      injection e with e1 e2
      subst e1; subst e2
      simp only [Rel] at hr hu
      subst hr; subst hu
      obtain ⟨v, h1, h2⟩ := maxV_sound w _ r _ y _ h (by simp only [Rel]; rfl) hl2
      exact ⟨v, by simp only [List.foldlM_cons, Sem.run_bind, Builtin.max2, Sem.run_pure, Result.andThen_ok]; simpa using h1, h2⟩
    · cases h

end Go.AM
end
