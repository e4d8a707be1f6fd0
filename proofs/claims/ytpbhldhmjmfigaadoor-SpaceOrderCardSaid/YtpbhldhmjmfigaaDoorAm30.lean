/- The abstract machine, part 30: what holds of an outcome (W), of a call (CW), of a call on an empty heap (Fz); rules for branches, loops and calls. -/
import Derived.Test.YtpbhldhmjmfigaaDoorAm29
set_option linter.unusedSimpArgs false
set_option linter.unusedVariables false
namespace Go.AM

/-- It comes to an end of which this holds. -/
def W (X : Out) (Q : Ex → List V → Heap → Prop) : Prop := match X with
  | some (e, t, H) => Q e t H
  | none => False

theorem W.mono {X : Out} {Q Q' : Ex → List V → Heap → Prop} (h : W X Q) (k : ∀ e t H, Q e t H → Q' e t H) : W X Q' := by
  cases X with
  | none => exact h
  | some x => exact k _ _ _ h
theorem W.of_eq {X : Out} {e : Ex} {t : List V} {H : Heap} {Q : Ex → List V → Heap → Prop} (h : X = some (e, t, H)) (k : Q e t H) : W X Q := by subst h; exact k
theorem W.out {X : Out} {Q : Ex → List V → Heap → Prop} (h : W X Q) : ∃ e t H, X = some (e, t, H) ∧ Q e t H := by
  cases X with
  | none => exact h.elim
  | some x => exact ⟨_, _, _, rfl, h⟩

section
variable {P : Program} {pol : Pol} {C : Call} {L : Body → Body} {fn fr : Nat} {t : List V} {H : Heap} {d : Option Nat} {k k' : List It} {Q : Ex → List V → Heap → Prop}

theorem W.done {e : Ex} (h : Q e t H) : W (some (e, t, H)) Q := h
theorem W.ite {b : Bool} (h1 : b = true → W (U P pol C L fn fr k .normal t H) Q) (h2 : b = false → W (U P pol C L fn fr k' .normal t H) Q) : W (UI P pol C L fn fr (.bool b) k k' t H) Q := by
  cases b with
  | true => exact h1 rfl
  | false => exact h2 rfl
theorem W.guard {b want : Bool} (h1 : b = want → W (U P pol C L fn fr k .normal t H) Q) (h2 : b = (!want) → W (U P pol C L fn fr k' .normal (putT t d nov) H) Q) : W (UG P pol C L fn fr (some (.bool b)) want k k' d t H) Q := by
  unfold UG
  by_cases h : b = want
  · simp only [h, if_true]; exact h1 h
  · simp only [h, if_false]; exact h2 (by cases b <;> cases want <;> simp_all)
theorem W.guardT {b : Bool} (h1 : b = true → W (U P pol C L fn fr k .normal t H) Q) (h2 : b = false → W (U P pol C L fn fr k' .normal (putT t d nov) H) Q) : W (UG P pol C L fn fr (some (.bool b)) true k k' d t H) Q := W.guard h1 h2
theorem W.guardF {b : Bool} (h1 : b = false → W (U P pol C L fn fr k .normal t H) Q) (h2 : b = true → W (U P pol C L fn fr k' .normal (putT t d nov) H) Q) : W (UG P pol C L fn fr (some (.bool b)) false k k' d t H) Q := W.guard h1 h2
theorem W.ul {X : Out} (h : W X fun e t H => W (U P pol C L fn fr k e t H) Q) : W (UL P pol C L fn fr X k) Q := by
  cases X with
  | none => exact h.elim
  | some x => exact h
theorem W.uc {X : Option (Rt × Heap)} {v : V} {H' : Heap} (h : X = some (.ret v, H')) (h2 : W (U P pol C L fn fr k .normal (putT t d v) H') Q) : W (UC P pol C L fn fr X d k k' t) Q := by
  subst h; exact h2

/-- A loop goes round while what is at its head holds, and what it measures falls. -/
theorem W.loop {α : Type} {b : Code} (I : α → List V → Heap → Prop) (m : α → Nat)
    (step : ∀ a t H, I a t H → ∃ t1 H1, forget pol fn fr (fstRegion b) t H = some (t1, H1) ∧ W (U P pol C loopW fn fr [.code b] .normal t1 H1) fun e t2 H2 => match e with
      | .normal => ∃ a', I a' t2 H2 ∧ m a' < m a
      | e => Q e t2 H2) (a : α) (h : I a t H) : W (loopW (round P pol C loopW fn fr b) t H) Q := by
  induction hn : m a using Nat.strongRecOn generalizing a t H with
  | ind n ih =>
    subst hn
    obtain ⟨t1, H1, h1, h2⟩ := step a t H h
    obtain ⟨e, t2, H2, h3, h4⟩ := h2.out
    have hr : round P pol C loopW fn fr b t H = some (e, t2, H2) := by
      simp only [round, h1]
      rw [u_start]; exact h3
    rw [loopW_eq, hr]
    cases e with
    | normal =>
      obtain ⟨a', h5, h6⟩ := h4
      exact ih _ h6 a' h5 rfl
    | exit i => exact h4
    | ret => exact h4
    | panic v => exact h4

/-- The same where nothing of the heap is forgotten: a state at the head, by data. -/
theorem W.loopS {α : Type} {b : Code} {kt : List Nat} (hk : pol.keep fn (fstRegion b) = some (kt, [])) (S : α → List V) (HS : α → Heap) (I : α → Prop) (m : α → Nat)
    (step : ∀ a, I a → W (U P pol C loopW fn fr [.code b] .normal (S a) (HS a)) fun e t2 H2 => match e with
      | .normal => ∃ a', maskT kt t2 0 = S a' ∧ H2 = HS a' ∧ I a' ∧ m a' < m a
      | e => Q e t2 H2) (a : α) (h : I a) (ht : maskT kt t 0 = S a) (hH : H = HS a) : W (loopW (round P pol C loopW fn fr b) t H) Q := by
  refine W.loop (Q := Q) (fun a t H => maskT kt t 0 = S a ∧ H = HS a ∧ I a) m ?_ a ⟨ht, hH, h⟩
  rintro a t H ⟨h1, h2, h3⟩
  refine ⟨S a, HS a, by rw [forget_keep hk, h1, h2], (step a h3).mono ?_⟩
  intro e t2 H2 h4
  cases e with
  | normal => obtain ⟨a', q1, q2, q3, q4⟩ := h4; exact ⟨a', ⟨q1, q2, q3⟩, q4⟩
  | exit i => exact h4
  | ret => exact h4
  | panic v => exact h4

/-- What is to hold at the end of a body. -/
def End (P : Program) (F : Func) (b : Nat) (R : Rt → Heap → Prop) (e : Ex) (t : List V) (H : Heap) : Prop := match e with
  | .normal | .ret => ∃ v, resV P F t H = some v ∧ R (.ret v) (popF b v H)
  | .panic v => R (.pan v) (popF b v H)
  | .exit _ => False
theorem End.ret {F : Func} {b : Nat} {R : Rt → Heap → Prop} {v : V} (h : resV P F t H = some v) (h2 : R (.ret v) (popF b v H)) : End P F b R .ret t H := ⟨v, h, h2⟩
theorem End.normal {F : Func} {b : Nat} {R : Rt → Heap → Prop} {v : V} (h : resV P F t H = some v) (h2 : R (.ret v) (popF b v H)) : End P F b R .normal t H := ⟨v, h, h2⟩

/-- A call comes to this. -/
def CW (P : Program) (pol : Pol) (f : FuncId) (args : List V) (H : Heap) (R : Rt → Heap → Prop) : Prop := ∃ r H', callW P pol f args H = some (r, H') ∧ R r H'
theorem CW.mono {f : FuncId} {args : List V} {R R' : Rt → Heap → Prop} (h : CW P pol f args H R) (k : ∀ r H', R r H' → R' r H') : CW P pol f args H R' := by
  obtain ⟨r, H', h1, h2⟩ := h; exact ⟨r, H', h1, k _ _ h2⟩

theorem cw_of {f : FuncId} {F : Func} {c : Code} {args : List V} {R : Rt → Heap → Prop} (hF : P.funcs[f]? = some F) (hc : F.body = some c)
    (h : W (U P pol (callW P pol) loopW f H.length [.code c] .normal (args ++ List.replicate (F.ntmps - args.length) .bad) (H ++ [[]])) (End P F H.length R)) : CW P pol f args H R := by
  obtain ⟨e, t', H', h1, h2⟩ := h.out
  have key : ∀ r, ending P F H.length (some (e, t', H')) = some r → callW P pol f args H = some r := fun r hr => call_of hF hc (by rw [h1]; exact hr)
  cases e with
  | normal =>
    obtain ⟨v, h3, h4⟩ := h2
    exact ⟨_, _, key (.ret v, popF H.length v H') (by simp only [ending, h3]), h4⟩
  | ret =>
    obtain ⟨v, h3, h4⟩ := h2
    exact ⟨_, _, key (.ret v, popF H.length v H') (by simp only [ending, h3]), h4⟩
  | exit i => exact h2.elim
  | panic v => exact ⟨_, _, key (.pan v, popF H.length v H') rfl, h2⟩

/-- A call on the empty heap, its result frozen. -/
def Fz (P : Program) (pol : Pol) (f : FuncId) (args : List V) (R : V → Prop) : Prop := ∃ v H' v', callW P pol f args [] = some (.ret v, H') ∧ frz (hget H') depth v = some v' ∧ R v'
theorem Fz.mono {f : FuncId} {args : List V} {R R' : V → Prop} (h : Fz P pol f args R) (k : ∀ v, R v → R' v) : Fz P pol f args R' := by
  obtain ⟨v, H', v', h1, h2, h3⟩ := h; exact ⟨v, H', v', h1, h2, k _ h3⟩
theorem Fz.of_cw {f : FuncId} {args : List V} {R : V → Prop} (h : CW P pol f args [] fun r H' => ∃ v, r = .ret v ∧ ∃ v', frz (hget H') depth v = some v' ∧ R v') : Fz P pol f args R := by
  obtain ⟨r, H', h1, v, rfl, v', h2, h3⟩ := h; exact ⟨v, H', v', h1, h2, h3⟩

/-- The call of such a function, wherever it stands. -/
theorem Fz.op' {f : FuncId} {args args' : List V} {R : V → Prop} (h : Fz P pol f args' R) (hp : pol.prim f = none) (ha : frzL (frz (fun _ _ => none) depth) args = some args') :
    ∃ v, R v ∧ ∀ (fn fr : Nat) (d : Option Nat) (H : Heap), pol.pure fn f = true → callOp pol (callW P pol) fn fr d f args H = some (.ret v, H) := by
  obtain ⟨v, H', v', h1, h2, h3⟩ := h
  exact ⟨v', h3, fun fn fr d H hq => callOp_pure hp hq ha h1 h2⟩
theorem Fz.op {f : FuncId} {args : List V} {R : V → Prop} (h : Fz P pol f args R) (hp : pol.prim f = none) (ha : frzL (frz (fun _ _ => none) depth) args = some args) :
    ∃ v, R v ∧ ∀ (fn fr : Nat) (d : Option Nat) (H : Heap), pol.pure fn f = true → callOp pol (callW P pol) fn fr d f args H = some (.ret v, H) := by
  obtain ⟨v, H', v', h1, h2, h3⟩ := h
  exact ⟨v', h3, fun fn fr d H hq => callOp_pure hp hq ha h1 h2⟩
/-- The call of one that works on the caller's heap. -/
theorem callOp_in {f : FuncId} {args : List V} {r : Rt × Heap} (hp : pol.prim f = none) (hq : pol.pure fn f = false) (ht : pol.thin fn f = false) (h : callW P pol f args H = some r) : callOp pol (callW P pol) fn fr d f args H = some r := by
  simp only [callOp, hp, hq, thinArgs, ht, Bool.false_eq_true, if_false, h]
/-- The same, its arguments frozen. -/
theorem callOp_thin {f : FuncId} {args args' : List V} {r : Rt × Heap} (hp : pol.prim f = none) (hq : pol.pure fn f = false) (ht : pol.thin fn f = true) (ha : frzL (frz (fun _ _ => none) depth) args = some args') (h : callW P pol f args' H = some r) :
    callOp pol (callW P pol) fn fr d f args H = some r := by
  simp only [callOp, hp, hq, thinArgs, ht, if_true, ha, Bool.false_eq_true, if_false, h]
end

/-! ### A value that names no object freezes alike everywhere -/
theorem or_false_left {a b : Bool} (h : (a || b) = false) : a = false := by cases a <;> simp_all
theorem or_false_right {a b : Bool} (h : (a || b) = false) : b = false := by cases a <;> simp_all
theorem frz_noRefs (g g' : Get) : ∀ (n : Nat), (∀ v : V, v.refs (fun _ _ => true) = false → frz g n v = frz g' n v)
  | 0 => fun _ _ => rfl
  | n + 1 => by
    have ih := frz_noRefs g g' n
    have ihL : ∀ l : List V, refsL (fun _ _ => true) l = false → frzL (frz g n) l = frzL (frz g' n) l := by
      intro l
      induction l with
      | nil => intro _; rfl
      | cons x l ihl =>
        intro h
        simp only [refsL, Bool.or_eq_false_iff] at h
        simp only [frzL, ih x h.1, ihl h.2]
    intro v h
    cases v with
    | ptr => simp [V.refs] at h
    | gslice => simp [V.refs] at h
    | mslice => simp [V.refs] at h
    | map => simp [V.refs] at h
    | func fn a b =>
      simp only [V.refs, Bool.or_eq_false_iff] at h
      simp only [frz, ihL a h.1, ihL b h.2]
    | face t x => simp only [V.refs] at h; simp only [frz, ih x h]
    | agg cs => simp only [V.refs] at h; simp only [frz, ihL cs h]
    | tuple cs => simp only [V.refs] at h; simp only [frz, ihL cs h]
    | _ => rfl

theorem refs_ext {p q : Nat → Nat → Bool} (h : ∀ a b, p a b = q a b) (v : V) : v.refs p = v.refs q := by
  have : p = q := by funext a b; exact h a b
  rw [this]

/-- Behind a body on the empty heap. -/
theorem frz_popF (v : V) (H : Heap) (n : Nat) : frz (hget (popF 0 v H)) n v = frz (hget H) n v := by
  unfold popF
  split
  · rename_i h
    simp only [Bool.and_eq_true, Bool.not_eq_true'] at h
    apply frz_noRefs
    rw [← h.1]
    exact refs_ext (fun a b => by simp) v
  · rfl

section
variable {P : Program} {pol : Pol}
/-- What is to hold at the end of a body on the empty heap. -/
def EndZ (P : Program) (F : Func) (R : V → Prop) (e : Ex) (t : List V) (H : Heap) : Prop := match e with
  | .normal | .ret => ∃ v v', resV P F t H = some v ∧ frz (hget H) depth v = some v' ∧ R v'
  | _ => False
theorem EndZ.ret {F : Func} {R : V → Prop} {t : List V} {H : Heap} {v v' : V} (h : resV P F t H = some v) (h1 : frz (hget H) depth v = some v') (h2 : R v') : EndZ P F R .ret t H := ⟨v, v', h, h1, h2⟩
theorem EndZ.normal {F : Func} {R : V → Prop} {t : List V} {H : Heap} {v v' : V} (h : resV P F t H = some v) (h1 : frz (hget H) depth v = some v') (h2 : R v') : EndZ P F R .normal t H := ⟨v, v', h, h1, h2⟩
theorem fz_of {f : FuncId} {F : Func} {c : Code} {args : List V} {R : V → Prop} (hF : P.funcs[f]? = some F) (hc : F.body = some c)
    (h : W (U P pol (callW P pol) loopW f 0 [.code c] .normal (args ++ List.replicate (F.ntmps - args.length) .bad) [[]]) (EndZ P F R)) : Fz P pol f args R := by
  apply Fz.of_cw
  refine cw_of hF hc (h.mono ?_)
  intro e t H h
  cases e with
  | normal => obtain ⟨v, v', h1, h2, h3⟩ := h; exact ⟨v, h1, v, rfl, v', by rw [← h2]; exact frz_popF v H depth, h3⟩
  | ret => obtain ⟨v, v', h1, h2, h3⟩ := h; exact ⟨v, h1, v, rfl, v', by rw [← h2]; exact frz_popF v H depth, h3⟩
  | exit i => exact h.elim
  | panic v => exact h.elim
end

/-! ### Slices that no longer change -/

/-- A slice of n elements of esz cells each. -/
def IsSl (esz : Nat) (v : V) (cells : List V) (n : Nat) : Prop := cells.length = n * esz ∧ ((v = .nilslice ∧ n = 0) ∨ ∃ full, v = .islice cells n full)

theorem IsSl.mk {esz : Nat} {cells : List V} {n : Nat} {full : Bool} (h : cells.length = n * esz) : IsSl esz (.islice cells n full) cells n := ⟨h, .inr ⟨full, rfl⟩⟩
theorem IsSl.nil {esz : Nat} : IsSl esz .nilslice [] 0 := ⟨by simp, .inl ⟨rfl, rfl⟩⟩

section
variable {P : Program} {esz n : Nat} {v : V} {cells : List V} {u e : TypeId} {g : Get} {k : IntKind}
theorem IsSl.frz (h : IsSl esz v cells n) (m : Nat) : AM.frz g (m + 1) v = some v := by
  obtain ⟨_, ⟨rfl, _⟩ | ⟨f, rfl⟩⟩ := h <;> rfl
theorem IsSl.len (hu : P.underlying u = some (.slice e)) (h : IsSl esz v cells n) : ∀ g, lenV P g u v = some (.int .i64 n) := by
  intro g
  obtain ⟨_, ⟨rfl, rfl⟩ | ⟨f, rfl⟩⟩ := h
  · exact ln_nil hu
  · exact ln_islice hu _ _ _
theorem IsSl.at (hu : P.underlying u = some (.slice e)) (hs : sz P e = some esz) (he : 0 < esz) (h : IsSl esz v cells n) {i : Int} (h0 : 0 ≤ i) (hi : i < n) : indexAddrV P u v (.int k i) = some (.iptr cells (i.toNat * esz)) := by
  obtain ⟨hl, ⟨rfl, rfl⟩ | ⟨f, rfl⟩⟩ := h
  · omega
  · rw [ia_of hu hs, if_pos ⟨h0, hi, hl, he⟩]
theorem IsSl.sc (h : IsSl esz v cells n) : sliceCells g esz v = some (cells, n) := by
  obtain ⟨hl, ⟨rfl, rfl⟩ | ⟨f, rfl⟩⟩ := h
  · have : cells = [] := List.eq_nil_of_length_eq_zero (by simpa using hl)
    subst this; rfl
  · simp [sliceCells, hl]
theorem IsSl.noRefs (h : IsSl esz v cells n) (p : Nat → Nat → Bool) : v.refs p = false := by
  obtain ⟨_, ⟨rfl, _⟩ | ⟨f, rfl⟩⟩ := h <;> rfl
theorem IsSl.pure (h : IsSl esz v cells n) : v.pure = true := by
  obtain ⟨_, ⟨rfl, _⟩ | ⟨f, rfl⟩⟩ := h <;> rfl
end

theorem cutI_of {cells : List V} {n esz : Nat} {full : Bool} (hl : cells.length = n * esz) (lo hi : Option Int) (h0 : 0 ≤ lo.getD 0) (h1 : lo.getD 0 ≤ hi.getD n) (h2 : hi.getD n ≤ n) :
    ∃ f, cutI cells n full esz lo hi none = some (.islice ((cells.drop ((lo.getD 0).toNat * esz)).take (((hi.getD n).toNat - (lo.getD 0).toNat) * esz)) ((hi.getD n).toNat - (lo.getD 0).toNat) f) := by
  refine ⟨(full || (none : Option Int).isSome) && ((n : Int).toNat == (hi.getD n).toNat), ?_⟩
  simp only [cutI, hl, if_true, cuts, Option.getD_none]
  rw [if_pos ⟨by omega, by omega, by omega, by omega, h0, h1, by simp⟩]

theorem IsSl.cut {P : Program} {esz n : Nat} {v : V} {cells : List V} {u e : TypeId} (hu : P.underlying u = some (.slice e)) (hs : sz P e = some esz) (h : IsSl esz v cells n) (lo hi : Option Int)
    (h0 : 0 ≤ lo.getD 0) (h1 : lo.getD 0 ≤ hi.getD n) (h2 : hi.getD n ≤ n) :
    ∃ w, (∀ g, sliceV P g u v (lo.map (.int .i64)) (hi.map (.int .i64)) none = some w) ∧ IsSl esz w ((cells.drop ((lo.getD 0).toNat * esz)).take (((hi.getD n).toNat - (lo.getD 0).toNat) * esz)) ((hi.getD n).toNat - (lo.getD 0).toNat) := by
  have ol : optInt (lo.map (.int .i64)) = some lo := by cases lo <;> rfl
  have oh : optInt (hi.map (.int .i64)) = some hi := by cases hi <;> rfl
  have on : optInt none = some none := rfl
  obtain ⟨hl, ⟨rfl, rfl⟩ | ⟨f, rfl⟩⟩ := h
  · refine ⟨.nilslice, fun g => ?_, ?_⟩
    · simp only [sliceV, ol, oh, on, hu, hs, cuts]
      rw [if_pos ⟨by simp, by simp, by simp only [Int.natCast_zero] at *; omega, by simp at *; omega, h0, h1, by simp⟩]
    · have : cells = [] := List.eq_nil_of_length_eq_zero (by simpa using hl)
      subst this
      have e : (hi.getD (0 : Nat)).toNat - (lo.getD 0).toNat = 0 := by omega
      rw [e]
      exact ⟨by simp, .inl ⟨rfl, rfl⟩⟩
  · obtain ⟨f', e⟩ := cutI_of (full := f) hl lo hi h0 h1 h2
    refine ⟨_, fun g => ?_, IsSl.mk (full := f') ?_⟩
    · simp only [sliceV, ol, oh, on, hu, hs]
      exact e
    · rw [List.length_take, List.length_drop, hl, ← Nat.sub_mul]
      apply Nat.min_eq_left
      apply Nat.mul_le_mul_right
      omega

/-- A slice of bytes. -/
def IsBytes (v : V) (l : List UInt8) : Prop := IsSl 1 v (ofBytes l) l.length
theorem ofBytes_length (l : List UInt8) : (ofBytes l).length = l.length := by simp [ofBytes]
theorem ofBytes_get (l : List UInt8) (i : Nat) : (ofBytes l)[i]? = (l[i]?).map fun b => .int .u8 b.toNat := by simp [ofBytes]
theorem ofBytes_take (l : List UInt8) (n : Nat) : (ofBytes l).take n = ofBytes (l.take n) := by simp [ofBytes]
theorem ofBytes_drop (l : List UInt8) (n : Nat) : (ofBytes l).drop n = ofBytes (l.drop n) := by simp [ofBytes]
theorem ofBytes_append (l m : List UInt8) : ofBytes (l ++ m) = ofBytes l ++ ofBytes m := by simp [ofBytes]
theorem IsBytes.mk (l : List UInt8) (full : Bool) : IsBytes (.islice (ofBytes l) l.length full) l := IsSl.mk (by simp [ofBytes_length])
theorem IsBytes.nil : IsBytes .nilslice [] := IsSl.nil
theorem bytesOf_ofBytes : ∀ l : List UInt8, AM.bytesOf (ofBytes l) = some l
  | [] => rfl
  | b :: l => by
    have := bytesOf_ofBytes l
    simp only [ofBytes, List.map_cons, AM.bytesOf] at this ⊢
    rw [this]
    simp
theorem IsBytes.bytesV {v : V} {l : List UInt8} {g : Get} (h : IsBytes v l) : bytesV g v = some l := by
  have hc := IsSl.sc (g := g) h
  obtain ⟨_, ⟨rfl, _⟩ | ⟨f, rfl⟩⟩ := h <;> simp only [AM.bytesV, hc, bytesOf_ofBytes]

theorem IsBytes.cut {P : Program} {v : V} {l : List UInt8} {u e : TypeId} (hu : P.underlying u = some (.slice e)) (hs : sz P e = some 1) (h : IsBytes v l) (lo hi : Option Int)
    (h0 : 0 ≤ lo.getD 0) (h1 : lo.getD 0 ≤ hi.getD l.length) (h2 : hi.getD l.length ≤ l.length) :
    ∃ w, (∀ g, sliceV P g u v (lo.map (.int .i64)) (hi.map (.int .i64)) none = some w) ∧ IsBytes w ((l.drop (lo.getD 0).toNat).take ((hi.getD l.length).toNat - (lo.getD 0).toNat)) := by
  obtain ⟨w, h3, h4⟩ := IsSl.cut hu hs h lo hi h0 h1 h2
  refine ⟨w, h3, ?_⟩
  simp only [Nat.mul_one, ofBytes_drop, ofBytes_take] at h4
  unfold IsBytes
  rwa [show ((l.drop (lo.getD 0).toNat).take ((hi.getD l.length).toNat - (lo.getD 0).toNat)).length = (hi.getD l.length).toNat - (lo.getD 0).toNat by rw [List.length_take, List.length_drop]; omega]

/-- A slice of numbers. -/
def ofInts (l : List Int) : List V := l.map fun i => .int .i64 i
def IsInts (v : V) (l : List Int) : Prop := IsSl 1 v (ofInts l) l.length
theorem ofInts_length (l : List Int) : (ofInts l).length = l.length := by simp [ofInts]
theorem ofInts_get (l : List Int) (i : Nat) : (ofInts l)[i]? = (l[i]?).map fun b => .int .i64 b := by simp [ofInts]
theorem ofInts_append (l m : List Int) : ofInts (l ++ m) = ofInts l ++ ofInts m := by simp [ofInts]
theorem IsInts.mk (l : List Int) (full : Bool) : IsInts (.islice (ofInts l) l.length full) l := IsSl.mk (by simp [ofInts_length])
theorem IsInts.nil : IsInts .nilslice [] := IsSl.nil

theorem pureL_ofBytes (l : List UInt8) : pureL (ofBytes l) = true := by
  induction l with
  | nil => rfl
  | cons b l ih => simp only [ofBytes, List.map_cons, pureL, V.pure, Bool.true_and] at ih ⊢; exact ih
theorem pureL_ofInts (l : List Int) : pureL (ofInts l) = true := by
  induction l with
  | nil => rfl
  | cons b l ih => simp only [ofInts, List.map_cons, pureL, V.pure, Bool.true_and] at ih ⊢; exact ih

end Go.AM
