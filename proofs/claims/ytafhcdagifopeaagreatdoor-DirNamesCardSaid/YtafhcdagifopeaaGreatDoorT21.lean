/- This file holds in one the texts An30, An31, An32; each says at its head what it proves. -/
import Derived.Test.YtafhcdagifopeaaGreatDoorT20
set_option linter.unusedSimpArgs false
set_option linter.unusedVariables false
section
/- The abstract machine, part 30: what holds of an outcome (W), of a call (CW), of a call on an empty heap (Fz); rules for branches, loops and calls. -/
namespace Go.AM

def W (X : Out) (Q : Ex → List V → Heap → Prop) : Prop := match X with
  | some (e, t, H) => Q e t H
  | none => False

theorem W.mono {X : Out} {Q Q' : Ex → List V → Heap → Prop} (h : W X Q) (k : ∀ e t H, Q e t H → Q' e t H) : W X Q' := by
  cases X with
  | none => exact h
  | some x => exact k _ _ _ h
theorem W.out {X : Out} {Q : Ex → List V → Heap → Prop} (h : W X Q) : ∃ e t H, X = some (e, t, H) ∧ Q e t H := by
  cases X with
  | none => exact h.elim
  | some x => exact ⟨_, _, _, rfl, h⟩

section
variable {P : Program} {pol : Pol} {C : Call} {L : MBody → Body} {fn fr : Nat} {t : List V} {H : Heap} {d : Option Nat} {k k' : List It} {Q : Ex → List V → Heap → Prop}

theorem W.done {e : Ex} (h : Q e t H) : W (some (e, t, H)) Q := h
theorem W.ite {b : Bool} (h1 : b = true → W (U P pol C L fn fr k .normal t H) Q) (h2 : b = false → W (U P pol C L fn fr k' .normal t H) Q) : W (UI P pol C L fn fr (.bool b) k k' t H) Q := by
  cases b with
  | true => exact h1 rfl
  | false => exact h2 rfl
theorem W.guard {b want : Bool} (h1 : b = want → W (U P pol C L fn fr k .normal t H) Q) (h2 : b = (!want) → W (U P pol C L fn fr k' .normal (putT t d nov) H) Q) : W (UG P pol C L fn fr (some (.bool b)) want k k' d t H) Q := by
  unfold UG
  by_cases h : b = want
  · simp only [h, if_true]; exact h1 h
  · simp only [h, if_false]; exact h2 (by cases b <;> cases want <;> simp_all)
theorem W.ul {X : Out} (h : W X fun e t H => W (U P pol C L fn fr k e t H) Q) : W (UL P pol C L fn fr X k) Q := by
  cases X with
  | none => exact h.elim
  | some x => exact h
theorem W.loop {α : Type} {b : Code} (I : α → List V → Heap → Prop) (m : α → Nat)
    (step : ∀ a t H, I a t H → ∃ t1 H1, forget pol fn fr (fstRegion b) t H = some (t1, H1) ∧ W (U P pol C loopW fn fr [.code b] .normal t1 H1) fun e t2 H2 => match e with
      | .normal => ∃ a', I a' t2 H2 ∧ m a' < m a
      | e => Q e t2 H2) (a : α) (h : I a t H) (hn : headNext b = none := by rfl) : W (loopW (round P pol C loopW fn fr b) t H) Q := by
  induction hm : m a using Nat.strongRecOn generalizing a t H with
  | ind n ih =>
    subst hm
    obtain ⟨t1, H1, h1, h2⟩ := step a t H h
    obtain ⟨e, t2, H2, h3, h4⟩ := h2.out
    rw [loopW_one ((round_eq hn h1).trans (by rw [h3]))]
    cases e with
    | normal =>
      obtain ⟨a', h5, h6⟩ := h4
      exact ih _ h6 a' h5 rfl
    | exit i => exact h4
    | ret => exact h4
    | panic v => exact h4

theorem W.loopS {α : Type} {b : Code} {kt : List Nat} (hk : pol.keep fn (fstRegion b) = some (kt, [])) (S : α → List V) (HS : α → Heap) (I : α → Prop) (m : α → Nat)
    (step : ∀ a, I a → W (U P pol C loopW fn fr [.code b] .normal (S a) (HS a)) fun e t2 H2 => match e with
      | .normal => ∃ a', maskT kt t2 0 = S a' ∧ H2 = HS a' ∧ I a' ∧ m a' < m a
      | e => Q e t2 H2) (a : α) (h : I a) (ht : maskT kt t 0 = S a) (hH : H = HS a) (hn : headNext b = none := by rfl) (hm : pol.move fn (fstRegion b) = none := by rfl) : W (loopW (round P pol C loopW fn fr b) t H) Q := by
  refine W.loop (Q := Q) (fun a t H => maskT kt t 0 = S a ∧ H = HS a ∧ I a) m ?_ a ⟨ht, hH, h⟩ hn
  rintro a t H ⟨h1, h2, h3⟩
  refine ⟨S a, HS a, by rw [forget_keep hk hm, h1, h2], (step a h3).mono ?_⟩
  intro e t2 H2 h4
  cases e with
  | normal => obtain ⟨a', q1, q2, q3, q4⟩ := h4; exact ⟨a', ⟨q1, q2, q3⟩, q4⟩
  | exit i => exact h4
  | ret => exact h4
  | panic v => exact h4

def End (P : Program) (F : Func) (b : Nat) (R : Rt → Heap → Prop) (e : Ex) (t : List V) (H : Heap) : Prop := match e with
  | .normal | .ret => ∃ v, resV P F t H = some v ∧ R (.ret v) (popF b v H)
  | .panic v => R (.pan v) (popF b v H)
  | .exit _ => False
theorem End.ret {F : Func} {b : Nat} {R : Rt → Heap → Prop} {v : V} (h : resV P F t H = some v) (h2 : R (.ret v) (popF b v H)) : End P F b R .ret t H := ⟨v, h, h2⟩
theorem End.normal {F : Func} {b : Nat} {R : Rt → Heap → Prop} {v : V} (h : resV P F t H = some v) (h2 : R (.ret v) (popF b v H)) : End P F b R .normal t H := ⟨v, h, h2⟩

def CW (P : Program) (pol : Pol) (f : FuncId) (args : List V) (H : Heap) (R : Rt → Heap → Prop) : Prop := ∃ r H', callW P pol f args H = some (r, H') ∧ R r H'
theorem CW.mono {f : FuncId} {args : List V} {R R' : Rt → Heap → Prop} (h : CW P pol f args H R) (k : ∀ r H', R r H' → R' r H') : CW P pol f args H R' := by
  obtain ⟨r, H', h1, h2⟩ := h; exact ⟨r, H', h1, k _ _ h2⟩

theorem cw_of {f : FuncId} {F : Func} {c : Code} {args : List V} {R : Rt → Heap → Prop} (hF : P.funcs[f]? = some F) (hc : F.body = some c)
    (h : W (U P pol (callW P pol) loopW f H.length [.code c] .normal (args ++ List.replicate (F.ntmps - args.length) .bad) (H ++ [[]])) (End P F H.length R)) (hs : pol.settle f = [] := by rfl) : CW P pol f args H R := by
  obtain ⟨e, t', H', h1, h2⟩ := h.out
  have key : ∀ r, ending P F H.length (some (e, t', H')) = some r → callW P pol f args H = some r := fun r hr => call_of hF hc (by rw [h1]; exact hr) hs
  cases e with
  | normal =>
    obtain ⟨v, h3, h4⟩ := h2
    exact ⟨_, _, key (.ret v, popF H.length v H') (by simp only [ending, h3]), h4⟩
  | ret =>
    obtain ⟨v, h3, h4⟩ := h2
    exact ⟨_, _, key (.ret v, popF H.length v H') (by simp only [ending, h3]), h4⟩
  | exit i => exact h2.elim
  | panic v => exact ⟨_, _, key (.pan v, popF H.length v H') rfl, h2⟩

def Fz (P : Program) (pol : Pol) (f : FuncId) (args : List V) (R : V → Prop) : Prop := ∃ v H' v', callW P pol f args [] = some (.ret v, H') ∧ frz (hget H') depth v = some v' ∧ R v'
theorem Fz.mono {f : FuncId} {args : List V} {R R' : V → Prop} (h : Fz P pol f args R) (k : ∀ v, R v → R' v) : Fz P pol f args R' := by
  obtain ⟨v, H', v', h1, h2, h3⟩ := h; exact ⟨v, H', v', h1, h2, k _ h3⟩
theorem Fz.of_cw {f : FuncId} {args : List V} {R : V → Prop} (h : CW P pol f args [] fun r H' => ∃ v, r = .ret v ∧ ∃ v', frz (hget H') depth v = some v' ∧ R v') : Fz P pol f args R := by
  obtain ⟨r, H', h1, v, rfl, v', h2, h3⟩ := h; exact ⟨v, H', v', h1, h2, h3⟩

theorem Fz.op' {f : FuncId} {args args' : List V} {R : V → Prop} (h : Fz P pol f args' R) (hp : pol.prim f = none) (ha : frzL (frz (fun _ _ => none) depth) args = some args') :
    ∃ v, R v ∧ ∀ (fn fr : Nat) (d : Option Nat) (H : Heap), pol.pure fn f = true → callOp pol (callW P pol) fn fr d f args H = some (.ret v, H) := by
  obtain ⟨v, H', v', h1, h2, h3⟩ := h
  exact ⟨v', h3, fun fn fr d H hq => callOp_pure hp hq ha h1 h2⟩
theorem Fz.op {f : FuncId} {args : List V} {R : V → Prop} (h : Fz P pol f args R) (hp : pol.prim f = none) (ha : frzL (frz (fun _ _ => none) depth) args = some args) :
    ∃ v, R v ∧ ∀ (fn fr : Nat) (d : Option Nat) (H : Heap), pol.pure fn f = true → callOp pol (callW P pol) fn fr d f args H = some (.ret v, H) := by
  obtain ⟨v, H', v', h1, h2, h3⟩ := h
  exact ⟨v', h3, fun fn fr d H hq => callOp_pure hp hq ha h1 h2⟩
theorem callOp_in {f : FuncId} {args : List V} {r : Rt × Heap} (hp : pol.prim f = none) (hq : pol.pure fn f = false) (ht : pol.thin fn f = false) (h : callW P pol f args H = some r) (hl : pol.lift fn f = false := by rfl) (hk : pol.look fn f = false := by rfl) : callOp pol (callW P pol) fn fr d f args H = some r := by
  simp only [callOp, hp, hq, hl, hk, thinArgs, ht, Bool.false_eq_true, if_false, h]
theorem callOp_thin {f : FuncId} {args args' : List V} {r : Rt × Heap} (hp : pol.prim f = none) (hq : pol.pure fn f = false) (ht : pol.thin fn f = true) (ha : frzL (frz (fun _ _ => none) depth) args = some args') (h : callW P pol f args' H = some r) (hl : pol.lift fn f = false := by rfl) (hk : pol.look fn f = false := by rfl) :
    callOp pol (callW P pol) fn fr d f args H = some r := by
  simp only [callOp, hp, hq, hl, hk, thinArgs, ht, if_true, ha, Bool.false_eq_true, if_false, h]
end

/-! ### A value that names no object freezes alike everywhere -/
theorem frz_noRefs (g g' : Get) : ∀ (n : Nat), (∀ v : V, v.refs (fun _ _ => true) = false → frz g n v = frz g' n v)
  | 0 => fun _ _ => rfl
  | n + 1 => by
    have ih := frz_noRefs g g' n
    have ihL : ∀ l : List V, refsL (fun _ _ => true) l = false → frzL (frz g n) l = frzL (frz g' n) l := by
      intro l
      induction l with
      | nil => intro _; rfl
      | cons x l ihl =>
        intro h
        simp only [refsL, Bool.or_eq_false_iff] at h
        simp only [frzL, ih x h.1, ihl h.2]
    intro v h
    cases v with
    | ptr => simp [V.refs] at h
    | gslice => simp [V.refs] at h
    | mslice => simp [V.refs] at h
    | map => simp [V.refs] at h
    | func fn a b =>
      simp only [V.refs, Bool.or_eq_false_iff] at h
      simp only [frz, ihL a h.1, ihL b h.2]
    | face t x => simp only [V.refs] at h; simp only [frz, ih x h]
    | agg cs => simp only [V.refs] at h; simp only [frz, ihL cs h]
    | tuple cs => simp only [V.refs] at h; simp only [frz, ihL cs h]
    | rptr cs o => simp only [V.refs] at h; simp only [frz, ihL cs h]
    | _ => rfl

theorem refs_ext {p q : Nat → Nat → Bool} (h : ∀ a b, p a b = q a b) (v : V) : v.refs p = v.refs q := by
  have : p = q := by funext a b; exact h a b
  rw [this]

theorem frz_popF (v : V) (H : Heap) (n : Nat) : frz (hget (popF 0 v H)) n v = frz (hget H) n v := by
  unfold popF
  split
  · rename_i h
    simp only [Bool.and_eq_true, Bool.not_eq_true'] at h
    apply frz_noRefs
    rw [← h.1]
    exact refs_ext (fun a b => by simp) v
  · rfl

section
variable {P : Program} {pol : Pol}
def EndZ (P : Program) (F : Func) (R : V → Prop) (e : Ex) (t : List V) (H : Heap) : Prop := match e with
  | .normal | .ret => ∃ v v', resV P F t H = some v ∧ frz (hget H) depth v = some v' ∧ R v'
  | _ => False
theorem EndZ.ret {F : Func} {R : V → Prop} {t : List V} {H : Heap} {v v' : V} (h : resV P F t H = some v) (h1 : frz (hget H) depth v = some v') (h2 : R v') : EndZ P F R .ret t H := ⟨v, v', h, h1, h2⟩
theorem EndZ.normal {F : Func} {R : V → Prop} {t : List V} {H : Heap} {v v' : V} (h : resV P F t H = some v) (h1 : frz (hget H) depth v = some v') (h2 : R v') : EndZ P F R .normal t H := ⟨v, v', h, h1, h2⟩
theorem fz_of {f : FuncId} {F : Func} {c : Code} {args : List V} {R : V → Prop} (hF : P.funcs[f]? = some F) (hc : F.body = some c)
    (h : W (U P pol (callW P pol) loopW f 0 [.code c] .normal (args ++ List.replicate (F.ntmps - args.length) .bad) [[]]) (EndZ P F R)) (hs : pol.settle f = [] := by rfl) : Fz P pol f args R := by
  apply Fz.of_cw
  refine cw_of hF hc (h.mono ?_) hs
  intro e t H h
  cases e with
  | normal => obtain ⟨v, v', h1, h2, h3⟩ := h; exact ⟨v, h1, v, rfl, v', by rw [← h2]; exact frz_popF v H depth, h3⟩
  | ret => obtain ⟨v, v', h1, h2, h3⟩ := h; exact ⟨v, h1, v, rfl, v', by rw [← h2]; exact frz_popF v H depth, h3⟩
  | exit i => exact h.elim
  | panic v => exact h.elim
end

/-! ### Slices that no longer change -/

def IsSl (esz : Nat) (v : V) (cells : List V) (n : Nat) : Prop := cells.length = n * esz ∧ ((v = .nilslice ∧ n = 0) ∨ ∃ full, v = .islice cells n full)

theorem IsSl.mk {esz : Nat} {cells : List V} {n : Nat} {full : Bool} (h : cells.length = n * esz) : IsSl esz (.islice cells n full) cells n := ⟨h, .inr ⟨full, rfl⟩⟩
theorem IsSl.nil {esz : Nat} : IsSl esz .nilslice [] 0 := ⟨by simp, .inl ⟨rfl, rfl⟩⟩

section
variable {P : Program} {esz n : Nat} {v : V} {cells : List V} {u e : TypeId} {g : Get} {k : IntKind}
theorem IsSl.frz (h : IsSl esz v cells n) (m : Nat) : AM.frz g (m + 1) v = some v := by
  obtain ⟨_, ⟨rfl, _⟩ | ⟨f, rfl⟩⟩ := h <;> rfl
theorem IsSl.len (hu : P.underlying u = some (.slice e)) (h : IsSl esz v cells n) : ∀ g, lenV P g u v = some (.int .i64 n) := by
  intro g
  obtain ⟨_, ⟨rfl, rfl⟩ | ⟨f, rfl⟩⟩ := h
  · exact ln_nil hu
  · exact ln_islice hu _ _ _
theorem IsSl.at (hu : P.underlying u = some (.slice e)) (hs : sz P e = some esz) (he : 0 < esz) (h : IsSl esz v cells n) {i : Int} (h0 : 0 ≤ i) (hi : i < n) : indexAddrV P u v (.int k i) = some (.iptr cells (i.toNat * esz)) := by
  obtain ⟨hl, ⟨rfl, rfl⟩ | ⟨f, rfl⟩⟩ := h
  · omega
  · rw [ia_of hu hs, if_pos ⟨h0, hi, hl, he⟩]
theorem IsSl.sc (h : IsSl esz v cells n) : sliceCells g esz v = some (cells, n) := by
  obtain ⟨hl, ⟨rfl, rfl⟩ | ⟨f, rfl⟩⟩ := h
  · have : cells = [] := List.eq_nil_of_length_eq_zero (by simpa using hl)
    subst this; rfl
  · simp [sliceCells, hl]
theorem IsSl.noRefs (h : IsSl esz v cells n) (p : Nat → Nat → Bool) : v.refs p = false := by
  obtain ⟨_, ⟨rfl, _⟩ | ⟨f, rfl⟩⟩ := h <;> rfl
theorem IsSl.pure (h : IsSl esz v cells n) : v.pure = true := by
  obtain ⟨_, ⟨rfl, _⟩ | ⟨f, rfl⟩⟩ := h <;> rfl
end

theorem cutI_of {cells : List V} {n esz : Nat} {full : Bool} (hl : cells.length = n * esz) (lo hi : Option Int) (h0 : 0 ≤ lo.getD 0) (h1 : lo.getD 0 ≤ hi.getD n) (h2 : hi.getD n ≤ n) :
    ∃ f, cutI cells n full esz lo hi none = some (.islice ((cells.drop ((lo.getD 0).toNat * esz)).take (((hi.getD n).toNat - (lo.getD 0).toNat) * esz)) ((hi.getD n).toNat - (lo.getD 0).toNat) f) := by
  refine ⟨(full || (none : Option Int).isSome) && ((n : Int).toNat == (hi.getD n).toNat), ?_⟩
  simp only [cutI, hl, if_true, cuts, Option.getD_none]
  rw [if_pos ⟨by omega, by omega, by omega, by omega, h0, h1, by simp⟩]

theorem IsSl.cut {P : Program} {esz n : Nat} {v : V} {cells : List V} {u e : TypeId} (hu : P.underlying u = some (.slice e)) (hs : sz P e = some esz) (h : IsSl esz v cells n) (lo hi : Option Int)
    (h0 : 0 ≤ lo.getD 0) (h1 : lo.getD 0 ≤ hi.getD n) (h2 : hi.getD n ≤ n) :
    ∃ w, (∀ g, sliceV P g u v (lo.map (.int .i64)) (hi.map (.int .i64)) none = some w) ∧ IsSl esz w ((cells.drop ((lo.getD 0).toNat * esz)).take (((hi.getD n).toNat - (lo.getD 0).toNat) * esz)) ((hi.getD n).toNat - (lo.getD 0).toNat) := by
  have ol : optInt (lo.map (.int .i64)) = some lo := by cases lo <;> rfl
  have oh : optInt (hi.map (.int .i64)) = some hi := by cases hi <;> rfl
  have on : optInt none = some none := rfl
  obtain ⟨hl, ⟨rfl, rfl⟩ | ⟨f, rfl⟩⟩ := h
  · refine ⟨.nilslice, fun g => ?_, ?_⟩
    · simp only [sliceV, ol, oh, on, hu, hs, cuts]
      rw [if_pos ⟨by simp, by simp, by simp only [Int.natCast_zero] at *; omega, by simp at *; omega, h0, h1, by simp⟩]
    · have : cells = [] := List.eq_nil_of_length_eq_zero (by simpa using hl)
      subst this
      have e : (hi.getD (0 : Nat)).toNat - (lo.getD 0).toNat = 0 := by omega
      rw [e]
      exact ⟨by simp, .inl ⟨rfl, rfl⟩⟩
  · obtain ⟨f', e⟩ := cutI_of (full := f) hl lo hi h0 h1 h2
    refine ⟨_, fun g => ?_, IsSl.mk (full := f') ?_⟩
    · simp only [sliceV, ol, oh, on, hu, hs]
      exact e
    · rw [List.length_take, List.length_drop, hl, ← Nat.sub_mul]
      apply Nat.min_eq_left
      apply Nat.mul_le_mul_right
      omega

def IsBytes (v : V) (l : List UInt8) : Prop := IsSl 1 v (ofBytes l) l.length
theorem ofBytes_length (l : List UInt8) : (ofBytes l).length = l.length := by simp [ofBytes]
theorem ofBytes_get (l : List UInt8) (i : Nat) : (ofBytes l)[i]? = (l[i]?).map fun b => .int .u8 b.toNat := by simp [ofBytes]
theorem ofBytes_take (l : List UInt8) (n : Nat) : (ofBytes l).take n = ofBytes (l.take n) := by simp [ofBytes]
theorem ofBytes_drop (l : List UInt8) (n : Nat) : (ofBytes l).drop n = ofBytes (l.drop n) := by simp [ofBytes]
theorem ofBytes_append (l m : List UInt8) : ofBytes (l ++ m) = ofBytes l ++ ofBytes m := by simp [ofBytes]
theorem IsBytes.mk (l : List UInt8) (full : Bool) : IsBytes (.islice (ofBytes l) l.length full) l := IsSl.mk (by simp [ofBytes_length])
theorem IsBytes.nil : IsBytes .nilslice [] := IsSl.nil
theorem bytesOf_ofBytes : ∀ l : List UInt8, AM.bytesOf (ofBytes l) = some l
  | [] => rfl
  | b :: l => by
    have := bytesOf_ofBytes l
    simp only [ofBytes, List.map_cons, AM.bytesOf] at this ⊢
    rw [this]
    simp
theorem IsBytes.bytesV {v : V} {l : List UInt8} {g : Get} (h : IsBytes v l) : bytesV g v = some l := by
  have hc := IsSl.sc (g := g) h
  obtain ⟨_, ⟨rfl, _⟩ | ⟨f, rfl⟩⟩ := h <;> simp only [AM.bytesV, hc, bytesOf_ofBytes]

theorem IsBytes.cut {P : Program} {v : V} {l : List UInt8} {u e : TypeId} (hu : P.underlying u = some (.slice e)) (hs : sz P e = some 1) (h : IsBytes v l) (lo hi : Option Int)
    (h0 : 0 ≤ lo.getD 0) (h1 : lo.getD 0 ≤ hi.getD l.length) (h2 : hi.getD l.length ≤ l.length) :
    ∃ w, (∀ g, sliceV P g u v (lo.map (.int .i64)) (hi.map (.int .i64)) none = some w) ∧ IsBytes w ((l.drop (lo.getD 0).toNat).take ((hi.getD l.length).toNat - (lo.getD 0).toNat)) := by
  obtain ⟨w, h3, h4⟩ := IsSl.cut hu hs h lo hi h0 h1 h2
  refine ⟨w, h3, ?_⟩
  simp only [Nat.mul_one, ofBytes_drop, ofBytes_take] at h4
  unfold IsBytes
  rwa [show ((l.drop (lo.getD 0).toNat).take ((hi.getD l.length).toNat - (lo.getD 0).toNat)).length = (hi.getD l.length).toNat - (lo.getD 0).toNat by rw [List.length_take, List.length_drop]; omega]

def ofInts (l : List Int) : List V := l.map fun i => .int .i64 i
def IsInts (v : V) (l : List Int) : Prop := IsSl 1 v (ofInts l) l.length
theorem ofInts_length (l : List Int) : (ofInts l).length = l.length := by simp [ofInts]
theorem ofInts_get (l : List Int) (i : Nat) : (ofInts l)[i]? = (l[i]?).map fun b => .int .i64 b := by simp [ofInts]
theorem IsInts.mk (l : List Int) (full : Bool) : IsInts (.islice (ofInts l) l.length full) l := IsSl.mk (by simp [ofInts_length])
theorem IsInts.nil : IsInts .nilslice [] := IsSl.nil

theorem pureL_ofBytes (l : List UInt8) : pureL (ofBytes l) = true := by
  induction l with
  | nil => rfl
  | cons b l ih => simp only [ofBytes, List.map_cons, pureL, V.pure, Bool.true_and] at ih ⊢; exact ih
end Go.AM
end
section
/- The abstract machine, part 31: regions that draw their order, step by step; heaps behind others; appending. -/
namespace Go.AM

/-! ### Regions that draw -/
def fpCall (pol : Pol) (fn fr : Nat) (d : Option Nat) (ids : List (Nat × Nat)) (f : FuncId) : FP :=
  if (pol.prim f).isNone && pol.pure fn f then .quiet else if (pol.prim f).isNone && pol.lift fn f then (match d with
    | some d => .ids ids [(fr, d)]
    | none => .all) else .all
section
variable (P : Program) (pol : Pol) (C : Call) (L : MBody → Body) (fn fr : Nat)
def UCT (X : Option (Rt × Heap)) (d : Option Nat) (k : List It) (t : List V) : Out := match X with
  | some (.ret v, H) => U P pol C L fn fr k .normal (putT t d v) H
  | _ => none
def UST (q far : Bool) (ids : List (Nat × Nat)) (X : Option Step) (d : Option Nat) (a : Array Oper) (r : List Oper) (T : List FP) (k : List It) (t : List V) (H : Heap) : Out := match X with
  | some (.val v none) => U P pol C L fn fr (.opsT a r ((if q then .quiet else if far then .all else .ids ids []) :: T) :: k) .normal (putT t d v) H
  | some (.val v (some (f, s, o))) => U P pol C L fn fr (.opsT a r ((if q then .quiet else if far then .all else .ids ids [(f, s)]) :: T) :: k) .normal (putT t d v) (hset H f s o)
  | some (.round f s args) => UR P pol C L fn fr (C none (.yield f s :: args) H) d (.opsT a r ((if q then .quiet else .all) :: T) :: k) t
  | some (.call f args) => UCT P pol C L fn fr (callOp pol C fn fr d f args H) d (.opsT a r ((if q then .quiet else if far then .all else fpCall pol fn fr d ids f) :: T) :: k) t
  | _ => none
def UGT (v : Option V) (want : Bool) (o : Oper) (d : Option Nat) (a : Array Oper) (r : List Oper) (T : List FP) (k : List It) (t : List V) (H : Heap) : Out := match v with
  | some (.bool b) => if b = want then U P pol C L fn fr (.opsT a (o :: r) T :: k) .normal t H else U P pol C L fn fr (.opsT a r (.quiet :: T) :: k) .normal (putT t d nov) H
  | some (.tuple []) => U P pol C L fn fr (.opsT a r (.quiet :: T) :: k) .normal (putT t d nov) H
  | _ => none
end

section
variable {P : Program} {pol : Pol} {C : Call} {L : MBody → Body} {fn fr : Nat} {r : List Oper} {t : List V} {H : Heap} {d : Option Nat} {ty u : TypeId} {ps : String} {af : Array Edge} {x y z : Operand} {k : List It} {v : V} {a : Array Oper} {T : List FP}

theorem uct_ret : UCT P pol C L fn fr (some (.ret v, H)) d k t = U P pol C L fn fr k .normal (putT t d v) H := rfl
theorem ust_val {q far : Bool} {ids : List (Nat × Nat)} : UST P pol C L fn fr q far ids (some (.val v none)) d a r T k t H = U P pol C L fn fr (.opsT a r ((if q then .quiet else if far then .all else .ids ids []) :: T) :: k) .normal (putT t d v) H := rfl
theorem ust_set {q far : Bool} {ids : List (Nat × Nat)} {f s : Nat} {o : O} : UST P pol C L fn fr q far ids (some (.val v (some (f, s, o)))) d a r T k t H = U P pol C L fn fr (.opsT a r ((if q then .quiet else if far then .all else .ids ids [(f, s)]) :: T) :: k) .normal (putT t d v) (hset H f s o) := rfl
theorem ust_call {q far : Bool} {ids : List (Nat × Nat)} {f : FuncId} {args : List V} : UST P pol C L fn fr q far ids (some (.call f args)) d a r T k t H =
  UCT P pol C L fn fr (callOp pol C fn fr d f args H) d (.opsT a r ((if q then .quiet else if far then .all else fpCall pol fn fr d ids f) :: T) :: k) t := rfl
theorem ugt_tt {o : Oper} : UGT P pol C L fn fr (some (.bool true)) true o d a r T k t H = U P pol C L fn fr (.opsT a (o :: r) T :: k) .normal t H := rfl
theorem ugt_ff {o : Oper} : UGT P pol C L fn fr (some (.bool false)) false o d a r T k t H = U P pol C L fn fr (.opsT a (o :: r) T :: k) .normal t H := rfl
theorem ugt_tf {o : Oper} : UGT P pol C L fn fr (some (.bool true)) false o d a r T k t H = U P pol C L fn fr (.opsT a r (.quiet :: T) :: k) .normal (putT t d nov) H := rfl
theorem ugt_ft {o : Oper} : UGT P pol C L fn fr (some (.bool false)) true o d a r T k t H = U P pol C L fn fr (.opsT a r (.quiet :: T) :: k) .normal (putT t d nov) H := rfl

theorem ugt_no {want : Bool} {o : Oper} : UGT P pol C L fn fr (some (.tuple [])) want o d a r T k t H = U P pol C L fn fr (.opsT a r (.quiet :: T) :: k) .normal (putT t d nov) H := rfl
theorem opsT_cons {o : Oper} (hw : wantedV a t o = some true) : U P pol C L fn fr (.opsT a (o :: r) T :: k) .normal t H = match opOne P pol C fn fr t H o with
    | some (.normal, t1, H1) => U P pol C L fn fr (.opsT a r (fpOf P pol fn fr t H o :: T) :: k) .normal t1 H1
    | _ => none := by
  simp only [U, runOpsT, hw]
  cases opOne P pol C fn fr t H o with
  | none => rfl
  | some x =>
    obtain ⟨e, t1, H1⟩ := x
    cases e with
    | normal =>
      simp only
      cases runOpsT P pol C fn fr a r t1 H1 with
      | none => rfl
      | some y =>
        obtain ⟨t2, H2, T2⟩ := y
        simp only [Option.bind_some, List.reverse_cons, List.append_assoc, List.singleton_append]
    | _ => rfl

theorem w_opT {op : Op} : U P pol C L fn fr (.opsT a ({ dst := d, op := op, type := ty, pos := ps, after := af, guard := none } :: r) T :: k) .normal t H =
    UST P pol C L fn fr (quietOp op) (farOp op) (idsOf fr (rho t) { dst := d, op := op, type := ty, pos := ps, after := af, guard := none }) (evOp P (pol.mt fn) fr (hget H) (rho t) { dst := d, op := op, type := ty, pos := ps, after := af, guard := none }) d a r T k t H := by
  rw [opsT_cons rfl]
  simp only [opOne, fpOf]
  cases evOp P (pol.mt fn) fr (hget H) (rho t) { dst := d, op := op, type := ty, pos := ps, after := af, guard := none } with
  | none => rfl
  | some s =>
    cases s with
    | val v w =>
      cases w with
      | none => simp only [UST, wr]
      | some w => obtain ⟨f, s, o⟩ := w; simp only [UST, wr]
    | panic v => rfl
    | call f args =>
      simp only [UST, UCT, fpCall]
      cases callOp pol C fn fr d f args H with
      | none => rfl
      | some q => obtain ⟨q, H'⟩ := q; cases q <;> rfl
    | round f s args =>
      simp only [UST, UR]
      cases C none (.yield f s :: args) H with
      | none => rfl
      | some q => obtain ⟨q, H'⟩ := q; cases q with
        | ret v =>
          simp only
          cases quietOp op <;> cases farOp op <;> rfl
        | pan v => rfl

theorem w_guardT {op : Op} {j : Nat} {want : Bool} : U P pol C L fn fr (.opsT a ({ dst := d, op := op, type := ty, pos := ps, after := af, guard := some (j, want) } :: r) T :: k) .normal t H =
    UGT P pol C L fn fr (gd a t j) want { dst := d, op := op, type := ty, pos := ps, after := af, guard := none } d a r T k t H := by
  have e : wantedV a t { dst := d, op := op, type := ty, pos := ps, after := af, guard := some (j, want) } = match gd a t j with
    | some (.bool b) => some (b == want)
    | some (.tuple []) => some false
    | _ => none := rfl
  have hf : ∀ t, (match runOpsT P pol C fn fr a r (putT t d nov) H with
      | some (t', H', T) => some (t', H', FP.quiet :: T)
      | none => none).bind (fun x => if okT (Region.before a) (loud (T.reverse ++ x.2.2)) = true then U P pol C L fn fr k .normal x.1 x.2.1 else none) = U P pol C L fn fr (.opsT a r (.quiet :: T) :: k) .normal (putT t d nov) H := by
    intro t
    simp only [U]
    cases runOpsT P pol C fn fr a r (putT t d nov) H with
    | none => rfl
    | some y => simp only [Option.bind_some, List.reverse_cons, List.append_assoc, List.singleton_append]
  cases hg : gd a t j with
  | none => simp only [U, runOpsT, e, hg, UGT]; rfl
  | some v =>
    rw [hg] at e
    cases v with
    | bool b =>
      by_cases hb : b = want
      · subst hb
        have e' : wantedV a t { dst := d, op := op, type := ty, pos := ps, after := af, guard := some (j, b) } = some true := by rw [e]; simp
        rw [opsT_cons e']
        simp only [UGT, if_true]
        rw [opsT_cons rfl]
        rfl
      · have e' : wantedV a t { dst := d, op := op, type := ty, pos := ps, after := af, guard := some (j, want) } = some false := by rw [e]; simp [hb]
        simp only [UGT, hb, if_false]
        rw [← hf t]
        simp only [U, runOpsT, e']
        rfl
    | tuple l =>
      cases l with
      | nil =>
        simp only [UGT]
        rw [← hf t]
        simp only [U, runOpsT, e]
        rfl
      | cons x l => simp only [U, runOpsT, e, UGT]; rfl
    | _ => simp only [U, runOpsT, e, UGT]; rfl

theorem w_opsT_nil (h : okT (Region.before a) (loud T.reverse) = true) : U P pol C L fn fr (.opsT a [] T :: k) .normal t H = U P pol C L fn fr k .normal t H := by
  rw [u_opsT_nil, if_pos h]
end
theorem W.opsT {P : Program} {pol : Pol} {C : Call} {L : MBody → Body} {fn fr : Nat} {t : List V} {H : Heap} {a : Array Oper} {T : List FP} {k : List It} {Q : Ex → List V → Heap → Prop}
    (h : okT (Region.before a) (loud T.reverse) = true) (h2 : W (U P pol C L fn fr k .normal t H) Q) : W (U P pol C L fn fr (.opsT a [] T :: k) .normal t H) Q := by
  rw [w_opsT_nil h]; exact h2

/-! ### Heaps behind others -/
theorem hget_app (H G : Heap) (i s : Nat) : hget (H ++ G) (H.length + i) s = hget G i s := by
  unfold hget
  rw [List.getElem?_append_right (by omega), Nat.add_sub_cancel_left]
theorem hget_app0 (H G : Heap) (s : Nat) : hget (H ++ G) H.length s = hget G 0 s := hget_app H G 0 s
theorem hget_zero (F : Frame) (G : Heap) (s : Nat) : hget (F :: G) 0 s = fget F s := rfl
theorem hget_succ (F : Frame) (G : Heap) (i s : Nat) : hget (F :: G) (i + 1) s = hget G i s := rfl
theorem modify_app {α : Type} (f : α → α) : ∀ (H G : List α) (i : Nat), (H ++ G).modify (H.length + i) f = H ++ G.modify i f
  | [], G, i => by simp
  | x :: H, G, i => by
    rw [List.cons_append, show (x :: H).length + i = (H.length + i) + 1 by simp; omega, List.modify_succ_cons, modify_app f H G i, List.cons_append]
theorem hset_app (H G : Heap) (i s : Nat) (o : O) : hset (H ++ G) (H.length + i) s o = H ++ hset G i s o := by
  unfold hset
  exact modify_app _ H G i
theorem hset_app0 (H G : Heap) (s : Nat) (o : O) : hset (H ++ G) H.length s o = H ++ hset G 0 s o := hset_app H G 0 s o
theorem hset_zero (F : Frame) (G : Heap) (s : Nat) (o : O) : hset (F :: G) 0 s o = fset F s o :: G := rfl
theorem hset_succ (F : Frame) (G : Heap) (i s : Nat) (o : O) : hset (F :: G) (i + 1) s o = F :: hset G i s o := rfl
def WF (H : Heap) : Prop := clearH (fun f _ => Nat.ble H.length f) H = true
theorem WF.nil : WF [] := rfl
theorem clearH_append (p : Nat → Nat → Bool) : ∀ (H G : Heap), clearH p (H ++ G) = (clearH p H && clearH p G)
  | [], G => by simp [clearH]
  | F :: H, G => by simp [clearH, clearH_append p H G, Bool.and_assoc]

mutual
theorem refs_mono {p q : Nat → Nat → Bool} (h : ∀ a b, p a b = true → q a b = true) : ∀ v : V, v.refs q = false → v.refs p = false
  | .gslice f s cs _ _, h2 => by
    simp only [V.refs, Bool.or_eq_false_iff] at h2 ⊢
    refine ⟨?_, refsL_mono h cs h2.2⟩
    cases hp : p f s with
    | false => rfl
    | true => rw [h _ _ hp] at h2; cases h2.1
  | .rptr cs _, h2 => by simp only [V.refs] at h2 ⊢; exact refsL_mono h cs h2
  | .ptr f s _, h2 | .mslice f s _ _ _ _, h2 | .map f s, h2 | .yield f s, h2 => by
    simp only [V.refs] at h2 ⊢
    cases hp : p f s with
    | false => rfl
    | true => rw [h _ _ hp] at h2; cases h2
  | .func _ a b, h2 => by simp only [V.refs, Bool.or_eq_false_iff] at h2 ⊢; exact ⟨refsL_mono h a h2.1, refsL_mono h b h2.2⟩
  | .face _ v, h2 => by simp only [V.refs] at h2 ⊢; exact refs_mono h v h2
  | .agg xs, h2 | .tuple xs, h2 => by simp only [V.refs] at h2 ⊢; exact refsL_mono h xs h2
  | .bad, _ | .bool _, _ | .int _ _, _ | .str _, _ | .nilptr, _ | .iptr _ _, _ | .nilslice, _ | .islice _ _ _, _ | .nilmap, _ | .nilfunc, _ | .nilface, _ | .byte, _ => rfl
theorem refsL_mono {p q : Nat → Nat → Bool} (h : ∀ a b, p a b = true → q a b = true) : ∀ l : List V, refsL q l = false → refsL p l = false
  | [], _ => rfl
  | x :: xs, h2 => by simp only [refsL, Bool.or_eq_false_iff] at h2 ⊢; exact ⟨refs_mono h x h2.1, refsL_mono h xs h2.2⟩
end
theorem refsM_mono {p q : Nat → Nat → Bool} (h : ∀ a b, p a b = true → q a b = true) : ∀ l : List (V × V), refsM q l = false → refsM p l = false
  | [], _ => rfl
  | (a, b) :: xs, h2 => by simp only [refsM, Bool.or_eq_false_iff] at h2 ⊢; exact ⟨⟨refs_mono h a h2.1.1, refs_mono h b h2.1.2⟩, refsM_mono h xs h2.2⟩
theorem orefs_mono {p q : Nat → Nat → Bool} (h : ∀ a b, p a b = true → q a b = true) (o : O) (h2 : o.refs q = false) : o.refs p = false := by
  cases o with
  | map es bs clk => exact refsM_mono h es h2
  | iter m since seen stepped =>
    cases m with
    | none => rfl
    | some x =>
      simp only [O.refs] at h2 ⊢
      cases hp : p x.1 x.2 with
      | false => rfl
      | true => rw [h _ _ hp] at h2; cases h2
  | cells xs => exact refsL_mono h xs h2
  | loop st pend fn rid t => exact refsL_mono h t h2
  | _ => rfl
theorem clearF_mono {p q : Nat → Nat → Bool} (h : ∀ a b, p a b = true → q a b = true) : ∀ F : Frame, clearF q F = true → clearF p F = true
  | [], _ => rfl
  | (s, o) :: r, h2 => by
    simp only [clearF, Bool.and_eq_true, Bool.not_eq_true'] at h2 ⊢
    exact ⟨orefs_mono h o h2.1, clearF_mono h r h2.2⟩
theorem clearH_mono {p q : Nat → Nat → Bool} (h : ∀ a b, p a b = true → q a b = true) : ∀ H : Heap, clearH q H = true → clearH p H = true
  | [], _ => rfl
  | F :: r, h2 => by
    simp only [clearH, Bool.and_eq_true] at h2 ⊢
    exact ⟨clearF_mono h F h2.1, clearH_mono h r h2.2⟩
theorem ble_mono {n m : Nat} (h : n ≤ m) (a b : Nat) : (fun f (_ : Nat) => Nat.ble m f) a b = true → (fun f (_ : Nat) => Nat.ble n f) a b = true := by
  simp only [Nat.ble_eq]; omega

theorem WF.app {H G : Heap} (h : WF H) (h2 : clearH (fun f _ => Nat.ble (H.length + G.length) f) G = true) : WF (H ++ G) := by
  unfold WF
  rw [clearH_append, List.length_append, h2, Bool.and_true]
  exact clearH_mono (ble_mono (by omega)) H h

theorem popF_drop {H G : Heap} {v : V} (hv : v.refs (fun f _ => Nat.ble H.length f) = false) (hw : WF H) : popF H.length v (H ++ G) = H := by
  unfold popF
  have e : (H ++ G).take H.length = H := by simp
  rw [hv, e]
  unfold WF at hw
  rw [hw]
  rfl
theorem popF_keep {b : Nat} {H : Heap} {v : V} (hv : v.refs (fun f _ => Nat.ble b f) = true) : popF b v H = H := by
  unfold popF
  rw [hv]
  rfl

/-! ### Appending -/
section
variable {P : Program} {t t2 e e2 : TypeId} {n by_ m : Nat} {z cs : List V} {x : V} {g : Get} {mt : Nat → Bool} {fr : Nat} {dst : Option Nat} {d : Nat}
theorem app_nil (hu : P.underlying t = some (.slice e)) (hs : sz P e = some n) (hb : byt P e = some by_) (hz : zeroCells P e = some z) (hzl : z.length = n) (ht : P.underlying t2 = some (.slice e2))
    (hx : sliceCells g n x = some (cs, m)) (hm : 0 < m) (hr : roomy m by_ = true) : appendV P mt fr g dst t t2 .nilslice x = grown mt g fr dst cs cs m n := by
  obtain ⟨m, rfl⟩ : ∃ k, m = k + 1 := ⟨m - 1, by omega⟩
  simp only [appendV, hu, hs, hb, hz, hzl, if_true, appSrc, ht, hx, appendTo, hr]
theorem app_full {c0 : List V} {k : Nat} (hu : P.underlying t = some (.slice e)) (hs : sz P e = some n) (hb : byt P e = some by_) (hz : zeroCells P e = some z) (hzl : z.length = n) (ht : P.underlying t2 = some (.slice e2))
    (hx : sliceCells g n x = some (cs, m)) (hm : 0 < m) (hc : c0.length = k * n) (hr : roomy (k + m) by_ = true) : appendV P mt fr g dst t t2 (.islice c0 k true) x = grown mt g fr dst (c0 ++ cs) cs (k + m) n := by
  obtain ⟨m, rfl⟩ : ∃ k, m = k + 1 := ⟨m - 1, by omega⟩
  simp only [appendV, hu, hs, hb, hz, hzl, if_true, appSrc, ht, hx, appendTo, hr, hc, and_self]
theorem app_more {c0 : List V} {f s k : Nat} (hu : P.underlying t = some (.slice e)) (hs : sz P e = some n) (hb : byt P e = some by_) (hz : zeroCells P e = some z) (hzl : z.length = n) (ht : P.underlying t2 = some (.slice e2))
    (hx : sliceCells g n x = some (cs, m)) (hm : 0 < m) (hr : roomy (k + m) by_ = true) (_ : pureL cs = true) (hsc : cs.all V.scalar = true) (hg : g f s = some (.grow k)) :
    appendV P mt fr g dst t t2 (.gslice f s c0 k n) x = some (.val (.gslice f s (c0 ++ cs) (k + m) n) (some (f, s, .grow (k + m)))) := by
  obtain ⟨m, rfl⟩ : ∃ k, m = k + 1 := ⟨m - 1, by omega⟩
  simp only [appendV, hu, hs, hb, hz, hzl, if_true, appSrc, ht, hx, appendTo, hr, hsc, hg, and_self]
theorem grown_im {chk : List V} (hd : mt d = false) (_ : pureL chk = true) (hg : g fr d = none) : grown mt g fr (some d) cs chk m n = some (.val (.gslice fr d cs m n) (some (fr, d, .grow m))) := by
  simp only [grown, hd, Bool.false_eq_true, if_false, new, hg]
end
theorem bi_append {P : Program} {mt : Nat → Bool} {fr : Nat} {g : Get} {d : Option Nat} {t t2 : TypeId} {s x : V} : builtinV P mt fr g d .append #[t, t2] [s, x] = appendV P mt fr g d t t2 s x := rfl
theorem bi_copy {P : Program} {mt : Nat → Bool} {fr : Nat} {g : Get} {d : Option Nat} {t t2 : TypeId} {s x : V} : builtinV P mt fr g d .copy #[t, t2] [s, x] = copyV P g t s x := rfl
theorem roomy_of {m by_ : Nat} (h : m * by_ ≤ 35184372088832) (h2 : m ≤ 35184372088832) : roomy m by_ = true := by
  simp [roomy, h, h2]
theorem scalar_ofBytes (l : List UInt8) : (ofBytes l).all V.scalar = true := by simp [ofBytes, V.scalar]
theorem scalar_ofInts (l : List Int) : (ofInts l).all V.scalar = true := by simp [ofInts, V.scalar]

theorem IsSl.id? {esz n : Nat} {v : V} {cells : List V} (h : IsSl esz v cells n) : v.id? = none := by
  obtain ⟨_, ⟨rfl, _⟩ | ⟨f, rfl⟩⟩ := h <;> rfl
theorem IsSl.isSl {esz n : Nat} {v : V} {cells : List V} (h : IsSl esz v cells n) : isSlice v = true := by
  obtain ⟨_, ⟨rfl, _⟩ | ⟨f, rfl⟩⟩ := h <;> rfl
end Go.AM
end
section
/- The abstract machine, part 32: bytes and numbers in objects, frozen and written. -/
namespace Go.AM

theorem frzL_ofBytes (g : Get) (n : Nat) : ∀ l : List UInt8, frzL (frz g (n + 1)) (ofBytes l) = some (ofBytes l)
  | [] => rfl
  | b :: l => by
    have := frzL_ofBytes g n l
    simp only [ofBytes, List.map_cons] at this ⊢
    exact frzL_cons rfl this
theorem frzL_ofInts (g : Get) (n : Nat) : ∀ l : List Int, frzL (frz g (n + 1)) (ofInts l) = some (ofInts l)
  | [] => rfl
  | b :: l => by
    have := frzL_ofInts g n l
    simp only [ofInts, List.map_cons] at this ⊢
    exact frzL_cons rfl this
theorem frz_tup {g : Get} {cs cs' : List V} (h : frzL (frz g 11) cs = some cs') : frz g depth (.tuple cs) = some (.tuple cs') := by
  show (frzL (frz g 11) cs).map V.tuple = _
  rw [h]; rfl

section
variable {P : Program} {u e : TypeId} {g : Get}
theorem at_m (hu : P.underlying u = some (.slice e)) {q : Nat} (hs : sz P e = some q) {f s o len : Nat} {cap : Option Nat} {k : IntKind} {i : Int} (h0 : 0 ≤ i) (hi : i < len) : indexAddrV P u (.mslice f s o len cap q) (.int k i) = some (.ptr f s (o + i.toNat * q)) := by
  simp only [indexAddrV, hu, hs]
  rw [if_pos ⟨h0, hi, trivial⟩]
theorem at_r (hu : P.underlying u = some (.slice e)) {q : Nat} (hs : sz P e = some q) {f s len : Nat} {cs : List V} {k : IntKind} {i : Int} (hp : pureL cs = false) (h0 : 0 ≤ i) (hi : i < len) : indexAddrV P u (.gslice f s cs len q) (.int k i) = some (.rptr cs (i.toNat * q)) := by
  simp only [indexAddrV, hu, hs, hp, Bool.false_eq_true, if_false]
  rw [if_pos ⟨h0, hi, trivial⟩]
theorem len_m (hu : P.underlying u = some (.slice e)) {f s o len esz : Nat} {cap : Option Nat} : ∀ g, lenV P g u (.mslice f s o len cap esz) = some (.int .i64 len) := fun g => by simp only [lenV, hu]
theorem len_g (hu : P.underlying u = some (.slice e)) {f s len esz : Nat} {cs : List V} : ∀ g, lenV P g u (.gslice f s cs len esz) = some (.int .i64 len) := fun g => by simp only [lenV, hu]
end
theorem fset_clear {p : Nat → Nat → Bool} {s : Nat} {o : O} (h : o.refs p = false) : ∀ F : Frame, clearF p F = true → clearF p (fset F s o) = true
  | [], _ => by simp [fset, clearF, h]
  | (k, q) :: r, h2 => by
    simp only [clearF, Bool.and_eq_true, Bool.not_eq_true'] at h2
    simp only [fset]
    split
    · simp [clearF, h, h2.2]
    · split
      · simp [clearF, h, h2.1, h2.2]
      · simp [clearF, h2.1, fset_clear h r h2.2]
theorem hset_clear {p : Nat → Nat → Bool} {s : Nat} {o : O} (h : o.refs p = false) : ∀ (H : Heap) (f : Nat), clearH p H = true → clearH p (hset H f s o) = true
  | [], f, _ => by simp [hset, clearH]
  | F :: H, 0, h2 => by
    simp only [clearH, Bool.and_eq_true] at h2
    simp [hset, clearH, fset_clear h F h2.1, h2.2]
  | F :: H, f + 1, h2 => by
    simp only [clearH, Bool.and_eq_true] at h2
    have := hset_clear (s := s) h H f h2.2
    simp only [hset] at this ⊢
    simp [clearH, h2.1, this]
theorem WF.hset {H : Heap} {f s : Nat} {o : O} (h : WF H) (ho : o.refs (fun f _ => Nat.ble H.length f) = false) : WF (hset H f s o) := by
  unfold WF
  rw [hset_length]
  exact hset_clear ho H f h
theorem IsSl.cells1 {esz n : Nat} {v : V} {cells : List V} (h : IsSl esz v cells n) : v.cells = some [v] := by
  obtain ⟨_, ⟨rfl, _⟩ | ⟨f, rfl⟩⟩ := h <;> rfl
theorem cells_int {k : IntKind} {n : Int} : (V.int k n).cells = some [.int k n] := rfl
theorem cells_bool {b : Bool} : (V.bool b).cells = some [.bool b] := rfl
theorem cells_str {s : List UInt8} : (V.str s).cells = some [.str s] := rfl
theorem cells_nilptr : V.nilptr.cells = some [.nilptr] := rfl
theorem cells_ptr {f s o : Nat} : (V.ptr f s o).cells = some [.ptr f s o] := rfl
theorem cells_iptr {c : List V} {o : Nat} : (V.iptr c o).cells = some [.iptr c o] := rfl
theorem cells_nilslice : V.nilslice.cells = some [.nilslice] := rfl
theorem cells_islice {c : List V} {n : Nat} {f : Bool} : (V.islice c n f).cells = some [.islice c n f] := rfl
theorem cells_gslice {f s : Nat} {c : List V} {n e : Nat} : (V.gslice f s c n e).cells = some [.gslice f s c n e] := rfl
theorem cells_mslice {f s o n e : Nat} {c : Option Nat} : (V.mslice f s o n c e).cells = some [.mslice f s o n c e] := rfl
theorem cells_nilmap : V.nilmap.cells = some [.nilmap] := rfl
theorem cells_map {f s : Nat} : (V.map f s).cells = some [.map f s] := rfl
theorem cells_func {f : Fn} {a b : List V} : (V.func f a b).cells = some [.func f a b] := rfl
theorem cells_nilfunc : V.nilfunc.cells = some [.nilfunc] := rfl
theorem cells_nilface : V.nilface.cells = some [.nilface] := rfl
theorem cells_face {t : TypeId} {v : V} : (V.face t v).cells = some [.face t v] := rfl
theorem eq_islice {P : Program} {t e : TypeId} (hu : P.underlying t = some (.slice e)) {x y : Operand} {cs : List V} {n : Nat} {f : Bool} : binV P .eql t x y (.islice cs n f) .nilslice = some (.bool false) := by
  simp [binV, eqOp, hu, nilKind, eqNil, V.isNil]
theorem wrap_i64 {n : Int} (h1 : -9223372036854775808 ≤ n) (h2 : n ≤ 9223372036854775807) : (IntKind.i64).wrap n = n := by
  rw [IntKind.wrap_i64]; omega
theorem wrap_add1 {i : Nat} (h : i < 9223372036854775807) : (IntKind.i64).wrap ((i : Int) + 1) = ((i + 1 : Nat) : Int) := by
  rw [wrap_i64] <;> omega
end Go.AM
end
