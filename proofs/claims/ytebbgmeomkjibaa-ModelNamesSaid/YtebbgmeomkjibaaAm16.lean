/- The abstract machine, part 16: frames come and go. -/
import Derived.Test.YtebbgmeomkjibaaAm15
set_option linter.unusedSimpArgs false
set_option linter.unusedVariables false
namespace Go.AM
variable {P : Program} {E : Env} {B : Nat} {F : Nat → Nat → Prop} {H : Heap}

/-- Some objects are forgotten. -/
def Env.drop (E : Env) (p : Nat → Nat → Bool) : Env :=
  { w := E.w, mu := fun f s => if p f s then none else E.mu f s, reg := fun f s => if p f s then none else E.reg f s, mod := E.mod }

theorem Env.drop_mu (E : Env) {p : Nat → Nat → Bool} {f s : Nat} (h : p f s = false) : (E.drop p).mu f s = E.mu f s := by simp [Env.drop, h]
theorem Env.drop_reg (E : Env) {p : Nat → Nat → Bool} {f s : Nat} (h : p f s = false) : (E.drop p).reg f s = E.reg f s := by simp [Env.drop, h]

mutual
theorem Rel.strike {p : Nat → Nat → Bool} : ∀ (x : V) (v : Value), x.refs p = false → Rel E x v → Rel (E.drop p) x v
  | .bad, _, _, _ => by simp [Rel]
  | .bool _, _, _, r | .int _ _, _, _, r | .str _, _, _, r | .nilptr, _, _, r | .nilslice, _, _, r | .nilmap, _, _, r | .nilfunc, _, _, r | .nilface, _, _, r | .byte, _, _, r => by
    simpa only [Rel] using r
  | .ptr f s o, _, q, r => by
    simp only [V.refs] at q
    simp only [Rel, E.drop_mu q] at r ⊢
    exact r
  | .iptr cells o, _, _, r => by
    simp only [Rel] at r ⊢
    obtain ⟨b, off, vs, rfl, hr, hl, hp⟩ := r
    exact ⟨b, off, vs, rfl, hr, RelL.dress (E := E) (E' := E.drop p) rfl rfl cells vs hp hl, hp⟩
  | .islice cells len full, _, _, r => by
    simp only [Rel] at r ⊢
    obtain ⟨a, cap, vs, rfl, h1, h2, hr, hl, hp⟩ := r
    exact ⟨a, cap, vs, rfl, h1, h2, hr, RelL.dress (E := E) (E' := E.drop p) rfl rfl cells vs hp hl, hp⟩
  | .gslice f s cells len esz, _, q, r => by
    simp only [V.refs] at q
    simp only [Rel, E.drop_mu q, E.drop_reg q] at r ⊢
    obtain ⟨b, off, cap, vs, rfl, h1, hr, hl, hp, hrest⟩ := r
    exact ⟨b, off, cap, vs, rfl, h1, hr, RelL.dress (E := E) (E' := E.drop p) rfl rfl cells vs hp hl, hp, hrest⟩
  | .mslice f s o len cap esz, _, q, r => by
    simp only [V.refs] at q
    simp only [Rel, E.drop_mu q] at r ⊢
    exact r
  | .map f s, _, q, r => by
    simp only [V.refs] at q
    simp only [Rel, E.drop_mu q] at r ⊢
    exact r
  | .func fn first captured, _, q, r => by
    simp only [V.refs, Bool.or_eq_false_iff] at q
    simp only [Rel] at r ⊢
    obtain ⟨fs, cs, rfl, h1, h2⟩ := r
    exact ⟨fs, cs, rfl, RelL.strike first fs q.1 h1, RelL.strike captured cs q.2 h2⟩
  | .face t x, _, q, r => by
    simp only [V.refs] at q
    simp only [Rel] at r ⊢
    obtain ⟨c, rfl, hc⟩ := r
    exact ⟨c, rfl, Rel.strike x c q hc⟩
  | .agg cells, _, q, r => by
    simp only [V.refs] at q
    simp only [Rel] at r ⊢
    obtain ⟨vs, rfl, hl⟩ := r
    exact ⟨vs, rfl, RelL.strike cells vs q hl⟩
  | .tuple cells, _, q, r => by
    simp only [V.refs] at q
    simp only [Rel] at r ⊢
    obtain ⟨vs, rfl, hl⟩ := r
    exact ⟨vs, rfl, RelL.strike cells vs q hl⟩
theorem RelL.strike {p : Nat → Nat → Bool} : ∀ (xs : List V) (vs : List Value), refsL p xs = false → RelL E xs vs → RelL (E.drop p) xs vs
  | [], _, _, r => r
  | x :: xs, _, q, r => by
    simp only [refsL, Bool.or_eq_false_iff] at q
    obtain ⟨v, r', rfl, hv, hr⟩ := RelL.cons_iff.1 r
    exact .cons (Rel.strike x v q.1 hv) (RelL.strike xs r' q.2 hr)
end

theorem RelM.strike {p : Nat → Nat → Bool} : ∀ (es : List (V × V)) (ces : List MapEntry), refsM p es = false → RelM E es ces → RelM (E.drop p) es ces
  | [], _, _, r => r
  | (k, x) :: es, _, q, r => by
    simp only [refsM, Bool.or_eq_false_iff] at q
    obtain ⟨e, r', rfl, h1, h2, h3⟩ := r
    exact ⟨e, r', rfl, Rel.strike k _ q.1.1 h1, Rel.strike x _ q.1.2 h2, RelM.strike es r' q.2 h3⟩

theorem Sim.drop (S : Sim B F H E) {p : Nat → Nat → Bool} {H' : Heap} {k : Nat} (hp : ∀ f s, p f s = true → k ≤ f)
    (hget' : ∀ f s, hget H' f s = if p f s then none else hget H f s) (hno : ∀ f s o, hget H' f s = some o → o.refs p = false) :
    Ext k B E (E.drop p) ∧ Sim B F H' (E.drop p) := by
  have hold : ∀ f s o, hget H' f s = some o → p f s = false ∧ hget H f s = some o := by
    intro f s o ho
    rw [hget'] at ho
    cases hq : p f s with
    | true => rw [hq] at ho; cases ho
    | false => rw [hq] at ho; exact ⟨rfl, ho⟩
  refine ⟨⟨Nat.le_refl _, fun _ _ _ h => h, fun _ _ _ _ h => h, fun _ _ _ _ h => h, ?_, ?_, fun _ _ => rfl, ⟨rfl, rfl, rfl⟩⟩, ⟨?_, S.bsz, S.fb, S.fmod, S.modsz, ?_, ?_, ?_⟩⟩
  · intro f s b hf h
    have : p f s = false := by
      cases hq : p f s with
      | true => have := hp f s hq; omega
      | false => rfl
    rw [E.drop_mu this]; exact h
  · intro f s n b lo hi hf hs h
    have : p f s = false := by
      cases hq : p f s with
      | true => have := hp f s hq; omega
      | false => rfl
    rw [E.drop_reg this] at h
    exact ⟨n, b, lo, hi, h, .inr ⟨rfl, rfl, rfl, rfl⟩⟩
  · intro f s
    rw [hget']
    cases hq : p f s with
    | true => simp [Env.drop, hq]
    | false => rw [E.drop_mu hq]; exact S.dom f s
  · intro f s o ho
    obtain ⟨hq, ho'⟩ := hold f s o ho
    have hr := hno f s o ho
    have := S.obj f s o ho'
    cases o with
    | cells xs =>
      obtain ⟨b, c, T, vs, rest, h1, h2, h3, h4, h5, h6, h7⟩ := this
      exact ⟨b, c, T, vs, rest, (E.drop_mu hq).trans h1, h2, h3, h4, RelL.strike xs vs hr h5, h6, h7⟩
    | map es bs clk =>
      obtain ⟨b, ces, h1, h2, h3, h4, h5⟩ := this
      exact ⟨b, ces, (E.drop_mu hq).trans h1, h2, h3, RelM.strike es _ hr h4, h5⟩
    | iter m since seen stepped =>
      obtain ⟨b, mb, h1, h2, h3, h4⟩ := this
      refine ⟨b, mb, (E.drop_mu hq).trans h1, h2, h3, ?_⟩
      cases m with
      | none => exact h4
      | some x =>
        obtain ⟨r, h5, h6⟩ := h4
        exact ⟨r, h5, (E.drop_mu hr).trans h6⟩
    | grow n =>
      obtain ⟨b, lo, hi, c, T, h1, h2⟩ := this
      exact ⟨b, lo, hi, c, T, (E.drop_reg hq).trans h1, h2⟩
    | dead => trivial
  · intro f s n x h
    rw [hget']
    cases hq : p f s with
    | true => simp [Env.drop, hq] at h
    | false => rw [E.drop_reg hq] at h; exact S.nreg f s n x h
  · intro f s o f' s' o' b h1 h2 h3 h4
    obtain ⟨q1, g1⟩ := hold f s o h1
    obtain ⟨q2, g2⟩ := hold f' s' o' h2
    refine S.inj f s o f' s' o' b g1 g2 ?_ ?_
    · cases o <;> simp only [blk, E.drop_mu q1, E.drop_reg q1] at h3 <;> exact h3
    · cases o' <;> simp only [blk, E.drop_mu q2, E.drop_reg q2] at h4 <;> exact h4

theorem clearF_get {p : Nat → Nat → Bool} : ∀ (fr : Frame) (s : Nat) (o : O), clearF p fr = true → fget fr s = some o → o.refs p = false
  | [], s, o, _, h => by cases h
  | (k, q) :: r, s, o, hc, h => by
    simp only [clearF, Bool.and_eq_true, Bool.not_eq_true'] at hc
    simp only [fget] at h
    split at h
    · cases h; exact hc.1
    · exact clearF_get r s o hc.2 h

theorem clearH_get {p : Nat → Nat → Bool} : ∀ (H : Heap) (f s : Nat) (o : O), clearH p H = true → hget H f s = some o → o.refs p = false
  | [], f, s, o, _, h => by simp [hget] at h
  | fr :: r, f, s, o, hc, h => by
    simp only [clearH, Bool.and_eq_true] at hc
    cases f with
    | zero => exact clearF_get fr s o hc.1 (by simpa [hget] using h)
    | succ f => exact clearH_get r f s o hc.2 (by simpa [hget] using h)

/-- A new frame. -/
theorem hget_push (H : Heap) (f s : Nat) : hget (H ++ [[]]) f s = hget H f s := by
  unfold hget
  by_cases h : f < H.length
  · rw [List.getElem?_append_left h]
  · rw [List.getElem?_append_right (by omega), List.getElem?_eq_none (l := H) (by omega)]
    by_cases e : f = H.length
    · subst e; simp [fget]
    · rw [List.getElem?_eq_none]
      simp; omega

theorem Sim.push (S : Sim B F H E) : Sim B F (H ++ [[]]) E where
  dom := fun f s => by rw [hget_push]; exact S.dom f s
  bsz := S.bsz
  fb := S.fb
  fmod := S.fmod
  modsz := S.modsz
  obj := fun f s o h => S.obj f s o (by rw [hget_push] at h; exact h)
  nreg := fun f s n x h => by rw [hget_push]; exact S.nreg f s n x h
  inj := fun f s o f' s' o' b h1 h2 => S.inj f s o f' s' o' b (by rw [hget_push] at h1; exact h1) (by rw [hget_push] at h2; exact h2)

theorem hget_take (H : Heap) (b f s : Nat) : hget (H.take b) f s = if Nat.ble b f then none else hget H f s := by
  unfold hget
  rw [List.getElem?_take]
  by_cases h : f < b
  · have : Nat.ble b f = false := by
      cases hq : Nat.ble b f with
      | true => have := Nat.le_of_ble_eq_true hq; omega
      | false => rfl
    rw [if_pos h, this]; rfl
  · have : Nat.ble b f = true := Nat.ble_eq_true_of_le (by omega)
    rw [if_neg h, this]; rfl

/-- The frames of a call go, where nothing names them. -/
theorem Sim.pop (S : Sim B F H E) (b : Nat) (x : V) (v : Value) (r : Rel E x v) :
    ∃ E', E'.w = E.w ∧ Ext b B E E' ∧ Sim B F (popF b x H) E' ∧ Rel E' x v := by
  unfold popF
  split
  · rename_i h
    simp only [Bool.and_eq_true, Bool.not_eq_true'] at h
    obtain ⟨X, S'⟩ := S.drop (p := fun f _ => Nat.ble b f) (H' := H.take b) (k := b) (fun f s h => Nat.le_of_ble_eq_true h) (fun f s => hget_take H b f s)
      (fun f s o ho => clearH_get (H.take b) f s o h.2 ho)
    exact ⟨E.drop _, rfl, X, S', Rel.strike x v h.1 r⟩
  · exact ⟨E, rfl, Ext.refl _ _ _, S, r⟩

theorem popF_length (b : Nat) (x : V) (H : Heap) (h : b ≤ H.length) : b ≤ (popF b x H).length := by
  unfold popF
  split
  · simp; omega
  · exact h

theorem fget_fdel (p : Nat → Bool) : ∀ (fr : Frame) (s : Nat), fget (fdel p fr) s = if p s then none else fget fr s
  | [], s => by simp [fdel, fget]
  | (k, o) :: r, s => by
    simp only [fdel]
    split
    · rename_i hk
      rw [fget_fdel p r s]
      simp only [fget]
      by_cases e : s = k
      · subst e; simp [hk]
      · simp [e]
    · rename_i hk
      simp only [fget]
      by_cases e : s = k
      · subst e; simp [hk]
      · simp only [e, if_false]; exact fget_fdel p r s

theorem hget_del (H : Heap) (fr : Nat) (ds : List Nat) (f s : Nat) :
    hget (H.modify fr (fdel fun s => ds.contains s)) f s = if (f == fr && ds.contains s) then none else hget H f s := by
  unfold hget
  rw [List.getElem?_modify]
  by_cases e : fr = f
  · subst e
    cases H[fr]? with
    | none => simp
    | some x => simp [fget_fdel]
  · have : (f == fr) = false := by simp; omega
    simp only [e, if_false, this, Bool.false_and, Bool.false_eq_true]
    cases H[f]? <;> rfl

theorem maskT_rel (keep : List Nat) : ∀ (t : List V) (vs : List Value) (i : Nat), RelL E t vs → RelL E (maskT keep t i) vs
  | [], vs, i, r => r
  | x :: t, vs, i, r => by
    obtain ⟨v, r', rfl, hv, hr⟩ := RelL.cons_iff.1 r
    refine .cons ?_ (maskT_rel keep t r' (i + 1) hr)
    split
    · exact hv
    · simp [Rel]

theorem Sim.forget (S : Sim B F H E) {pol : Pol} {fn fr r : Nat} {t t' : List V} {H' : Heap} {vs : List Value} (h : forget pol fn fr r t H = some (t', H')) (hr : RelL E t vs) :
    ∃ E', E'.w = E.w ∧ Ext fr B E E' ∧ Sim B F H' E' ∧ RelL E' t' vs ∧ H'.length = H.length := by
  unfold AM.forget at h
  split at h
  · cases h; exact ⟨E, rfl, Ext.refl _ _ _, S, hr, rfl⟩
  · rename_i kt ds _
    split at h
    · cases h
    · rename_i h1
      split at h
      case isFalse => cases h
      rename_i h2
      cases h
      obtain ⟨X, S'⟩ := S.drop (p := fun f s => f == fr && ds.contains s) (H' := H.modify fr (fdel fun s => ds.contains s)) (k := fr)
        (fun f s h => by simp only [Bool.and_eq_true, beq_iff_eq] at h; omega) (fun f s => hget_del H fr ds f s) (fun f s o ho => clearH_get _ f s o h2 ho)
      exact ⟨E.drop _, rfl, X, S', RelL.strike _ _ (by simpa using h1) (maskT_rel kt t vs 0 hr), by simp⟩

end Go.AM
