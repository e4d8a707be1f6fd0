/- This file holds in one the texts Am44; each says at its head what it proves. -/
import Derived.Test.YtebbgmeomkjibaaG27
set_option linter.unusedSimpArgs false
set_option linter.unusedVariables false
section
/- The abstract machine, part 44: what a call can't reach stays as it was. -/
namespace Go.AM

theorem hget_hset_or (H : Heap) (f s : Nat) (o : O) (f' s' : Nat) : hget (hset H f s o) f' s' = hget H f' s' ∨ (f' = f ∧ s' = s ∧ hget (hset H f s o) f' s' = some o) := by
  by_cases hf : f < H.length
  · rw [hget_hset H f s o hf]
    by_cases h : f' = f ∧ s' = s
    · right; exact ⟨h.1, h.2, by rw [if_pos h]⟩
    · left; rw [if_neg h]
  · left
    unfold hget hset
    rw [List.getElem?_modify]
    by_cases h : f = f'
    · subst h; rw [List.getElem?_eq_none (by omega)]; rfl
    · simp only [h, if_false]; cases H[f']? <;> rfl

def ClA (p : Nat → Nat → Bool) (H : Heap) : Prop := ∀ (f : Nat) (fr : Frame), H[f]? = some fr → ∀ e ∈ fr, p f e.1 = false → e.2.nf p = true
theorem fget_mem {s : Nat} {o : O} : ∀ {fr : Frame}, fget fr s = some o → (s, o) ∈ fr
  | [], h => by cases h
  | (k, x) :: r, h => by
    simp only [fget] at h
    split at h
    · rename_i e; subst e; cases h; simp
    · exact List.mem_cons_of_mem _ (fget_mem h)
theorem fset_mem {s : Nat} {o : O} {e : Nat × O} : ∀ {fr : Frame}, e ∈ fset fr s o → e ∈ fr ∨ e = (s, o)
  | [], h => .inr (List.mem_singleton.1 h)
  | (k, x) :: r, h => by
    simp only [fset] at h
    split at h
    · rcases List.mem_cons.1 h with h | h
      · exact .inr h
      · exact .inl (List.mem_cons_of_mem _ h)
    · split at h
      · rcases List.mem_cons.1 h with h | h
        · exact .inr h
        · exact .inl h
      · rcases List.mem_cons.1 h with h | h
        · exact .inl (by rw [h]; simp)
        · rcases fset_mem h with h | h
          · exact .inl (List.mem_cons_of_mem _ h)
          · exact .inr h
theorem ClA.cl {p : Nat → Nat → Bool} {H : Heap} (h : ClA p H) : ClG p (hget H) := by
  intro f s o ho hp
  unfold hget at ho
  split at ho
  · rename_i fr hfr
    exact h f fr hfr (s, o) (fget_mem ho) hp
  · cases ho
structure Gd (p : Nat → Nat → Bool) (H0 H : Heap) : Prop where
  ca : ClA p H
  keep : ∀ f s, p f s = true → hget H f s = hget H0 f s
  len : H0.length ≤ H.length

section
variable {p : Nat → Nat → Bool} {P : Program} {pol : Pol} {C : Call} {H0 : Heap} {fn fr : Nat}

theorem Gd.cl {H : Heap} (g : Gd p H0 H) : ClG p (hget H) := g.ca.cl
theorem Gd.wr {H : Heap} (g : Gd p H0 H) {w : Option (Nat × Nat × O)} (hw : WOk p w) : Gd p H0 (AM.wr H w) := by
  cases w with
  | none => exact g
  | some w =>
    obtain ⟨f, s, o⟩ := w
    obtain ⟨h1, h2⟩ := hw f s o rfl
    refine ⟨fun f' fr hfr e he hp => ?_, fun f' s' hp => ?_, by simp only [AM.wr, hset_length]; exact g.len⟩
    · simp only [AM.wr, hset] at hfr
      rw [List.getElem?_modify] at hfr
      obtain ⟨fr0, h3, h4⟩ := Option.map_eq_some_iff.1 hfr
      by_cases e1 : f = f'
      · subst e1
        simp only [if_true] at h4
        subst h4
        rcases fset_mem he with h5 | h5
        · exact g.ca f fr0 h3 e h5 hp
        · rw [h5]; exact h2
      · simp only [e1, if_false] at h4
        subst h4
        exact g.ca f' _ h3 e he hp
    · rcases hget_hset_or H f s o f' s' with q | ⟨rfl, rfl, q⟩
      · exact q.trans (g.keep f' s' hp)
      · rw [h1] at hp; cases hp
theorem Gd.trans {H1 H2 : Heap} (a : Gd p H0 H1) (b : Gd p H1 H2) : Gd p H0 H2 := ⟨b.ca, fun f s h => (b.keep f s h).trans (a.keep f s h), Nat.le_trans a.len b.len⟩

def Rt.nf (p : Nat → Nat → Bool) : Rt → Bool
  | .ret v | .pan v => v.nf p
def Ex.nf (p : Nat → Nat → Bool) : Ex → Bool
  | .panic v => v.nf p
  | _ => true

def CNF (C : Call) : Prop := ∀ (p : Nat → Nat → Bool) (f : FuncId) (args : List V) (H : Heap) (r : Rt) (H' : Heap), (∀ f s, p f s = true → f < H.length) → ClA p H → nfL p args = true → C f args H = some (r, H') → Gd p H H' ∧ r.nf p = true
def PNF (pol : Pol) : Prop := ∀ (f : FuncId) (g : Nat → Option Nat → Get → List V → Option (V × Option (Nat × Nat × O))), pol.prim f = some g → ∀ (p : Nat → Nat → Bool) (fr : Nat) (dst : Option Nat) (G : Get) (args : List V) (x : V × Option (Nat × Nat × O)),
  (∀ s, p fr s = false) → ClG p G → nfL p args = true → g fr dst G args = some x → x.1.nf p = true ∧ WOk p x.2

theorem frzL_nf {f : V → Option V} (hf : ∀ x y, x.nf p = true → f x = some y → y.pure = true ∧ y.nf p = true) : ∀ {xs ys : List V}, nfL p xs = true → frzL f xs = some ys → pureL ys = true ∧ nfL p ys = true
  | [], ys, _, h => by cases h; exact ⟨rfl, rfl⟩
  | x :: xs, ys, hn, h => by
    simp only [nfL, Bool.and_eq_true] at hn
    unfold frzL at h
    split at h
    · rename_i h1 h2
      cases h
      have a := hf _ _ hn.1 h1
      have b := frzL_nf hf hn.2 h2
      simp [pureL, nfL, a.1, a.2, b.1, b.2]
    · cases h
theorem frz_nf {g : Get} (hg : ClG p g) : ∀ (n : Nat) (x y : V), x.nf p = true → frz g n x = some y → y.pure = true ∧ y.nf p = true
  | 0, _, _, _, h => by cases h
  | n + 1, x, y, hx, h => by
    have ih : ∀ {xs ys : List V}, nfL p xs = true → frzL (frz g n) xs = some ys → pureL ys = true ∧ nfL p ys = true := fun a b => frzL_nf (frz_nf hg n) a b
    unfold frz at h
    split at h
    · split at h
      · rename_i ho
        split at h
        · obtain ⟨cs, hc, rfl⟩ := Option.map_eq_some_iff.1 h
          have := ih (nl_take _ (nl_drop _ (hg _ _ _ ho (by simpa [V.nf] using hx)))) hc
          exact ⟨rfl, by simp only [V.nf, Bool.and_eq_true]; exact this⟩
        · cases h
      · cases h
    · cases h
      simp only [V.nf, Bool.and_eq_true] at hx
      exact ⟨rfl, by simp only [V.nf, Bool.and_eq_true]; exact ⟨hx.1.2, hx.2⟩⟩
    · split at h
      · rename_i ho
        obtain ⟨cs, hc, rfl⟩ := Option.map_eq_some_iff.1 h
        have := ih (hg _ _ _ ho (by simpa [V.nf] using hx)) hc
        exact ⟨rfl, by simp only [V.nf, Bool.and_eq_true]; exact this⟩
      · cases h
    · cases h
    · obtain ⟨cs, hc, rfl⟩ := Option.map_eq_some_iff.1 h
      exact ih (by simpa [V.nf] using hx) hc
    · obtain ⟨cs, hc, rfl⟩ := Option.map_eq_some_iff.1 h
      exact ih (by simpa [V.nf] using hx) hc
    · obtain ⟨cs, hc, rfl⟩ := Option.map_eq_some_iff.1 h
      have := frz_nf hg n _ _ (by simpa [V.nf] using hx) hc
      simpa [V.pure, V.nf] using this
    · simp only [V.nf, Bool.and_eq_true] at hx
      split at h
      · rename_i h1 h2
        cases h
        have a := ih hx.1 h1
        have b := ih hx.2 h2
        simp only [V.pure, V.nf, Bool.and_eq_true]
        exact ⟨⟨a.1, b.1⟩, a.2, b.2⟩
      · cases h
    · cases h
      refine ⟨?_, hx⟩
      cases x
      case gslice => exfalso; simp_all; rename_i hh; exact hh _ _ _ _ _ rfl rfl rfl rfl rfl
      case mslice => exfalso; simp_all; rename_i hh; exact hh _ _ _ _ _ _ rfl rfl rfl rfl rfl rfl
      all_goals first | rfl | (exfalso; simp_all)
theorem frzN_nf {g : Get} (hg : ClG p g) : ∀ (n : Nat) (x y : V), x.nf p = true → frzN g n x = some y → y.pure = true ∧ y.nf p = true
  | 0, _, _, _, h => by cases h
  | n + 1, x, y, hx, h => by
    have ih : ∀ {xs ys : List V}, nfL p xs = true → frzL (frzN g n) xs = some ys → pureL ys = true ∧ nfL p ys = true := fun a b => frzL_nf (frzN_nf hg n) a b
    unfold frzN at h
    split at h
    · split at h
      · rename_i ho
        split at h
        · obtain ⟨cs, hc, rfl⟩ := Option.map_eq_some_iff.1 h
          have := ih (nl_take _ (nl_drop _ (hg _ _ _ ho (by simpa [V.nf] using hx)))) hc
          exact ⟨rfl, by simp only [V.nf, Bool.and_eq_true]; exact this⟩
        · cases h
      · cases h
    · split at h
      · rename_i ho
        obtain ⟨cs, hc, rfl⟩ := Option.map_eq_some_iff.1 h
        have := ih (hg _ _ _ ho (by simpa [V.nf] using hx)) hc
        exact ⟨rfl, by simp only [V.nf, Bool.and_eq_true]; exact this⟩
      · cases h
    · obtain ⟨cs, hc, rfl⟩ := Option.map_eq_some_iff.1 h
      exact ih (by simpa [V.nf] using hx) hc
    · obtain ⟨cs, hc, rfl⟩ := Option.map_eq_some_iff.1 h
      exact ih (by simpa [V.nf] using hx) hc
    · obtain ⟨cs, hc, rfl⟩ := Option.map_eq_some_iff.1 h
      have := frzN_nf hg n _ _ (by simpa [V.nf] using hx) hc
      simpa [V.pure, V.nf] using this
    all_goals first | (cases h; exact ⟨rfl, rfl⟩) | cases h

theorem clg_none : ClG p (fun _ _ => none) := fun _ _ _ h => by cases h
theorem clg_nil : ClA p [] := fun f fr h => by simp at h
theorem frzM_nf {f : V → Option V} (hf : ∀ x y, x.nf p = true → f x = some y → y.pure = true ∧ y.nf p = true) {q : Nat → Nat → Bool} : ∀ {xs ys : List (V × V)}, nfM p xs = true → frzM f xs = some ys → nfM q ys = true
  | [], ys, _, h => by cases h; rfl
  | (k, x) :: xs, ys, hn, h => by
    simp only [nfM, Bool.and_eq_true] at hn
    unfold frzM at h
    split at h
    · rename_i h1 h2 h3
      cases h
      have a := hf _ _ hn.1.1 h1
      have b := hf _ _ hn.1.2 h2
      simp only [nfM, Bool.and_eq_true]
      exact ⟨⟨nf_pure _ a.1 a.2, nf_pure _ b.1 b.2⟩, frzM_nf hf hn.2 h3⟩
    · cases h

def pN : Nat → Nat → Bool := fun _ _ => false
theorem pN_lt {n : Nat} (f s : Nat) (h : pN f s = true) : f < n := by cases h

theorem nf_away (hC : CNF C) {f : FuncId} {args args' : List V} {g : Get} {n : Nat} (hg : ClG p g) (ha : nfL p args = true) (hf : frzL (frz g n) args = some args') {r : Rt} {H' : Heap} (h : C f args' [] = some (r, H')) : Gd pN [] H' ∧ r.nf pN = true :=
  hC pN f args' [] r H' pN_lt clg_nil (nfL_pure _ (frzL_nf (frz_nf hg n) ha hf).1 (frzL_nf (frz_nf hg n) ha hf).2) h

theorem callOp_nf (hC : CNF C) (hP : PNF pol) (hfr : ∀ s, p fr s = false) (hp0 : ∀ f s, p f s = true → f < H0.length) {dst : Option Nat} {f : FuncId} {args : List V} {H H' : Heap} {r : Rt} (g : Gd p H0 H) (ha : nfL p args = true)
    (h : callOp pol C fn fr dst f args H = some (r, H')) : Gd p H0 H' ∧ r.nf p = true := by
  unfold callOp at h
  split at h
  · rename_i q hq
    obtain ⟨x, hx, h⟩ := Option.map_eq_some_iff.1 h
    cases h
    have := hP f q hq p fr dst (hget H) args x hfr g.cl ha hx
    exact ⟨g.wr this.2, this.1⟩
  · split at h
    · split at h
      · rename_i hf
        split at h
        · rename_i hc
          obtain ⟨v, hv, h⟩ := Option.map_eq_some_iff.1 h
          cases h
          have a := nf_away hC clg_none ha hf hc
          have b := frz_nf a.1.cl depth _ _ (by simpa [Rt.nf] using a.2) hv
          exact ⟨g, nf_pure _ b.1 b.2⟩
        · rename_i hc
          obtain ⟨v, hv, h⟩ := Option.map_eq_some_iff.1 h
          cases h
          have a := nf_away hC clg_none ha hf hc
          have b := frz_nf a.1.cl depth _ _ (by simpa [Rt.nf] using a.2) hv
          exact ⟨g, nf_pure _ b.1 b.2⟩
        · cases h
      · cases h
    · split at h
      · split at h
        · rename_i hf
          split at h
          · rename_i hc
            obtain ⟨x, hx, h⟩ := Option.map_eq_some_iff.1 h
            cases h
            have a := nf_away hC clg_none ha hf hc
            unfold liftV at hx
            split at hx
            · split at hx
              · rename_i ho
                obtain ⟨es, he, rfl⟩ := Option.map_eq_some_iff.1 hx
                have hes : nfM pN _ = true := a.1.cl _ _ _ ho rfl
                exact ⟨g.wr (wok_some (hfr _) (frzM_nf (frz_nf a.1.cl depth) hes he)), by simp [Rt.nf, V.nf, hfr]⟩
              · cases hx
            · cases hx
          · cases h
        · cases h
      · split at h
        · split at h
          · rename_i hf
            split at h
            · rename_i hc
              obtain ⟨v, hv, h⟩ := Option.map_eq_some_iff.1 h
              cases h
              have a := nf_away hC g.cl ha hf hc
              have b := frzN_nf a.1.cl depth _ _ (by simpa [Rt.nf] using a.2) hv
              exact ⟨g, nf_pure _ b.1 b.2⟩
            · cases h
          · cases h
        · split at h
          · rename_i args' hf
            unfold thinArgs at hf
            have ha' : nfL p args' = true := by
              split at hf
              · exact (frzL_nf (frz_nf (p := p) clg_none depth) ha hf).2
              · cases hf; exact ha
            have a := hC p f _ H r H' (fun f s hp => Nat.lt_of_lt_of_le (hp0 f s hp) g.len) g.ca ha' h
            exact ⟨g.trans a.1, a.2⟩
          · cases h

theorem rho_nf {t : List V} (ht : nfL p t = true) (x : Operand) : (rho t x).nf p = true := by
  cases x with
  | tmp i =>
    simp only [rho, List.getD_eq_getElem?_getD]
    cases h : t[i]? with
    | none => rfl
    | some v => exact nl_get ht h
  | const v => exact n_ofConst v
  | global g => rfl
  | func f => rfl
theorem putT_nf {t : List V} (ht : nfL p t = true) (d : Option Nat) {v : V} (hv : v.nf p = true) : nfL p (putT t d v) = true := by
  cases d with
  | none => exact ht
  | some d => exact nl_set d ht hv

theorem opOne_nf (hC : CNF C) (hP : PNF pol) (hfr : ∀ s, p fr s = false) (hp0 : ∀ f s, p f s = true → f < H0.length) {t t' : List V} {H H' : Heap} {o : Oper} {e : Ex} (ht : nfL p t = true) (g : Gd p H0 H)
    (h : opOne P pol C fn fr t H o = some (e, t', H')) : nfL p t' = true ∧ Gd p H0 H' ∧ e.nf p = true := by
  unfold opOne at h
  split at h
  · cases h
  · rename_i v w he
    have a := evOp_nf g.cl (rho_nf ht) hfr he
    cases h
    exact ⟨putT_nf ht _ a.1, g.wr a.2, rfl⟩
  · rename_i v he
    have a := evOp_nf g.cl (rho_nf ht) hfr he
    cases h
    exact ⟨ht, g, a⟩
  · rename_i f args he
    have a := evOp_nf g.cl (rho_nf ht) hfr he
    split at h
    · rename_i hc
      cases h
      have b := callOp_nf hC hP hfr hp0 g a hc
      exact ⟨putT_nf ht _ (by simpa [Rt.nf] using b.2), b.1, rfl⟩
    · rename_i hc
      cases h
      have b := callOp_nf hC hP hfr hp0 g a hc
      exact ⟨ht, b.1, by simpa [Rt.nf, Ex.nf] using b.2⟩
    · cases h

theorem runOps_nf (hC : CNF C) (hP : PNF pol) (hfr : ∀ s, p fr s = false) (hp0 : ∀ f s, p f s = true → f < H0.length) {ops : Array Oper} : ∀ (l : List Oper) (t t' : List V) (H H' : Heap) (e : Ex), nfL p t = true → Gd p H0 H →
    runOps P pol C fn fr ops l t H = some (e, t', H') → nfL p t' = true ∧ Gd p H0 H' ∧ e.nf p = true
  | [], t, t', H, H', e, ht, g, h => by cases h; exact ⟨ht, g, rfl⟩
  | o :: r, t, t', H, H', e, ht, g, h => by
    unfold runOps at h
    split at h
    · cases h
    · exact runOps_nf hC hP hfr hp0 r _ t' H H' e (putT_nf ht _ rfl) g h
    · split at h
      · rename_i h1
        have a := opOne_nf hC hP hfr hp0 ht g h1
        exact runOps_nf hC hP hfr hp0 r _ t' _ H' e a.1 a.2.1 h
      · exact opOne_nf hC hP hfr hp0 ht g h

theorem runOpsT_nf (hC : CNF C) (hP : PNF pol) (hfr : ∀ s, p fr s = false) (hp0 : ∀ f s, p f s = true → f < H0.length) {ops : Array Oper} : ∀ (l : List Oper) (t t' : List V) (H H' : Heap) (T : List FP), nfL p t = true → Gd p H0 H →
    runOpsT P pol C fn fr ops l t H = some (t', H', T) → nfL p t' = true ∧ Gd p H0 H'
  | [], t, t', H, H', T, ht, g, h => by cases h; exact ⟨ht, g⟩
  | o :: r, t, t', H, H', T, ht, g, h => by
    unfold runOpsT at h
    split at h
    · cases h
    · split at h
      · rename_i h1
        cases h
        exact runOpsT_nf hC hP hfr hp0 r _ t' H H' _ (putT_nf ht _ rfl) g h1
      · cases h
    · split at h
      · rename_i h1
        have a := opOne_nf hC hP hfr hp0 ht g h1
        split at h
        · rename_i h2
          cases h
          exact runOpsT_nf hC hP hfr hp0 r _ t' _ H' _ a.1 a.2.1 h2
        · cases h
      · cases h

def BNF (p : Nat → Nat → Bool) (H0 : Heap) (b : Body) : Prop := ∀ t H e t' H', nfL p t = true → Gd p H0 H → b t H = some (e, t', H') → nfL p t' = true ∧ Gd p H0 H' ∧ e.nf p = true
def MNF (p : Nat → Nat → Bool) (H0 : Heap) (b : MBody) : Prop := ∀ t H, nfL p t = true → Gd p H0 H → ∀ x ∈ b t H, ∀ e t' H', x = some (e, t', H') → nfL p t' = true ∧ Gd p H0 H' ∧ e.nf p = true
theorem loopN_nf {b : MBody} (hb : MNF p H0 b) : ∀ n, BNF p H0 (loopN b n)
  | 0 => fun t H e t' H' _ _ h => by cases h
  | n + 1 => fun t H e t' H' ht g h => by
    unfold loopN at h
    have hne := agree_ne h
    obtain ⟨y, hy⟩ := List.exists_mem_of_ne_nil _ hne
    have hy2 := agree_all h y hy
    obtain ⟨x, hx, rfl⟩ := List.mem_map.1 hy
    cases x with
    | none => cases hy2
    | some x =>
      obtain ⟨e1, t1, H1⟩ := x
      have a := hb t H ht g _ hx e1 t1 H1 rfl
      cases e1 with
      | normal => exact loopN_nf hb n t1 H1 e t' H' a.1 a.2.1 hy2
      | exit i => cases hy2; exact a
      | ret => cases hy2; exact a
      | panic v => cases hy2; exact a

theorem maskT_nf (keep : List Nat) : ∀ (t : List V) (i : Nat), nfL p t = true → nfL p (maskT keep t i) = true
  | [], _, _ => rfl
  | x :: xs, i, h => by
    simp only [nfL, Bool.and_eq_true] at h
    simp only [maskT, nfL, Bool.and_eq_true]
    exact ⟨by split; exact h.1; rfl, maskT_nf keep xs _ h.2⟩
theorem Gd.del (hfr : ∀ s, p fr s = false) {H : Heap} (g : Gd p H0 H) (ds : List Nat) : Gd p H0 (H.modify fr (fdel fun s => ds.contains s)) := by
  refine ⟨fun f fr1 hfr1 e he hp => ?_, fun f s hp => ?_, by simpa using g.len⟩
  · rw [List.getElem?_modify] at hfr1
    obtain ⟨fr0, h3, h4⟩ := Option.map_eq_some_iff.1 hfr1
    have hd : ∀ (q : Nat → Bool) (l : Frame), e ∈ fdel q l → e ∈ l := by
      intro q l
      induction l with
      | nil => intro h; exact h
      | cons x l ih =>
        obtain ⟨k, o⟩ := x
        simp only [fdel]
        split
        · intro h; exact List.mem_cons_of_mem _ (ih h)
        · intro h
          rcases List.mem_cons.1 h with h | h
          · rw [h]; simp
          · exact List.mem_cons_of_mem _ (ih h)
    by_cases e1 : fr = f
    · simp only [e1, if_true] at h4
      subst h4
      exact g.ca f fr0 h3 e (hd _ _ he) hp
    · simp only [e1, if_false] at h4
      subst h4
      exact g.ca f _ h3 e he hp
  · rw [hget_del]
    split
    · rename_i hc
      have : f = fr := by simp_all
      subst this; rw [hfr] at hp; cases hp
    · exact g.keep f s hp
theorem forgetK_nf (hfr : ∀ s, p fr s = false) {r : Nat} {t t' : List V} {H H' : Heap} (ht : nfL p t = true) (g : Gd p H0 H) (h : forgetK pol fn fr r t H = some (t', H')) : nfL p t' = true ∧ Gd p H0 H' := by
  unfold forgetK at h
  split at h
  · cases h; exact ⟨ht, g⟩
  · rename_i kt ds _
    split at h
    · cases h
    · split at h
      · cases h
        exact ⟨maskT_nf _ _ _ ht, g.del hfr ds⟩
      · cases h
theorem dropAll_nf (hfr : ∀ s, p fr s = false) {t : List V} : ∀ (ds : List Nat) {H H' : Heap}, Gd p H0 H → dropAll fr t ds H = some H' → Gd p H0 H'
  | [], H, H', g, h => by simp only [dropAll, Option.some.injEq] at h; subst h; exact g
  | s :: r, H, H', g, h => by
    simp only [dropAll] at h
    split at h
    · rename_i H1 h1
      refine dropAll_nf hfr r ?_ h
      unfold dropOne at h1
      split at h1
      · cases h1; exact g
      · split at h1
        · cases h1; exact g.del hfr [s]
        · cases h1
    · cases h
theorem renV_nf (hfr : ∀ s, p fr s = false) (a b : Nat) {x : V} (h : x.nf p = true) : (renV fr a b x).nf p = true := by
  cases x with
  | gslice f s cs n e =>
    simp only [renV]
    split
    · simp only [V.nf, Bool.and_eq_true] at h ⊢
      exact ⟨⟨by rw [hfr]; rfl, h.1.2⟩, h.2⟩
    · exact h
  | _ => exact h
theorem moveAll_nf (hfr : ∀ s, p fr s = false) (b : Nat) : ∀ (ds : List Nat) {t t' : List V} {H H' : Heap}, nfL p t = true → Gd p H0 H → moveAll fr b ds t H = some (t', H') → nfL p t' = true ∧ Gd p H0 H'
  | [], t, t', H, H', ht, g, h => by
    simp only [moveAll, Option.some.injEq, Prod.mk.injEq] at h
    obtain ⟨rfl, rfl⟩ := h
    exact ⟨ht, g⟩
  | a :: r, t, t', H, H', ht, g, h => by
    simp only [moveAll] at h
    split at h
    · rename_i t1 H1 h1
      unfold moveOne at h1
      split at h1
      · split at h1
        · cases h1
        · split at h1
          · cases h1
            refine moveAll_nf hfr b r ?_ ?_ h
            · rw [nl_iff] at ht ⊢
              intro x hx
              obtain ⟨y, hy, rfl⟩ := List.mem_map.1 hx
              exact renV_nf hfr a b (ht y hy)
            · exact (g.del hfr [a]).wr (w := some (fr, b, _)) (by intro f s o e; cases e; exact ⟨hfr _, rfl⟩)
          · cases h1
      · cases h1; exact moveAll_nf hfr b r ht g h
    · cases h
theorem forget_nf (hfr : ∀ s, p fr s = false) {r : Nat} {t t' : List V} {H H' : Heap} (ht : nfL p t = true) (g : Gd p H0 H) (h : forget pol fn fr r t H = some (t', H')) : nfL p t' = true ∧ Gd p H0 H' := by
  unfold forget at h
  split at h
  · cases h
  rename_i t1 H1 h1
  have a := forgetK_nf hfr ht g h1
  split at h
  · cases h; exact a
  split at h
  · cases h
  rename_i H2 h2
  exact moveAll_nf hfr _ _ a.1 (dropAll_nf hfr _ a.2 h2) h

theorem nextC_nf {H : Heap} {x : V} (hx : x.nf p = true) (g : Gd p H0 H) {cs : List (V × Option (Nat × Nat × O))} (h : nextC (hget H) x = some cs) : ∀ c ∈ cs, c.1.nf p = true ∧ WOk p c.2 := by
  have leftE_nf : ∀ (seen : List Nat) (es : List (V × V)) (bs : List Nat), nfM p es = true → ∀ e ∈ leftE seen es bs, e.1.1.nf p = true ∧ e.1.2.nf p = true := by
    intro seen es
    induction es with
    | nil => intro bs _ e he; simp [leftE] at he
    | cons y es ih =>
      intro bs hn e he
      have hn' := nm_iff.1 hn
      cases bs with
      | nil => simp [leftE] at he
      | cons b bs =>
        simp only [leftE] at he
        split at he
        · exact ih bs (nm_iff.2 fun z hz => hn' z (List.mem_cons_of_mem _ hz)) e he
        · rcases List.mem_cons.1 he with rfl | he
          · exact hn' y (by simp)
          · exact ih bs (nm_iff.2 fun z hz => hn' z (List.mem_cons_of_mem _ hz)) e he
  unfold nextC at h
  split at h
  case h_2 => cases h
  have hxp := hx
  simp only [V.nf, Bool.not_eq_true'] at hxp
  split at h
  · cases h
    intro c hc
    rw [List.mem_singleton.1 hc]
    exact ⟨rfl, wok_some hxp rfl⟩
  · rename_i m _ _ _ ho
    have hi := g.cl _ _ _ ho hxp
    simp only [O.nf, Bool.not_eq_true'] at hi
    split at h
    case h_2 => cases h
    rename_i hm
    have hes : nfM p _ = true := g.cl _ _ _ hm hi
    split at h
    case isFalse => cases h
    split at h
    · cases h
      intro c hc
      rw [List.mem_singleton.1 hc]
      exact ⟨rfl, wok_some hxp rfl⟩
    · cases h
      intro c hc
      obtain ⟨e, he, rfl⟩ := List.mem_map.1 hc
      have := leftE_nf _ _ _ hes e he
      exact ⟨by simp [V.nf, nfL, this.1, this.2], wok_some hxp (by simp [O.nf, hi])⟩
  · cases h

theorem exec_nf2 (hC : CNF C) (hP : PNF pol) (hfr : ∀ s, p fr s = false) (hp0 : ∀ f s, p f s = true → f < H0.length) {L : MBody → Body} (hL : ∀ b, MNF p H0 b → BNF p H0 (L b)) : ∀ c : Code,
    BNF p H0 (exec P pol C L fn fr c) ∧ ∀ v w, v.nf p = true → WOk p w → BNF p H0 (execF P pol C L fn fr c v w) := by
  have nof : ∀ {c : Code}, (∀ v w, execF P pol C L fn fr c v w = fun _ _ => none) → ∀ v w, v.nf p = true → WOk p w → BNF p H0 (execF P pol C L fn fr c v w) := by
    intro c hc v w _ _ t H e t' H' _ _ h
    rw [hc] at h; cases h
  intro c
  induction c with
  | skip => exact ⟨fun t H e t' H' ht g h => by simp only [exec] at h; cases h; exact ⟨ht, g, rfl⟩, nof fun v w => by simp only [execF]⟩
  | region id ops draw =>
    constructor
    · intro t H e t' H' ht g h
      simp only [exec] at h
      split at h
      · split at h
        · rename_i h1
          split at h
          · cases h
            have a := runOpsT_nf hC hP hfr hp0 _ _ _ _ _ _ ht g h1
            exact ⟨a.1, a.2, rfl⟩
          · cases h
        · cases h
      · exact runOps_nf hC hP hfr hp0 _ _ _ _ _ _ ht g h
    · intro v w hv hw t H e t' H' ht g h
      simp only [execF] at h
      split at h
      · exact runOps_nf hC hP hfr hp0 _ _ _ _ _ _ (putT_nf ht _ hv) (g.wr hw) h
      · cases h
  | seq a b iha ihb =>
    constructor
    · intro t H e t' H' ht g h
      simp only [exec] at h
      split at h
      · rename_i h1
        have q := iha.1 _ _ _ _ _ ht g h1
        exact ihb.1 _ _ _ _ _ q.1 q.2.1 h
      · exact iha.1 _ _ _ _ _ ht g h
    · intro v w hv hw t H e t' H' ht g h
      simp only [execF] at h
      split at h
      · rename_i h1
        have q := iha.2 v w hv hw _ _ _ _ _ ht g h1
        exact ihb.1 _ _ _ _ _ q.1 q.2.1 h
      · exact iha.2 v w hv hw _ _ _ _ _ ht g h
  | cond c x y ihx ihy =>
    refine ⟨?_, nof fun v w => by simp only [execF]⟩
    intro t H e t' H' ht g h
    simp only [exec] at h
    split at h
    · split at h
      · exact ihx.1 _ _ _ _ _ ht g h
      · exact ihy.1 _ _ _ _ _ ht g h
    · cases h
  | block id b ih =>
    refine ⟨?_, nof fun v w => by simp only [execF]⟩
    intro t H e t' H' ht g h
    simp only [exec] at h
    split at h
    · rename_i h1
      have q := ih.1 _ _ _ _ _ ht g h1
      split at h
      · cases h; exact ⟨q.1, q.2.1, rfl⟩
      · cases h; exact q
    · exact ih.1 _ _ _ _ _ ht g h
  | loop b ih =>
    refine ⟨?_, nof fun v w => by simp only [execF]⟩
    intro t H e t' H' ht g h
    simp only [exec] at h
    refine hL _ ?_ t H e t' H' ht g h
    intro t H ht g x hx e t' H' hxe
    cases hf : forget pol fn fr (fstRegion b) t H with
    | none =>
      simp only [hf, List.mem_singleton] at hx
      subst hx; cases hxe
    | some q =>
      obtain ⟨t1, H1⟩ := q
      have q := forget_nf hfr ht g hf
      cases hh : headNext b with
      | none =>
        simp only [hf, hh, List.mem_singleton] at hx
        subst hx
        exact ih.1 _ _ _ _ _ q.1 q.2 hxe
      | some z =>
        cases hn : nextC (hget H1) (rho t1 z) with
        | none =>
          simp only [hf, hh, hn, List.mem_singleton] at hx
          subst hx; cases hxe
        | some cs =>
          simp only [hf, hh, hn] at hx
          obtain ⟨y, hy, rfl⟩ := List.mem_map.1 hx
          have a := nextC_nf (rho_nf q.1 z) q.2 hn y hy
          exact ih.2 _ _ a.1 a.2 _ _ _ _ _ q.1 q.2 hxe
  | exit id => exact ⟨fun t H e t' H' ht g h => by simp only [exec] at h; cases h; exact ⟨ht, g, rfl⟩, nof fun v w => by simp only [execF]⟩
  | ret => exact ⟨fun t H e t' H' ht g h => by simp only [exec] at h; cases h; exact ⟨ht, g, rfl⟩, nof fun v w => by simp only [execF]⟩
  | _ => exact ⟨fun t H e t' H' ht g h => (by simp only [exec] at h; cases h), nof fun v w => by simp only [execF]⟩

theorem resL_nf {t : List V} {H : Heap} (ht : nfL p t = true) (g : Gd p H0 H) : ∀ (rs : List ResultVar) (vs : List V), resL P t H rs = some vs → nfL p vs = true
  | [], vs, h => by cases h; rfl
  | r :: rs, vs, h => by
    unfold resL at h
    split at h
    · rename_i v vs' h1 h2
      cases h
      have a : v.nf p = true := by
        unfold resOne at h1
        split at h1
        · cases h1; exact rho_nf ht (.tmp _)
        · rename_i a T
          have hx := rho_nf (p := p) ht (.tmp a)
          simp only [rho] at hx
          split at h1
          · rename_i he
            rw [he] at hx
            split at h1
            · rename_i ho
              exact n_readAt (g.cl _ _ _ ho (by simpa [V.nf] using hx)) h1
            · cases h1
          · cases h1
      simp only [nfL, Bool.and_eq_true]
      exact ⟨a, resL_nf ht g rs vs' h2⟩
    · cases h
theorem resV_nf {t : List V} {H : Heap} {F : Func} {v : V} (ht : nfL p t = true) (g : Gd p H0 H) (h : resV P F t H = some v) : v.nf p = true := by
  unfold resV at h
  split at h
  · rename_i h1
    cases h
    have := resL_nf ht g _ _ h1
    simpa [nfL] using this
  · rename_i h1
    cases h
    exact resL_nf ht g _ _ h1
  · cases h

theorem settle1_nf {t : List V} {H H' : Heap} {k : Nat} (ht : nfL p t = true) (g : Gd p H0 H) (h : settle1 t H k = some H') : Gd p H0 H' := by
  unfold settle1 at h
  have hx := rho_nf (p := p) ht (.tmp k)
  simp only [rho] at hx
  split at h
  · rename_i f s o he
    rw [he] at hx
    simp only [V.nf, Bool.not_eq_true'] at hx
    split at h
    · rename_i xs ho
      have hxs : nfL p xs = true := g.cl _ _ _ ho hx
      split at h
      · rename_i f1 s1 o1 len cap esz hi
        have h1 := nl_get hxs hi
        simp only [V.nf, Bool.not_eq_true'] at h1
        split at h
        · rename_i ys hy
          have hys : nfL p ys = true := g.cl _ _ _ hy h1
          split at h
          · rename_i hc
            cases h
            have g1 := g.wr (wok_some (o := .dead) h1 rfl)
            refine Gd.wr (w := some (f, s, _)) g1 (wok_some hx ?_)
            refine nl_set _ hxs ?_
            simp only [V.nf, Bool.and_eq_true]
            exact ⟨pl_take _ (pl_drop _ hc.2.1), nl_take _ (nl_drop _ hys)⟩
          · cases h
        · cases h
      · cases h; exact g
      · cases h
    · cases h
  · cases h; exact g
  · cases h; exact g
  · cases h
theorem settleL_nf {t : List V} (ht : nfL p t = true) : ∀ (ks : List Nat) {H H' : Heap}, Gd p H0 H → settleL ks t H = some H' → Gd p H0 H'
  | [], _, _, g, h => by cases h; exact g
  | k :: ks, _, _, g, h => by
    unfold settleL at h
    split at h
    · rename_i h1
      exact settleL_nf ht ks (settle1_nf ht g h1) h
    · cases h

theorem popF_nf (hp0 : ∀ f s, p f s = true → f < H0.length) {H : Heap} (g : Gd p H0 H) (v : V) : Gd p H0 (popF H0.length v H) := by
  refine ⟨fun f fr hfr e he hp => ?_, fun f s hp => ?_, popF_len g.len⟩
  · unfold popF at hfr
    split at hfr
    · rw [List.getElem?_take] at hfr
      split at hfr
      · exact g.ca f fr hfr e he hp
      · cases hfr
    · exact g.ca f fr hfr e he hp
  · rw [popF_get (hp0 f s hp)]; exact g.keep f s hp

theorem callB_nf (hC : CNF C) (hP : PNF pol) {L : MBody → Body} (hL : ∀ p H0 b, MNF p H0 b → BNF p H0 (L b)) : CNF (callB P pol C L) := by
  intro p f args H r H' hp0 hcl ha h
  unfold callB at h
  split at h
  case h_2 => cases h
  rename_i F _
  split at h
  case h_2 => cases h
  rename_i c _
  have hfr : ∀ s, p H.length s = false := fun s => by
    cases hq : p H.length s with
    | false => rfl
    | true => exact absurd (hp0 _ _ hq) (Nat.lt_irrefl _)
  have g0 : Gd p H (H ++ [[]]) := ⟨fun f fr hfr e he hp => by
      rcases Nat.lt_or_ge f H.length with q | q
      · rw [List.getElem?_append_left q] at hfr
        exact hcl f fr hfr e he hp
      · rw [List.getElem?_append_right q] at hfr
        have : f - H.length = 0 := by
          have := (List.getElem?_eq_some_iff.1 hfr).1
          simp at this; omega
        rw [this] at hfr
        simp at hfr
        subst hfr; exact (List.not_mem_nil he).elim, fun f s _ => hget_push H f s, by simp⟩
  have ht0 : nfL p (args ++ List.replicate (F.ntmps - args.length) .bad) = true := nl_app ha (nl_rep _ rfl)
  have ex := (exec_nf2 (P := P) (pol := pol) (fn := f) (fr := H.length) hC hP hfr hp0 (hL p H) c).1
  have key : ∀ e t H1, settleO (pol.settle f) (exec P pol C L f H.length c (args ++ List.replicate (F.ntmps - args.length) .bad) (H ++ [[]])) = some (e, t, H1) → nfL p t = true ∧ Gd p H H1 ∧ e.nf p = true := by
    intro e t H1 hs
    cases hx : exec P pol C L f H.length c (args ++ List.replicate (F.ntmps - args.length) .bad) (H ++ [[]]) with
    | none => rw [hx] at hs; cases hs
    | some x =>
      obtain ⟨e0, t0, H2⟩ := x
      have a := ex _ _ _ _ _ ht0 g0 hx
      rw [hx] at hs
      cases e0 with
      | normal =>
        obtain ⟨H3, h3, h4⟩ := Option.map_eq_some_iff.1 hs
        cases h4
        exact ⟨a.1, settleL_nf a.1 _ a.2.1 h3, rfl⟩
      | ret =>
        obtain ⟨H3, h3, h4⟩ := Option.map_eq_some_iff.1 hs
        cases h4
        exact ⟨a.1, settleL_nf a.1 _ a.2.1 h3, rfl⟩
      | exit i => cases hs; exact a
      | panic v => cases hs; exact a
  split at h
  · rename_i h1
    split at h
    · rename_i h2
      cases h
      have a := key _ _ _ h1
      exact ⟨popF_nf hp0 a.2.1 _, by simpa [Rt.nf] using resV_nf a.1 a.2.1 h2⟩
    · cases h
  · rename_i h1
    split at h
    · rename_i h2
      cases h
      have a := key _ _ _ h1
      exact ⟨popF_nf hp0 a.2.1 _, by simpa [Rt.nf] using resV_nf a.1 a.2.1 h2⟩
    · cases h
  · rename_i h1
    cases h
    have a := key _ _ _ h1
    exact ⟨popF_nf hp0 a.2.1 _, by simpa [Rt.nf, Ex.nf] using a.2.2⟩
  · cases h

theorem callN_nf (hP : PNF pol) : ∀ n, CNF (callN P pol n)
  | 0 => fun _ _ _ _ _ _ _ _ _ h => by cases h
  | n + 1 => callB_nf (callN_nf hP n) hP fun _ _ _ hb => loopN_nf hb n
theorem callW_nf (hP : PNF pol) : CNF (callW P pol) := fun p f args H r H' h1 h2 h3 h => by
  obtain ⟨n, hn⟩ := callW_some.1 h
  exact callN_nf hP n p f args H r H' h1 h2 h3 hn

theorem CR.keep (hP : PNF pol) {f : FuncId} {args : List V} {H : Heap} {R : V → Heap → Prop} (h : CR P pol f args H R) (p : Nat → Nat → Bool) (hp0 : ∀ f s, p f s = true → f < H.length) (hcl : ClA p H) (ha : nfL p args = true) :
    CR P pol f args H fun v H' => R v H' ∧ Gd p H H' ∧ v.nf p = true := by
  obtain ⟨r, H', h1, v, rfl, h2⟩ := h
  have a := callW_nf hP p f args H _ H' hp0 hcl ha h1
  exact ⟨_, H', h1, v, rfl, h2, a.1, a.2⟩
theorem clear_of {q : Nat → Nat → Bool} : ∀ (H : Heap) , (∀ fr ∈ H, ∀ e ∈ fr, e.2.refs q = false) → clearH q H = true
  | [], _ => rfl
  | F :: H, h => by
    simp only [clearH, Bool.and_eq_true]
    refine ⟨?_, clear_of H fun fr hf => h fr (List.mem_cons_of_mem _ hf)⟩
    have h1 := h F (by simp)
    clear h
    induction F with
    | nil => rfl
    | cons e F ih =>
      obtain ⟨k, o⟩ := e
      simp only [clearF, Bool.and_eq_true, Bool.not_eq_true']
      exact ⟨h1 (k, o) (by simp), ih fun x hx => h1 x (List.mem_cons_of_mem _ hx)⟩
end
end Go.AM
end
