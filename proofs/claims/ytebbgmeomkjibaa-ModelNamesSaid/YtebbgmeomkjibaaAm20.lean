/- The abstract machine, part 20: operations that are not ordered may change places. -/
import Derived.Test.YtebbgmeomkjibaaAm19
set_option linter.unusedSimpArgs false
set_option linter.unusedVariables false
namespace Go.AM

/-- The slots that an operation names. -/
def opNames (ops : Array Oper) (o : Oper) : List Nat :=
  o.dst.toList ++ (o.op.operands.toList.filterMap fun | .tmp i => some i | _ => none) ++ (match o.guard with | some (j, _) => ((ops[j]?).bind (·.dst)).toList | none => [])

/-- Two operations write no slot that the other one names. -/
def apartO (ops : Array Oper) (a b : Oper) : Bool :=
  (match a.dst with | some d => !(opNames ops b).contains d | none => true) && (match b.dst with | some d => !(opNames ops a).contains d | none => true)

section
variable {P : Program} {pol : Pol} {C : Call} {fn fr : Nat} {ops : Array Oper}

theorem putT_get (t : List V) (dst : Option Nat) (v : V) (i : Nat) (h : dst ≠ some i) : (putT t dst v)[i]? = t[i]? := by
  cases dst with
  | none => rfl
  | some d =>
    simp only [putT]
    rw [List.getElem?_set_ne]
    exact fun e => h (by rw [e])

theorem rho_put (t : List V) (dst : Option Nat) (v : V) (x : Operand) (h : ∀ i, x = .tmp i → dst ≠ some i) : rho (putT t dst v) x = rho t x := by
  cases x with
  | tmp i => simp only [rho, List.getD, putT_get t dst v i (h i rfl)]
  | _ => rfl

theorem apart_operand {a b : Oper} (h : apartO ops a b = true) {v : V} (t : List V) : ∀ x ∈ b.op.operands, rho (putT t a.dst v) x = rho t x := by
  intro x hx
  refine rho_put t a.dst v x ?_
  intro i e hd
  simp only [apartO, hd, Bool.and_eq_true, Bool.not_eq_true'] at h
  have : i ∈ opNames ops b := by
    subst e
    simp only [opNames, List.mem_append, List.mem_filterMap]
    exact .inl (.inr ⟨.tmp i, by simpa using hx, rfl⟩)
  have h1 := h.1
  simp at h1
  exact h1 this

theorem apart_wanted {a b : Oper} (h : apartO ops a b = true) {v : V} (t : List V) : wantedV ops (putT t a.dst v) b = wantedV ops t b := by
  unfold wantedV
  cases hg : b.guard with
  | none => rfl
  | some jw =>
    obtain ⟨j, want⟩ := jw
    simp only
    cases hd : (ops[j]?).bind (·.dst) with
    | none => rfl
    | some d =>
      simp only [Option.bind_some]
      rw [putT_get]
      intro e
      simp only [apartO, e, Bool.and_eq_true, Bool.not_eq_true'] at h
      have : d ∈ opNames ops b := by
        simp only [opNames, List.mem_append, hg, hd]
        exact .inr (by simp)
      have h1 := h.1
      simp at h1
      exact h1 this

theorem apart_symm {a b : Oper} (h : apartO ops a b = true) : apartO ops b a = true := by
  simp only [apartO, Bool.and_eq_true] at h ⊢; exact ⟨h.2, h.1⟩

theorem put_comm {a b : Oper} (h : apartO ops a b = true) (t : List V) (v u : V) : putT (putT t a.dst v) b.dst u = putT (putT t b.dst u) a.dst v := by
  cases ha : a.dst with
  | none => rfl
  | some d =>
    cases hb : b.dst with
    | none => rfl
    | some e =>
      simp only [putT]
      rw [List.set_comm]
      intro he
      subst he
      simp only [apartO, ha, hb, Bool.and_eq_true, Bool.not_eq_true'] at h
      have : d ∈ opNames ops b := by simp [opNames, hb]
      have h1 := h.1
      simp at h1
      exact h1 this

theorem fset_comm (s s' : Nat) (o o' : O) (h : s ≠ s') : ∀ fr : Frame, fset (fset fr s o) s' o' = fset (fset fr s' o') s o
  | [] => by
    simp only [fset]
    by_cases h1 : s' < s
    · have h2 : ¬ s < s' := by omega
      simp only [h, h.symm, h1, h2, if_true, if_false]
    · have h2 : s < s' := by omega
      simp only [h, h.symm, h1, h2, if_true, if_false]
  | (k, p) :: r => by
    simp only [fset]
    by_cases e1 : s = k
    · subst e1
      simp only [if_true]
      by_cases e2 : s' < s
      · have : ¬ s < s' := by omega
        simp only [fset, h, h.symm, e2, this, if_true, if_false]
      · simp only [fset, h, h.symm, e2, if_true, if_false]
    · by_cases e2 : s' = k
      · subst e2
        simp only [if_true, e1, if_false]
        by_cases e3 : s < s'
        · have : ¬ s' < s := by omega
          simp only [fset, h, h.symm, e3, this, if_true, if_false]
        · simp only [fset, h, e3, if_true, if_false]
      · simp only [e1, e2, if_false]
        by_cases e3 : s < k
        · by_cases e4 : s' < k
          · simp only [e3, e4, if_true, fset, h, h.symm, if_false]
            by_cases e5 : s' < s
            · have : ¬ s < s' := by omega
              simp only [e5, this, e3, e1, if_true, if_false]
            · have : s < s' := by omega
              simp only [e5, this, e4, e2, if_true, if_false]
          · have : ¬ s' < s := by omega
            simp only [e3, e4, if_true, if_false, fset, h.symm, e1, e2, this]
        · by_cases e4 : s' < k
          · have : ¬ s < s' := by omega
            simp only [e3, e4, if_true, if_false, fset, h, e1, e2, this]
          · simp only [e3, e4, if_false, fset, e1, e2, fset_comm s s' o o' h r]

theorem hset_comm (H : Heap) {f s f' s' : Nat} (o o' : O) (h : ¬ (f = f' ∧ s = s')) : hset (hset H f s o) f' s' o' = hset (hset H f' s' o') f s o := by
  unfold hset
  apply List.ext_getElem?
  intro i
  simp only [List.getElem?_modify]
  by_cases e1 : f = i
  · by_cases e2 : f' = i
    · have hs : s ≠ s' := fun e => h ⟨e1.trans e2.symm, e⟩
      simp only [e1, e2, if_true]
      cases H[i]? with
      | none => rfl
      | some x => simp [fset_comm s s' o o' hs x]
    · simp only [e1, e2, if_true, if_false]
      cases H[i]? <;> rfl
  · by_cases e2 : f' = i
    · simp only [e1, e2, if_true, if_false]
      cases H[i]? <;> rfl
    · simp only [e1, e2, if_false]

theorem hget_hset_ne (H : Heap) {f s f' s' : Nat} (o : O) (h : ¬ (f' = f ∧ s' = s)) : hget (hset H f s o) f' s' = hget H f' s' := by
  unfold hget hset
  rw [List.getElem?_modify]
  by_cases e : f = f'
  · subst e
    cases H[f]? with
    | none => rfl
    | some x => simp [fget_fset]; exact fun h' => absurd ⟨rfl, h'⟩ h
  · simp only [e, if_false]
    cases H[f']? <;> rfl

def widOf : Option (Nat × Nat × O) → List (Nat × Nat)
  | none => []
  | some (f, s, _) => [(f, s)]

/-- What one operation comes to, and what it asks: its value and footprint. -/
theorem fp_cases (t : List V) (H : Heap) (o : Oper) {t1 : List V} {H1 : Heap} (h : opOne P pol C fn fr t H o = some (.normal, t1, H1)) :
    (fpOf P pol fn fr t H o = .quiet ∧ ∃ v, t1 = putT t o.dst v ∧ H1 = H ∧ ∀ (t' : List V) (H' : Heap), (∀ x ∈ o.op.operands, rho t' x = rho t x) → opOne P pol C fn fr t' H' o = some (.normal, putT t' o.dst v, H') ∧ fpOf P pol fn fr t' H' o = .quiet) ∨
    (∃ w v, fpOf P pol fn fr t H o = .ids (idsOf fr (rho t) o) (widOf w) ∧ t1 = putT t o.dst v ∧ H1 = wr H w ∧
      ∀ (t' : List V) (H' : Heap), (∀ x ∈ o.op.operands, rho t' x = rho t x) → (∀ f s, (f, s) ∈ idsOf fr (rho t) o → hget H' f s = hget H f s) →
        opOne P pol C fn fr t' H' o = some (.normal, putT t' o.dst v, wr H' w) ∧ fpOf P pol fn fr t' H' o = .ids (idsOf fr (rho t) o) (widOf w)) ∨
    (fpOf P pol fn fr t H o = .all ∧ ∃ v, t1 = putT t o.dst v ∧
      ∀ (t' : List V), (∀ x ∈ o.op.operands, rho t' x = rho t x) → opOne P pol C fn fr t' H o = some (.normal, putT t' o.dst v, H1) ∧ fpOf P pol fn fr t' H o = .all) := by
  have hids : ∀ t' : List V, (∀ x ∈ o.op.operands, rho t' x = rho t x) → idsOf fr (rho t') o = idsOf fr (rho t) o := by
    intro t' ht
    simp only [idsOf]
    congr 1
    have : ∀ l : List Operand, (∀ x ∈ l, rho t' x = rho t x) → l.filterMap (fun x => (rho t' x).id?) = l.filterMap fun x => (rho t x).id? := by
      intro l
      induction l with
      | nil => intro _; rfl
      | cons x l ih => intro hl; simp only [List.filterMap_cons]; rw [hl x (by simp), ih (fun y hy => hl y (by simp [hy]))]
    exact this _ (fun x hx => ht x (by simpa using hx))
  unfold opOne at h
  by_cases hq : quietOp o.op = true
  · left
    split at h
    · cases h
    · rename_i v w hev
      obtain ⟨v', hv'⟩ := evOp_quiet_val hq hev
      cases hv'
      cases h
      refine ⟨by simp [fpOf, hq], v, rfl, rfl, fun t' H' ht => ⟨?_, by simp [fpOf, hq]⟩⟩
      have e : evOp P (pol.mt fn) fr (hget H') (rho t') o = some (.val v none) := by
        rw [evOp_rho ht, evOp_quiet (g' := hget H) hq, hev]
      simp only [opOne, e, wr]
    · rename_i v hev
      obtain ⟨v', hv'⟩ := evOp_quiet_val hq hev
      cases hv'
    · rename_i f args hev
      obtain ⟨v', hv'⟩ := evOp_quiet_val hq hev
      cases hv'
  · split at h
    · cases h
    · rename_i v w hev
      by_cases hfar : farOp o.op = true
      · right; right
        cases h
        refine ⟨by simp [fpOf, hq, hfar], v, rfl, fun t' ht => ⟨?_, by simp [fpOf, hq, hfar]⟩⟩
        have e : evOp P (pol.mt fn) fr (hget H) (rho t') o = some (.val v w) := by rw [evOp_rho ht, hev]
        simp only [opOne, e]
      have hfar' : farOp o.op = false := by simpa using hfar
      right; left
      cases h
      have hfp : ∀ (t' : List V) (H' : Heap), evOp P (pol.mt fn) fr (hget H') (rho t') o = some (.val v w) → idsOf fr (rho t') o = idsOf fr (rho t) o → fpOf P pol fn fr t' H' o = .ids (idsOf fr (rho t) o) (widOf w) := by
        intro t' H' e hi
        simp only [fpOf, hq, hfar', Bool.false_eq_true, if_false, e]
        cases w with
        | none => simp only [widOf, hi]
        | some x => obtain ⟨f, s, q⟩ := x; simp only [widOf, hi]
      refine ⟨w, v, hfp t H hev rfl, rfl, rfl, fun t' H' ht hg => ?_⟩
      have e : evOp P (pol.mt fn) fr (hget H') (rho t') o = some (.val v w) := by
        rw [evOp_rho ht, evOp_get (g' := hget H) hfar' hg, hev]
      exact ⟨by simp only [opOne, e], hfp t' H' e (hids t' ht)⟩
    · cases h
    · rename_i f args hev
      have hfar' : farOp o.op = false := by
        cases ho : o.op <;> first | rfl | skip
        simp only [evOp, ho] at hev
        cases hx : entryV (hget H) (rho t _) with
        | none => rw [hx] at hev; cases hev
        | some y => rw [hx] at hev; cases hev
      have hcall : ∀ (t' : List V) (H' : Heap), (∀ x ∈ o.op.operands, rho t' x = rho t x) → evOp P (pol.mt fn) fr (hget H') (rho t') o = some (.call f args) := by
        intro t' H' ht
        rw [evOp_rho ht]
        exact evOp_call hev
      by_cases hp : ((pol.prim f).isNone && pol.pure fn f) = true
      · left
        have hp' := hp
        simp only [Bool.and_eq_true, Option.isNone_iff_eq_none] at hp'
        have pureCall : ∀ (H' : Heap), callOp pol C fn fr o.dst f args H' = (callOp pol C fn fr o.dst f args H).map fun x => (x.1, H') := by
          intro H'
          simp only [callOp, hp'.1, hp'.2, if_true]
          split
          · split
            · rename_i v1 H2 _; cases frz (hget H2) depth v1 <;> rfl
            · rename_i v1 H2 _; cases frz (hget H2) depth v1 <;> rfl
            · rfl
          · rfl
        split at h
        · rename_i v H2 hc
          cases h
          have hH : H1 = H := by
            have := pureCall H
            rw [hc] at this
            simp at this
            exact this
          subst hH
          refine ⟨by simp only [fpOf, hq, hfar', Bool.false_eq_true, if_false, hev, hp, if_true], v, rfl, rfl, fun t' H' ht => ⟨?_, ?_⟩⟩
          · have := pureCall H'
            rw [hc] at this
            simp only [opOne, hcall t' H' ht, this, Option.map_some]
          · simp only [fpOf, hq, hfar', Bool.false_eq_true, if_false, hcall t' H' ht, hp, if_true]
        · cases h
        · cases h
      · by_cases hl : ((pol.prim f).isNone && pol.lift fn f) = true
        · cases hd : o.dst with
          | none =>
            right; right
            split at h
            · rename_i v H2 hc
              cases h
              refine ⟨by simp only [fpOf, hq, hfar', Bool.false_eq_true, if_false, hev, hp, hl, if_true, hd], v, by rw [hd], fun t' ht => ⟨?_, ?_⟩⟩
              · rw [hd] at hc; simp only [opOne, hcall t' H ht, hc, hd]
              · simp only [fpOf, hq, hfar', Bool.false_eq_true, if_false, hcall t' H ht, hp, hl, if_true, hd]
            · cases h
            · cases h
          | some d =>
            right; left
            have hl' := hl
            simp only [Bool.and_eq_true, Option.isNone_iff_eq_none] at hl'
            have hpure : pol.pure fn f = false := by
              cases hx : pol.pure fn f with
              | false => rfl
              | true => exact absurd (by simp [hl'.1, hx]) hp
            have liftCall : ∀ (H' : Heap), (hget H' fr d = hget H fr d) → callOp pol C fn fr (some d) f args H' = (callOp pol C fn fr (some d) f args H).bind fun x => match x with
                | (.ret v, _) => (match callOp pol C fn fr (some d) f args H with
                  | some _ => (match frzL (frz (fun _ _ => none) depth) args with
                    | some args => (match C f args [] with
                      | some (.ret v, H2) => (liftV H2 fr (some d) H v).map fun x => (.ret x.1, wr H' (some (fr, x.2.1, x.2.2)))
                      | _ => none)
                    | none => none)
                  | none => none)
                | _ => none := by
              intro H' hg
              simp only [callOp, hl'.1, hl'.2, hpure, Bool.false_eq_true, if_false, if_true]
              cases frzL (frz (fun _ _ => none) depth) args with
              | none => rfl
              | some ys =>
                simp only
                cases C f ys [] with
                | none => rfl
                | some q =>
                  obtain ⟨q, H2⟩ := q
                  cases q with
                  | pan v => rfl
                  | ret v =>
                    simp only
                    have : liftV H2 fr (some d) H' v = liftV H2 fr (some d) H v := by
                      unfold liftV
                      cases v <;> simp only [hg]
                    rw [this]
                    cases liftV H2 fr (some d) H v <;> rfl
            have hshape : ∀ v H2, callOp pol C fn fr (some d) f args H = some (.ret v, H2) → ∃ o', H2 = wr H (some (fr, d, o')) ∧ ∀ H', hget H' fr d = hget H fr d → callOp pol C fn fr (some d) f args H' = some (.ret v, wr H' (some (fr, d, o'))) := by
              intro v H2 hc
              have hc0 := hc
              simp only [callOp, hl'.1, hl'.2, hpure, Bool.false_eq_true, if_false, if_true] at hc
              split at hc
              case h_2 => cases hc
              rename_i ys hys
              split at hc
              case h_2 => cases hc
              rename_i v1 H1' hC
              cases hL : liftV H1' fr (some d) H v1 with
              | none => rw [hL] at hc; cases hc
              | some x =>
                rw [hL] at hc; cases hc
                have hx : x.2.1 = d := by
                  unfold liftV at hL
                  split at hL
                  · rename_i hdd
                    split at hL
                    · rename_i es bs clk _ _
                      cases hz : frzM (frz (hget H1') depth) es with
                      | none => rw [hz] at hL; cases hL
                      | some es' => rw [hz] at hL; cases hL; cases hdd; rfl
                    · cases hL
                  · cases hL
                rw [hx]
                refine ⟨x.2.2, rfl, fun H' hg => ?_⟩
                rw [liftCall H' hg, hc0]
                simp only [Option.bind_some, hys, hC, hL, Option.map_some, hx]
            split at h
            · rename_i v H2 hc
              rw [hd] at hc
              cases h
              obtain ⟨o', rfl, hall⟩ := hshape v _ hc
              have hfp : ∀ (t' : List V) (H' : Heap), (∀ x ∈ o.op.operands, rho t' x = rho t x) → fpOf P pol fn fr t' H' o = .ids (idsOf fr (rho t) o) (widOf (some (fr, d, o'))) := by
                intro t' H' ht
                simp only [fpOf, hq, hfar', Bool.false_eq_true, if_false, hcall t' H' ht, hp, hl, if_true, hd, widOf, hids t' ht]
              refine ⟨some (fr, d, o'), v, hfp t H (fun _ _ => rfl), by rw [hd], rfl, fun t' H' ht hg => ⟨?_, hfp t' H' ht⟩⟩
              have hgd := hg fr d (ids_own hd)
              simp only [opOne, hcall t' H' ht, hd, hall H' hgd]
            · cases h
            · cases h
        · right; right
          split at h
          · rename_i v H2 hc
            cases h
            refine ⟨by simp only [fpOf, hq, hfar', Bool.false_eq_true, if_false, hev, hp, hl], v, rfl, fun t' ht => ⟨?_, ?_⟩⟩
            · simp only [opOne, hcall t' H ht, hc]
            · simp only [fpOf, hq, hfar', Bool.false_eq_true, if_false, hcall t' H ht, hp, hl]
          · cases h
          · cases h

/-- One step of a region, where it asks and writes what the table says. -/
def stepT (P : Program) (pol : Pol) (C : Call) (fn fr : Nat) (ops : Array Oper) (T : List FP) (i : Nat) (t : List V) (H : Heap) : Option (List V × Heap) :=
  match ops[i]? with
  | none => none
  | some o => match wantedV ops t o with
    | none => none
    | some false => if T.getD i .all = .quiet then some (putT t o.dst nov, H) else none
    | some true => if fpOf P pol fn fr t H o = T.getD i .all then (match opOne P pol C fn fr t H o with
      | some (.normal, t1, H1) => some (t1, H1)
      | _ => none) else none

def runT (P : Program) (pol : Pol) (C : Call) (fn fr : Nat) (ops : Array Oper) (T : List FP) : List Nat → List V → Heap → Option (List V × Heap)
  | [], t, H => some (t, H)
  | i :: r, t, H => match stepT P pol C fn fr ops T i t H with
    | some (t1, H1) => runT P pol C fn fr ops T r t1 H1
    | none => none

end
end Go.AM
