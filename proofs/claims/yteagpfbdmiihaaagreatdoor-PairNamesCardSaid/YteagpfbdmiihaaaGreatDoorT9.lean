/- This file holds in one the texts An20, An21, An22; each says at its head what it proves. -/
import Derived.Test.YteagpfbdmiihaaaGreatDoorT8
set_option linter.unusedSimpArgs false
set_option linter.unusedVariables false
section
namespace Go.AM
def Y5 (ops : Array Oper) (o : Oper) : List Nat :=
 o.dst.toList ++ (o.op.operands.toList.filterMap fun | .tmp i => some i | _ => none) ++ (match o.guard with | some (j, _) => ((ops[j]?).bind (·.dst)).toList | none => [])
def Je (ops : Array Oper) (a b : Oper) : Bool :=
 (match a.dst with | some d => !(Y5 ops b).contains d | none => true) && (match b.dst with | some d => !(Y5 ops a).contains d | none => true)
section
variable {P : Program} {pol : Pol} {C : Call} {fn fr : Nat} {ops : Array Oper}
theorem Qew (t : List V) (dst : Option Nat) (v : V) (i : Nat) (h : dst ≠ some i) : (Qe t dst v)[i]? = t[i]? := by
 cases dst with
 | none => rfl
 | some d =>
   simp only [Qe]
   rw [List.getElem?_set_ne]
   exact fun e => h (by rw [e])
theorem Qs5 (t : List V) (dst : Option Nat) (v : V) (x : Operand) (h : ∀ i, x = .tmp i -> dst ≠ some i) : rho (Qe t dst v) x = rho t x := by
 cases x with
 | tmp i => simp only [rho, List.getD, Qew t dst v i (h i rfl)]
 | _ => rfl
theorem Qc4 {a b : Oper} (h : Je ops a b = true) {v : V} (t : List V) : ∀ x ∈ b.op.operands, rho (Qe t a.dst v) x = rho t x := by
 intro x hx
 refine Qs5 t a.dst v x ?_
 intro i e hd
 simp only [Je, hd, Zlm, Zmh] at h
 have : i ∈ Y5 ops b := by
  subst e
  simp only [Y5, Zlq, List.mem_filterMap]
  exact .inl (.inr ⟨.tmp i, by simpa using hx, rfl⟩)
 have h1 := h.1
 simp at h1
 exact h1 this
theorem Qej {a b : Oper} (h : Je ops a b = true) {v : V} (t : List V) : Zu ops (Qe t a.dst v) b = Zu ops t b := by
 unfold Zu
 cases hg : b.guard with
 | none => rfl
 | some jw =>
   obtain ⟨j, want⟩ := jw
   simp only
   cases hd : (ops[j]?).bind (·.dst) with
   | none => rfl
   | some d =>
     simp only [Zlc]
     rw [Qew]
     intro e
     simp only [Je, e, Zlm, Zmh] at h
     have : d ∈ Y5 ops b := by
      simp only [Y5, Zlq, hg, hd]
      exact .inr (by simp)
     have h1 := h.1
     simp at h1
     exact h1 this
theorem Qhy {a b : Oper} (h : Je ops a b = true) : Je ops b a = true := by
 simp only [Je, Zlm] at h ⊢; exact ⟨h.2, h.1⟩
theorem Js {a b : Oper} (h : Je ops a b = true) (t : List V) (v u : V) : Qe (Qe t a.dst v) b.dst u = Qe (Qe t b.dst u) a.dst v := by
 cases ha : a.dst with
 | none => rfl
 | some d =>
   cases hb : b.dst with
   | none => rfl
   | some e =>
     simp only [Qe]
     rw [List.set_comm]
     intro he
     subst he
     simp only [Je, ha, hb, Zlm, Zmh] at h
     have : d ∈ Y5 ops b := by simp [Y5, hb]
     have h1 := h.1
     simp at h1
     exact h1 this
theorem Qjl (s s' : Nat) (o o' : O) (h : s ≠ s') : ∀ fr : Frame, Qs (Qs fr s o) s' o' = Qs (Qs fr s' o') s o
 | [] => by
   simp only [Qs]
   by_cases h1 : s' < s
   . have h2 : ¬ s < s' := by omega
     simp only [h, h.symm, h1, h2, if_true, if_false]
   . have h2 : s < s' := by omega
     simp only [h, h.symm, h1, h2, if_true, if_false]
 | (k, p) :: r => by
   simp only [Qs]
   by_cases e1 : s = k
   . subst e1
     simp only [if_true]
     by_cases e2 : s' < s
     . have : ¬ s < s' := by omega
       simp only [Qs, h, h.symm, e2, this, if_true, if_false]
     . simp only [Qs, h, h.symm, e2, if_true, if_false]
   . by_cases e2 : s' = k
     . subst e2
       simp only [if_true, e1, if_false]
       by_cases e3 : s < s'
       . have : ¬ s' < s := by omega
         simp only [Qs, h, h.symm, e3, this, if_true, if_false]
       . simp only [Qs, h, e3, if_true, if_false]
     . simp only [e1, e2, if_false]
       by_cases e3 : s < k
       . by_cases e4 : s' < k
         . simp only [e3, e4, if_true, Qs, h, h.symm, if_false]
           by_cases e5 : s' < s
           . have : ¬ s < s' := by omega
             simp only [e5, this, e3, e1, if_true, if_false]
           . have : s < s' := by omega
             simp only [e5, this, e4, e2, if_true, if_false]
         . have : ¬ s' < s := by omega
           simp only [e3, e4, if_true, if_false, Qs, h.symm, e1, e2, this]
       . by_cases e4 : s' < k
         . have : ¬ s < s' := by omega
           simp only [e3, e4, if_true, if_false, Qs, h, e1, e2, this]
         . simp only [e3, e4, if_false, Qs, e1, e2, Qjl s s' o o' h r]
theorem Kk (H : Heap) {f s f' s' : Nat} (o o' : O) (h : ¬ (f = f' /\ s = s')) : hset (hset H f s o) f' s' o' = hset (hset H f' s' o') f s o := by
 unfold hset
 apply Zme
 intro i
 simp only [Zku]
 by_cases e1 : f = i
 . by_cases e2 : f' = i
   . have hs : s ≠ s' := fun e => h ⟨e1.trans e2.symm, e⟩
     simp only [e1, e2, if_true]
     cases H[i]? with
     | none => rfl
     | some x => simp [Qjl s s' o o' hs x]
   . simp only [e1, e2, if_true, if_false]
     cases H[i]? <;> rfl
 . by_cases e2 : f' = i
   . simp only [e1, e2, if_true, if_false]
     cases H[i]? <;> rfl
   . simp only [e1, e2, if_false]
theorem Qac (H : Heap) {f s f' s' : Nat} (o : O) (h : ¬ (f' = f /\ s' = s)) : Qb (hset H f s o) f' s' = Qb H f' s' := by
 unfold Qb hset
 rw [Zku]
 by_cases e : f = f'
 . subst e
   cases H[f]? with
   | none => rfl
   | some x => simp [Qbt]; exact fun h' => absurd ⟨rfl, h'⟩ h
 . simp only [e, if_false]
   cases H[f']? <;> rfl
def Qco : Option (Nat × Nat × O) -> List (Nat × Nat)
 | none => []
 | some (f, s, _) => [(f, s)]
theorem Qnd (t : List V) (H : Heap) (o : Oper) {t1 : List V} {H1 : Heap} (h : Ze P pol C fn fr t H o = some (.normal, t1, H1)) :
 (Z8 P pol fn fr t H o = .quiet /\ ∃ v, t1 = Qe t o.dst v /\ H1 = H /\ ∀ (t' : List V) (H' : Heap), (∀ x ∈ o.op.operands, rho t' x = rho t x) -> Ze P pol C fn fr t' H' o = some (.normal, Qe t' o.dst v, H') /\ Z8 P pol fn fr t' H' o = .quiet) \/
 (∃ w v, Z8 P pol fn fr t H o = .ids (Yz fr (rho t) o) (Qco w) /\ t1 = Qe t o.dst v /\ H1 = wr H w /\
   ∀ (t' : List V) (H' : Heap), (∀ x ∈ o.op.operands, rho t' x = rho t x) -> (∀ f s, (f, s) ∈ Yz fr (rho t) o -> Qb H' f s = Qb H f s) ->
     Ze P pol C fn fr t' H' o = some (.normal, Qe t' o.dst v, wr H' w) /\ Z8 P pol fn fr t' H' o = .ids (Yz fr (rho t) o) (Qco w)) \/
 (Z8 P pol fn fr t H o = .all /\ ∃ v, t1 = Qe t o.dst v /\
   ∀ (t' : List V), (∀ x ∈ o.op.operands, rho t' x = rho t x) -> Ze P pol C fn fr t' H o = some (.normal, Qe t' o.dst v, H1) /\ Z8 P pol fn fr t' H o = .all) := by
 have hids : ∀ t' : List V, (∀ x ∈ o.op.operands, rho t' x = rho t x) -> Yz fr (rho t') o = Yz fr (rho t) o := by
  intro t' ht
  simp only [Yz]
  congr 1
  have : ∀ l : List Operand, (∀ x ∈ l, rho t' x = rho t x) -> l.filterMap (fun x => (rho t' x).id?) = l.filterMap fun x => (rho t x).id? := by
   intro l
   induction l with
   | nil => intro _; rfl
   | cons x l ih => intro hl; simp only [List.filterMap_cons]; rw [hl x (by simp), ih (fun y hy => hl y (by simp [hy]))]
  exact this _ (fun x hx => ht x (by simpa using hx))
 unfold Ze at h
 by_cases hq : Qa o.op = true
 . left
   split at h
   . cases h
   . rename_i v w hev
     obtain ⟨v', hv'⟩ := J6 hq hev
     cases hv'
     cases h
     refine ⟨by simp [Z8, hq], v, rfl, rfl, fun t' H' ht => ⟨?_, by simp [Z8, hq]⟩⟩
     have e : Ql P (pol.mt fn) fr (Qb H') (rho t') o = some (.val v none) := by
      rw [Bj ht, Qhq (g' := Qb H) hq, hev]
     simp only [Ze, e, wr]
   . rename_i v hev
     obtain ⟨v', hv'⟩ := J6 hq hev
     cases hv'
   . rename_i f args hev
     obtain ⟨v', hv'⟩ := J6 hq hev
     cases hv'
   . rename_i f s args hev
     obtain ⟨v', hv'⟩ := J6 hq hev
     cases hv'
 . split at h
   . cases h
   . rename_i v w hev
     by_cases hfar : Qd o.op = true
     . right; right
       cases h
       refine ⟨by simp [Z8, hq, hfar], v, rfl, fun t' ht => ⟨?_, by simp [Z8, hq, hfar]⟩⟩
       have e : Ql P (pol.mt fn) fr (Qb H) (rho t') o = some (.val v w) := by rw [Bj ht, hev]
       simp only [Ze, e]
     have hfar' : Qd o.op = false := by simpa using hfar
     right; left
     cases h
     have hfp : ∀ (t' : List V) (H' : Heap), Ql P (pol.mt fn) fr (Qb H') (rho t') o = some (.val v w) -> Yz fr (rho t') o = Yz fr (rho t) o -> Z8 P pol fn fr t' H' o = .ids (Yz fr (rho t) o) (Qco w) := by
      intro t' H' e hi
      simp only [Z8, hq, hfar', Zkz, if_false, e]
      cases w with
      | none => simp only [Qco, hi]
      | some x => obtain ⟨f, s, q⟩ := x; simp only [Qco, hi]
     refine ⟨w, v, hfp t H hev rfl, rfl, rfl, fun t' H' ht hg => ?_⟩
     have e : Ql P (pol.mt fn) fr (Qb H') (rho t') o = some (.val v w) := by
      rw [Bj ht, Qtx (g' := Qb H) hfar' hg, hev]
     exact ⟨by simp only [Ze, e], hfp t' H' e (hids t' ht)⟩
   . cases h
   . rename_i f args hev
     have hfar' : Qd o.op = false := by
      cases ho : o.op <;> first | rfl | skip
      simp only [Ql, ho] at hev
      cases hx : Qan (Qb H) (rho t _) with
      | none => rw [hx] at hev; cases hev
      | some y => rw [hx] at hev; cases hev
     have hcall : ∀ (t' : List V) (H' : Heap), (∀ x ∈ o.op.operands, rho t' x = rho t x) -> Ql P (pol.mt fn) fr (Qb H') (rho t') o = some (.call f args) := by
      intro t' H' ht
      rw [Bj ht]
      exact Qpx hev
     by_cases hp : ((pol.prim f).isNone && pol.pure fn f) = true
     . left
       have hp' := hp
       simp only [Zlm, Option.isNone_iff_eq_none] at hp'
       have pureCall : ∀ (H' : Heap), callOp pol C fn fr o.dst f args H' = (callOp pol C fn fr o.dst f args H).map fun x => (x.1, H') := by
        intro H'
        simp only [callOp, hp'.1, hp'.2, if_true]
        split
        . split
          . rename_i v1 H2 _; cases frz (Qb H2) depth v1 <;> rfl
          . rename_i v1 H2 _; cases frz (Qb H2) depth v1 <;> rfl
          . rfl
        . rfl
       split at h
       . rename_i v H2 hc
         cases h
         have hH : H1 = H := by
          have := pureCall H
          rw [hc] at this
          simp at this
          exact this
         subst hH
         refine ⟨by simp only [Z8, hq, hfar', Zkz, if_false, hev, hp, if_true], v, rfl, rfl, fun t' H' ht => ⟨?_, ?_⟩⟩
         . have := pureCall H'
           rw [hc] at this
           simp only [Ze, hcall t' H' ht, this, Zkw]
         . simp only [Z8, hq, hfar', Zkz, if_false, hcall t' H' ht, hp, if_true]
       . cases h
       . cases h
     . by_cases hl : ((pol.prim f).isNone && pol.lift fn f) = true
       . cases hd : o.dst with
         | none =>
           right; right
           split at h
           . rename_i v H2 hc
             cases h
             refine ⟨by simp only [Z8, hq, hfar', Zkz, if_false, hev, hp, hl, if_true, hd], v, by rw [hd], fun t' ht => ⟨?_, ?_⟩⟩
             . rw [hd] at hc; simp only [Ze, hcall t' H ht, hc, hd]
             . simp only [Z8, hq, hfar', Zkz, if_false, hcall t' H ht, hp, hl, if_true, hd]
           . cases h
           . cases h
         | some d =>
           right; left
           have hl' := hl
           simp only [Zlm, Option.isNone_iff_eq_none] at hl'
           have hpure : pol.pure fn f = false := by
            cases hx : pol.pure fn f with
            | false => rfl
            | true => exact absurd (by simp [hl'.1, hx]) hp
           have liftCall : ∀ (H' : Heap), (Qb H' fr d = Qb H fr d) -> callOp pol C fn fr (some d) f args H' = (callOp pol C fn fr (some d) f args H).bind fun x => match x with
            | (.ret v, _) => (match callOp pol C fn fr (some d) f args H with
              | some _ => (match Zb (frz (fun _ _ => none) depth) args with
                | some args => (match C f args [] with
                  | some (.ret v, H2) => (Qes H2 fr (some d) H v).map fun x => (.ret x.1, wr H' (some (fr, x.2.1, x.2.2)))
                  | _ => none)
                | none => none)
              | none => none)
            | _ => none := by
            intro H' hg
            simp only [callOp, hl'.1, hl'.2, hpure, Zkz, if_false, if_true]
            cases Zb (frz (fun _ _ => none) depth) args with
            | none => rfl
            | some ys =>
              simp only
              cases C f ys [] with
              | none => rfl
              | some q =>
                obtain ⟨q, H2⟩ := q
                cases q with
                | pan v => rfl
                | ret v =>
                  simp only
                  have : Qes H2 fr (some d) H' v = Qes H2 fr (some d) H v := by
                   unfold Qes
                   cases v <;> simp only [hg]
                  rw [this]
                  cases Qes H2 fr (some d) H v <;> rfl
           have hshape : ∀ v H2, callOp pol C fn fr (some d) f args H = some (.ret v, H2) -> ∃ o', H2 = wr H (some (fr, d, o')) /\ ∀ H', Qb H' fr d = Qb H fr d -> callOp pol C fn fr (some d) f args H' = some (.ret v, wr H' (some (fr, d, o'))) := by
            intro v H2 hc
            have hc0 := hc
            simp only [callOp, hl'.1, hl'.2, hpure, Zkz, if_false, if_true] at hc
            split at hc
            case h_2 => cases hc
            rename_i ys hys
            split at hc
            case h_2 => cases hc
            rename_i v1 H1' hC
            cases hL : Qes H1' fr (some d) H v1 with
            | none => rw [hL] at hc; cases hc
            | some x =>
              rw [hL] at hc; cases hc
              have hx : x.2.1 = d := by
               unfold Qes at hL
               split at hL
               . rename_i hdd
                 split at hL
                 . rename_i es bs clk _ _
                   cases hz : frzM (frz (Qb H1') depth) es with
                   | none => rw [hz] at hL; cases hL
                   | some es' => rw [hz] at hL; cases hL; cases hdd; rfl
                 . cases hL
               . rename_i hdd
                 split at hL
                 . split at hL
                   . cases hL; cases hdd; rfl
                   . cases hL
                 . cases hL
               . cases hL
              rw [hx]
              refine ⟨x.2.2, rfl, fun H' hg => ?_⟩
              rw [liftCall H' hg, hc0]
              simp only [Zlc, hys, hC, hL, Zkw, hx]
           split at h
           . rename_i v H2 hc
             rw [hd] at hc
             cases h
             obtain ⟨o', rfl, hall⟩ := hshape v _ hc
             have hfp : ∀ (t' : List V) (H' : Heap), (∀ x ∈ o.op.operands, rho t' x = rho t x) -> Z8 P pol fn fr t' H' o = .ids (Yz fr (rho t) o) (Qco (some (fr, d, o'))) := by
              intro t' H' ht
              simp only [Z8, hq, hfar', Zkz, if_false, hcall t' H' ht, hp, hl, if_true, hd, Qco, hids t' ht]
             refine ⟨some (fr, d, o'), v, hfp t H (fun _ _ => rfl), by rw [hd], rfl, fun t' H' ht hg => ⟨?_, hfp t' H' ht⟩⟩
             have hgd := hg fr d (Qlp hd)
             simp only [Ze, hcall t' H' ht, hd, hall H' hgd]
           . cases h
           . cases h
       . right; right
         split at h
         . rename_i v H2 hc
           cases h
           refine ⟨by simp only [Z8, hq, hfar', Zkz, if_false, hev, hp, hl], v, rfl, fun t' ht => ⟨?_, ?_⟩⟩
           . simp only [Ze, hcall t' H ht, hc]
           . simp only [Z8, hq, hfar', Zkz, if_false, hcall t' H ht, hp, hl]
         . cases h
         . cases h
   . rename_i f s args hev
     right; right
     have he : ∀ t' : List V, (∀ x ∈ o.op.operands, rho t' x = rho t x) -> Ql P (pol.mt fn) fr (Qb H) (rho t') o = some (.round f s args) := fun t' ht => by rw [Bj ht, hev]
     have hall : ∀ t' : List V, (∀ x ∈ o.op.operands, rho t' x = rho t x) -> Z8 P pol fn fr t' H o = .all := fun t' ht => by
      simp only [Z8, hq, Zkz, if_false, he t' ht]
      split <;> rfl
     split at h
     . rename_i v H2 hc
       cases h
       refine ⟨hall t (fun _ _ => rfl), v, rfl, fun t' ht => ⟨?_, hall t' ht⟩⟩
       simp only [Ze, he t' ht, hc]
     . cases h
def Jr (P : Program) (pol : Pol) (C : Call) (fn fr : Nat) (ops : Array Oper) (T : List FP) (i : Nat) (t : List V) (H : Heap) : Option (List V × Heap) :=
 match ops[i]? with
 | none => none
 | some o => match Zu ops t o with
   | none => none
   | some false => if T.getD i .all = .quiet then some (Qe t o.dst nov, H) else none
   | some true => if Z8 P pol fn fr t H o = T.getD i .all then (match Ze P pol C fn fr t H o with
     | some (.normal, t1, H1) => some (t1, H1)
     | _ => none) else none
def Xn (P : Program) (pol : Pol) (C : Call) (fn fr : Nat) (ops : Array Oper) (T : List FP) : List Nat -> List V -> Heap -> Option (List V × Heap)
 | [], t, H => some (t, H)
 | i :: r, t, H => match Jr P pol C fn fr ops T i t H with
   | some (t1, H1) => Xn P pol C fn fr ops T r t1 H1
   | none => none
end
end Go.AM
end
section
namespace Go.AM
section
variable {P : Program} {pol : Pol} {C : Call} {fn fr : Nat} {ops : Array Oper} {T : List FP}
def Qbk (ops : Array Oper) (o : Oper) (t' t : List V) : Prop := (∀ x ∈ o.op.operands, rho t' x = rho t x) /\ Zu ops t' o = Zu ops t o
theorem Q2 {a b : Oper} (h : Je ops a b = true) (v : V) (t : List V) : Qbk ops b (Qe t a.dst v) t := ⟨Qc4 h t, Qej h t⟩
theorem Qbk.symm {o : Oper} {t t' : List V} (h : Qbk ops o t t') : Qbk ops o t' t := ⟨fun x hx => (h.1 x hx).symm, h.2.symm⟩
theorem Y6 {i : Nat} {o : Oper} {t t1 : List V} {H H1 : Heap} (ho : ops[i]? = some o) (h : Jr P pol C fn fr ops T i t H = some (t1, H1)) :
 (T.getD i .all = .quiet /\ ∃ v, t1 = Qe t o.dst v /\ H1 = H /\ ∀ t' H', Qbk ops o t' t -> Jr P pol C fn fr ops T i t' H' = some (Qe t' o.dst v, H')) \/
 (∃ w v r, T.getD i .all = .ids r (Qco w) /\ t1 = Qe t o.dst v /\ H1 = wr H w /\
   ∀ t' H', Qbk ops o t' t -> (∀ f s, (f, s) ∈ r -> Qb H' f s = Qb H f s) -> Jr P pol C fn fr ops T i t' H' = some (Qe t' o.dst v, wr H' w)) \/
 (T.getD i .all = .all /\ ∃ v, t1 = Qe t o.dst v /\ ∀ t', Qbk ops o t' t -> Jr P pol C fn fr ops T i t' H = some (Qe t' o.dst v, H1)) := by
 simp only [Jr, ho] at h ⊢
 split at h
 . cases h
 . rename_i hw
   split at h
   . rename_i hT
     cases h
     left
     refine ⟨hT, nov, rfl, rfl, fun t' H' ha => ?_⟩
     rw [ha.2, hw]
     simp only [hT, if_true]
   . cases h
 . rename_i hw
   split at h
   case isFalse => cases h
   rename_i hT
   split at h
   case h_2 => cases h
   rename_i t2 H2 hop
   cases h
   rcases Qnd t H o hop with ⟨h1, v, h2, h3, h4⟩ | ⟨w, v, h1, h2, h3, h4⟩ | ⟨h1, v, h2, h3⟩
   . left
     refine ⟨hT.symm.trans h1, v, h2, h3, fun t' H' ha => ?_⟩
     obtain ⟨g1, g2⟩ := h4 t' H' ha.1
     rw [ha.2, hw]
     simp only [g1, g2, <- hT, h1, if_true]
   . right; left
     refine ⟨w, v, _, hT.symm.trans h1, h2, h3, fun t' H' ha hg => ?_⟩
     obtain ⟨g1, g2⟩ := h4 t' H' ha.1 hg
     rw [ha.2, hw]
     simp only [g1, g2, <- hT, h1, if_true]
   . right; right
     refine ⟨hT.symm.trans h1, v, h2, fun t' ha => ?_⟩
     obtain ⟨g1, g2⟩ := h3 t' ha.1
     rw [ha.2, hw]
     simp only [g1, g2, <- hT, h1, if_true]
theorem Qb6 {a b : List (Nat × Nat)} (h : (!Qcp a b) = true) {x : Nat × Nat} (hx : x ∈ a) : x ∉ b := by
 intro hb
 simp only [Qcp, Zmh, List.any_eq_false] at h
 exact h x hx (by simpa using hb)
theorem Q5g {H : Heap} {w : Option (Nat × Nat × O)} {f s : Nat} (h : (f, s) ∉ Qco w) : Qb (wr H w) f s = Qb H f s := by
 cases w with
 | none => rfl
 | some x =>
   obtain ⟨f', s', q⟩ := x
   simp only [wr]
   refine Qac H q ?_
   rintro ⟨rfl, rfl⟩
   exact h (by simp [Qco])
theorem Q6l {H : Heap} {w w' : Option (Nat × Nat × O)} (h : (!Qcp (Qco w) (Qco w')) = true) : wr (wr H w) w' = wr (wr H w') w := by
 cases w with
 | none => rfl
 | some x =>
   cases w' with
   | none => rfl
   | some y =>
     obtain ⟨f, s, q⟩ := x
     obtain ⟨f', s', q'⟩ := y
     simp only [wr]
     refine Kk H q q' ?_
     rintro ⟨rfl, rfl⟩
     exact Qb6 h (x := (f, s)) (by simp [Qco]) (by simp [Qco])
theorem Qj5 {i j : Nat} {oi oj : Oper} (hi : ops[i]? = some oi) (hj : ops[j]? = some oj) (ha : Je ops oi oj = true) (hI : (T.getD i .all).indep (T.getD j .all) = true)
 {t t1 t2 : List V} {H H1 H2 : Heap} (h1 : Jr P pol C fn fr ops T i t H = some (t1, H1)) (h2 : Jr P pol C fn fr ops T j t1 H1 = some (t2, H2)) :
 ∃ t1' H1', Jr P pol C fn fr ops T j t H = some (t1', H1') /\ Jr P pol C fn fr ops T i t1' H1' = some (t2, H2) := by
 have hs := Qhy ha
 rcases Y6 hi h1 with ⟨q1, v, rfl, rfl, g1⟩ | ⟨w, v, r, q1, rfl, rfl, g1⟩ | ⟨q1, v, rfl, g1⟩
 . rcases Y6 hj h2 with ⟨q2, u, rfl, rfl, g2⟩ | ⟨w', u, r', q2, rfl, rfl, g2⟩ | ⟨q2, u, rfl, g2⟩
   . refine ⟨_, _, g2 t H2 (Q2 ha v t).symm, ?_⟩
     rw [g1 _ _ (Q2 hs u t), Js ha]
   . refine ⟨_, _, g2 t H1 (Q2 ha v t).symm (fun _ _ _ => rfl), ?_⟩
     rw [g1 _ _ (Q2 hs u t), Js ha]
   . refine ⟨_, _, g2 t (Q2 ha v t).symm, ?_⟩
     rw [g1 _ _ (Q2 hs u t), Js ha]
 . rcases Y6 hj h2 with ⟨q2, u, rfl, rfl, g2⟩ | ⟨w', u, r', q2, rfl, rfl, g2⟩ | ⟨q2, u, rfl, g2⟩
   . refine ⟨_, _, g2 t H (Q2 ha v t).symm, ?_⟩
     rw [g1 _ _ (Q2 hs u t) (fun _ _ _ => rfl), Js ha]
   . rw [q1, q2] at hI
     simp only [FP.indep, Zlm] at hI
     obtain ⟨⟨i1, i2⟩, i3⟩ := hI
     refine ⟨_, _, g2 t H (Q2 ha v t).symm (fun f s hm => ?_), ?_⟩
     . exact (Q5g (fun hw => Qb6 i1 hw hm)).symm
     . rw [g1 _ _ (Q2 hs u t) (fun f s hm => Q5g (fun hw => Qb6 i3 hw hm)), Js ha, Q6l i2]
   . rw [q1, q2] at hI; cases hI
 . rcases Y6 hj h2 with ⟨q2, u, rfl, rfl, g2⟩ | ⟨w', u, r', q2, rfl, rfl, g2⟩ | ⟨q2, u, rfl, g2⟩
   . refine ⟨_, _, g2 t H (Q2 ha v t).symm, ?_⟩
     rw [g1 _ (Q2 hs u t), Js ha]
   . rw [q1, q2] at hI; cases hI
   . rw [q1, q2] at hI; cases hI
theorem Qba {i : Nat} {l2 : List Nat} {res : List V × Heap} (hi : i < ops.size) : ∀ (l1 : List Nat) (t : List V) (H : Heap),
 (∀ j ∈ l1, j < ops.size /\ Je ops (ops.getD j default) (ops.getD i default) = true /\ (T.getD j .all).indep (T.getD i .all) = true) ->
 Xn P pol C fn fr ops T (l1 ++ i :: l2) t H = some res -> Xn P pol C fn fr ops T (i :: (l1 ++ l2)) t H = some res
 | [], t, H, _, h => h
 | j :: l1, t, H, hl, h => by
   obtain ⟨hj, ha, hI⟩ := hl j (by simp)
   simp only [Zmj, Xn] at h
   cases h1 : Jr P pol C fn fr ops T j t H with
   | none => rw [h1] at h; cases h
   | some x =>
     obtain ⟨t1, H1⟩ := x
     rw [h1] at h
     have ih := Qba hi l1 t1 H1 (fun k hk => hl k (by simp [hk])) h
     simp only [Xn] at ih
     cases h2 : Jr P pol C fn fr ops T i t1 H1 with
     | none => rw [h2] at ih; cases ih
     | some y =>
       obtain ⟨t2, H2⟩ := y
       rw [h2] at ih
       have e1 : ops[j]? = some (ops.getD j default) := by simp [Array.getD, hj]
       have e2 : ops[i]? = some (ops.getD i default) := by simp [Array.getD, hi]
       obtain ⟨t1', H1', g1, g2⟩ := Qj5 e1 e2 ha hI h1 h2
       simp only [Zmj, Xn, g1, g2]
       exact ih
end
/-! ### What is ordered -/
theorem Qe4 (ops : Array Oper) : (Region.before ops).size = ops.size /\ ∀ i o j, ops[i]? = some o -> ((Region.before ops).getD i 0).testBit j = true ->
 ∃ e ∈ o.after, Region.binds .any e = true /\ (e.on = j \/ ((Region.before ops).getD e.on 0).testBit j = true) := by
 have key : ∀ (l : List Oper) (acc : Array Nat) (pre : List Oper), acc.size = pre.length ->
  (∀ i o j, pre[i]? = some o -> (acc.getD i 0).testBit j = true -> ∃ e ∈ o.after, Region.binds .any e = true /\ (e.on = j \/ (acc.getD e.on 0).testBit j = true)) ->
  (l.foldl (fun acc o => acc.push (o.after.foldl (fun s e => if Region.binds .any e then s ||| 2 ^ e.on ||| acc.getD e.on 0 else s) 0)) acc).size = pre.length + l.length /\
  ∀ i o j, (pre ++ l)[i]? = some o -> ((l.foldl (fun acc o => acc.push (o.after.foldl (fun s e => if Region.binds .any e then s ||| 2 ^ e.on ||| acc.getD e.on 0 else s) 0)) acc).getD i 0).testBit j = true ->
    ∃ e ∈ o.after, Region.binds .any e = true /\ (e.on = j \/ ((l.foldl (fun acc o => acc.push (o.after.foldl (fun s e => if Region.binds .any e then s ||| 2 ^ e.on ||| acc.getD e.on 0 else s) 0)) acc).getD e.on 0).testBit j = true) := by
  intro l
  induction l with
  | nil => intro acc pre hs h; simpa [hs] using h
  | cons o l ih =>
    intro acc pre hs h
    simp only [Zlt]
    generalize hn : o.after.foldl (fun s e => if Region.binds .any e then s ||| 2 ^ e.on ||| acc.getD e.on 0 else s) 0 = n
    have hgrow : ∀ k j, (acc.getD k 0).testBit j = true -> ((acc.push n).getD k 0).testBit j = true := by
     intro k j hb
     have hk : k < acc.size := by
      rcases Zkx k acc.size with hk | hk
      . exact hk
      . simp [Array.getD, Nat.not_lt.2 hk] at hb
     have : (acc.push n).getD k 0 = acc.getD k 0 := by
      simp only [Array.getD, hk, Zk5, Zk6 hk, dif_pos, Zmk]
      exact Array.getElem_push_lt hk
     rw [this]; exact hb
    have hfold : ∀ (es : List Edge) (s j : Nat), ((es.foldl (fun s e => if Region.binds .any e then s ||| 2 ^ e.on ||| acc.getD e.on 0 else s) s)).testBit j = true ->
     s.testBit j = true \/ ∃ e ∈ es, Region.binds .any e = true /\ (e.on = j \/ (acc.getD e.on 0).testBit j = true) := by
     intro es
     induction es with
     | nil => intro s j hb; exact .inl hb
     | cons e es ihe =>
       intro s j hb
       simp only [Zlt] at hb
       rcases ihe _ j hb with g | ⟨e', he', g⟩
       . by_cases hbd : Region.binds .any e = true
         . rw [if_pos hbd] at g
           simp only [Nat.testBit_or, Zmi, Nat.testBit_two_pow, decide_eq_true_eq] at g
           rcases g with (g | g) | g
           . exact .inl g
           . exact .inr ⟨e, by simp, hbd, .inl g⟩
           . exact .inr ⟨e, by simp, hbd, .inr g⟩
         . rw [if_neg hbd] at g
           exact .inl g
       . exact .inr ⟨e', by simp [he'], g⟩
    have := ih (acc.push n) (pre ++ [o]) (by simp [hs]) (by
     intro i o' j hi hb
     rcases Zkx i pre.length with hlt | hge
     . have hi' : pre[i]? = some o' := by rw [Zl5 hlt] at hi; exact hi
       have : (acc.push n).getD i 0 = acc.getD i 0 := by
        have hk : i < acc.size := by omega
        simp only [Array.getD, hk, Zk5, Zk6 hk, dif_pos, Zmk]
        exact Array.getElem_push_lt hk
       rw [this] at hb
       obtain ⟨e, h1, h2, h3⟩ := h i o' j hi' hb
       exact ⟨e, h1, h2, h3.imp_right (hgrow _ _)⟩
     . have hieq : i = pre.length := by
        rcases Zkx i (pre ++ [o]).length with g | g
        . simp at g; omega
        . rw [Zky g] at hi; cases hi
       subst hieq
       have ho : o' = o := by simpa using hi.symm
       subst ho
       have hnv : (acc.push n).getD pre.length 0 = n := by rw [<- hs]; simp [Array.getD]
       rw [hnv, <- hn, <- Zlu] at hb
       rcases hfold _ _ _ hb with g | ⟨e, h1, h2, h3⟩
       . simp at g
       . exact ⟨e, by simpa using h1, h2, h3.imp_right (hgrow _ _)⟩)
    simpa [Zl0, Nat.add_comm 1] using this
 have := key ops.toList #[] [] rfl (by intro i o j hi; simp at hi)
 simp only [Zml, Zk7, Zmm, Zmb] at this
 have e : Region.before ops = ops.toList.foldl (fun acc o => acc.push (o.after.foldl (fun s e => if Region.binds .any e then s ||| 2 ^ e.on ||| acc.getD e.on 0 else s) 0)) #[] := by
  unfold Region.before; rw [<- Zlu]
 rw [e]
 refine ⟨this.1, fun i o j hi hb => this.2 i o j (by simpa using hi) hb⟩
end Go.AM
end
section
namespace Go.AM
def Qaq (ops : Array Oper) : Bool :=
 (List.range ops.size).all fun i =>
   ((ops.getD i default).after.all fun e => !Region.binds .any e || decide (e.on < i)) &&
   (List.range i).all fun j => ((Region.before ops).getD i 0).testBit j || Je ops (ops.getD j default) (ops.getD i default)
section
variable {P : Program} {pol : Pol} {C : Call} {fn fr : Nat} {ops : Array Oper} {T : List FP}
theorem Qgf {bef : Array Nat} : ∀ {l : List (FP × Nat)}, okT bef l = true -> ∀ {l1 l2 : List (FP × Nat)} {a b : FP} {i j : Nat}, l = l1 ++ (a, i) :: l2 -> (b, j) ∈ l2 ->
 (bef.getD j 0).testBit i = true \/ a.indep b = true
 | [], _, l1, l2, a, b, i, j, h, _ => by simp at h
 | (c, k) :: r, h, l1, l2, a, b, i, j, he, hm => by
   simp only [okT, Zlm, Zln] at h
   cases l1 with
   | nil =>
     simp only [Zmm, List.cons.injEq, Prod.mk.injEq] at he
     obtain ⟨⟨rfl, rfl⟩, rfl⟩ := he
     have := h.1 (b, j) hm
     simpa using this
   | cons x l1 =>
     simp only [Zmj, List.cons.injEq] at he
     exact Qgf h.2 he.2 hm
theorem Qj3 {bef : Array Nat} (h : okT bef (loud T) = true) {i j : Nat} (hij : i < j) (hj : j < T.length) :
 (bef.getD j 0).testBit i = true \/ (T.getD i .all).indep (T.getD j .all) = true := by
 have hi : i < T.length := Zk2 hij hj
 have ei : T.getD i .all = T[i] := by simp [List.getD, hi]
 have ej : T.getD j .all = T[j] := by simp [List.getD, hj]
 rw [ei, ej]
 by_cases qi : T[i] = .quiet
 . right; rw [qi]; cases T[j] <;> rfl
 by_cases qj : T[j] = .quiet
 . right; rw [qj]; cases T[i] <;> rfl
 have hsplit : T.zipIdx = (T.zipIdx.take i) ++ (T[i], i) :: T.zipIdx.drop (i + 1) := by
  have hl : i < T.zipIdx.length := by simpa using hi
  have e : T.zipIdx[i] = (T[i], i) := by simp
  rw [<- e, List.getElem_cons_drop]
  exact (Zly _ _).symm
 have e : loud T = (T.zipIdx.take i).filter (fun x => x.1.loud) ++ (T[i], i) :: (T.zipIdx.drop (i + 1)).filter (fun x => x.1.loud) := by
  unfold loud
  conv => lhs; rw [hsplit]
  rw [Zmn, Zmo]
  have : (T[i], i).1.loud = true := by
   simp only
   cases hq : T[i] <;> first | exact absurd hq qi | rfl
  rw [if_pos this]
 refine Qgf h e ?_
 rw [Zmp]
 constructor
 . rw [Zl8]
   refine ⟨j - (i + 1), ?_⟩
   rw [Zmq]
   have : i + 1 + (j - (i + 1)) = j := by omega
   rw [this]
   simp [hj]
 . simp only
   cases hq : T[j] <;> first | exact absurd hq qj | rfl
theorem Qfv (h : Qaq ops = true) : ∀ i, i < ops.size -> (∀ e ∈ (ops.getD i default).after, Region.binds .any e = true -> e.on < i) /\
 ∀ j, j < i -> ((Region.before ops).getD i 0).testBit j = true \/ Je ops (ops.getD j default) (ops.getD i default) = true := by
 simp only [Qaq, Zlm, Zln, Zmr, Zmi] at h
 intro i hi
 obtain ⟨h1, h2⟩ := h i hi
 refine ⟨fun e he hbd => ?_, h2⟩
 have h3 := Zms.1 h1 e he
 simpa [hbd] using h3
def X9 (n : Nat) (listed : Array Bool) : List Nat := (List.range n).filter fun i => !listed.getD i true
theorem Qm0 {n i : Nat} {listed : Array Bool} (hn : listed.size = n) (hi : i < n) (hu : listed.getD i true = false) :
 X9 n listed = (List.range i).filter (fun k => !listed.getD k true) ++ i :: ((List.range' (i + 1) (n - (i + 1))).filter fun k => !listed.getD k true) /\
 X9 n (listed.setIfInBounds i true) = (List.range i).filter (fun k => !listed.getD k true) ++ ((List.range' (i + 1) (n - (i + 1))).filter fun k => !listed.getD k true) := by
 have hr : List.range n = List.range i ++ i :: List.range' (i + 1) (n - (i + 1)) := by
  have e : n = i + (n - i) := by omega
  have e2 : n - i = (n - (i + 1)) + 1 := by omega
  conv => lhs; rw [e, Zlf, <- List.range'_append_1]
  rw [<- Zlf, Zk7, e2, Zle]
 have hset : ∀ k, k ≠ i -> (listed.setIfInBounds i true).getD k true = listed.getD k true := by
  intro k hk
  simp only [Zla]
  rw [Zlg (fun e => hk e.symm)]
 have hseti : (listed.setIfInBounds i true).getD i true = true := by
  simp [Zla, hn, hi]
 constructor
 . unfold X9
   rw [hr, Zmn, Zmo, hu]
   rfl
 . unfold X9
   rw [hr, Zmn, Zmo, hseti]
   simp only [Zmt, Zkz, if_false]
   congr 1
   . refine List.filter_congr fun k hk => ?_
     rw [hset k (by have := Zmr.1 hk; omega)]
   . refine List.filter_congr fun k hk => ?_
     rw [hset k (by have := (List.mem_range'_1.1 hk).1; omega)]
def Qxc (ops : Array Oper) (listed : Array Bool) : Prop := ∀ i j, i < ops.size -> listed.getD i false = true -> ((Region.before ops).getD i 0).testBit j = true -> listed.getD j false = true
theorem Qee (h : Qaq ops = true) (hT : T.length = ops.size) (hok : okT (Region.before ops) (loud T) = true) {res : List V × Heap} :
 ∀ (fuel tp : Nat) (listed : Array Bool) (acc : List Nat) (t : List V) (H : Heap), listed.size = ops.size -> Qxc ops listed -> (X9 ops.size listed).length = fuel ->
   Xn P pol C fn fr ops T (X9 ops.size listed) t H = some res ->
   ∃ L, Region.linearise.go .any ops fuel tp listed acc = acc.reverse ++ L /\ Xn P pol C fn fr ops T L t H = some res := by
 have hsp := Qfv h
 intro fuel
 induction fuel with
 | zero =>
   intro tp listed acc t H _ _ hl hr
   have : X9 ops.size listed = [] := List.length_eq_zero_iff.1 hl
   rw [this] at hr
   exact ⟨[], by simp [Region.linearise.go], hr⟩
 | succ fuel ih =>
   intro tp listed acc t H hsz hcl hl hr
   simp only [Region.linearise.go]
   generalize hrs : (List.range ops.size).filter (fun i => !listed.getD i true && ((ops[i]?).map (·.after.all fun e => !Region.binds .any e || listed.getD e.on false)).getD false) = rs
   -- the first that is not listed is ready
   obtain ⟨m, hm, hmin⟩ : ∃ m, m ∈ X9 ops.size listed /\ ∀ k ∈ X9 ops.size listed, m <= k := by
    cases htd : X9 ops.size listed with
    | nil => rw [htd] at hl; cases hl
    | cons m r =>
      refine ⟨m, by simp, fun k hk => ?_⟩
      have hp : (X9 ops.size listed).Pairwise (· < ·) := List.Pairwise.filter _ List.pairwise_lt_range
      rw [htd] at hp
      rcases Zli.1 hk with rfl | hk
      . exact Zk0 _
      . exact Zlb ((List.pairwise_cons.1 hp).1 k hk)
   have hm' := hm
   simp only [X9, Zmp, Zmr, Zmh] at hm'
   have hrm : m ∈ rs := by
    rw [<- hrs, Zmp]
    refine ⟨Zmr.2 hm'.1, ?_⟩
    have eo : ops[m]? = some (ops.getD m default) := by simp [Array.getD, hm'.1]
    simp only [hm'.2, Zmu, Zmv, eo, Zkw, Zmw]
    rw [Zms]
    intro e he
    cases hbd : Region.binds .any e with
    | false => rfl
    | true =>
    have hlt := (hsp m hm'.1).1 e he hbd
    simp only [Zmt, Zmx]
    have hon : e.on < ops.size := Zk2 hlt hm'.1
    cases hb : listed.getD e.on false with
    | true => rfl
    | false =>
      have : e.on ∈ X9 ops.size listed := by
       simp only [X9, Zmp, Zmr, Zmh]
       refine ⟨hon, ?_⟩
       simp only [Array.getD, hsz, hon, dif_pos] at hb ⊢
       exact hb
      have := hmin _ this
      omega
   have hpos : 0 < rs.length := List.length_pos_of_mem hrm
   have hlt : tp % rs.length < rs.length := Nat.mod_lt _ hpos
   rw [Zkv hlt]
   generalize hi : rs[tp % rs.length] = i
   have hir : i ∈ rs := by rw [<- hi]; exact List.getElem_mem hlt
   rw [<- hrs, Zmp] at hir
   obtain ⟨hin, hir⟩ := hir
   have hin := Zmr.1 hin
   simp only [Zlm, Zmh] at hir
   obtain ⟨hu, hir⟩ := hir
   have eo : ops[i]? = some (ops.getD i default) := by simp [Array.getD, hin]
   simp only [eo, Zkw, Zmw] at hir
   rw [Zms] at hir
   have hbefore : ∀ j, ((Region.before ops).getD i 0).testBit j = true -> listed.getD j false = true := by
    intro j hb
    obtain ⟨e, he, hbd, hor⟩ := (Qe4 ops).2 i _ j eo hb
    have := hir e he
    simp only [hbd, Zmt, Zmx] at this
    rcases hor with rfl | hor
    . exact this
    . exact hcl e.on j (Zk2 ((hsp i hin).1 e he hbd) hin) this hor
   obtain ⟨e1, e2⟩ := Qm0 hsz hin hu
   rw [e1] at hr
   have hb := Qba hin _ t H (fun j hj => by
    rw [Zmp] at hj
    have hjl := Zmr.1 hj.1
    have hjn : j < ops.size := Zk2 hjl hin
    have hnb : ((Region.before ops).getD i 0).testBit j ≠ true := by
     intro hb
     have := hbefore j hb
     have hj2 := hj.2
     simp only [Array.getD, hsz, hjn, dif_pos, Zmh] at this hj2
     rw [this] at hj2; cases hj2
    refine ⟨hjn, ?_, ?_⟩
    . exact ((hsp i hin).2 j hjl).resolve_left hnb
    . exact (Qj3 hok hjl (by rw [hT]; exact hin)).resolve_left hnb) hr
   simp only [Xn] at hb
   cases hst : Jr P pol C fn fr ops T i t H with
   | none => rw [hst] at hb; cases hb
   | some x =>
     obtain ⟨t1, H1⟩ := x
     rw [hst] at hb
     simp only at hb
     rw [<- e2] at hb
     have hgs : ∀ k, (listed.setIfInBounds i true).getD k false = true ↔ (k = i \/ listed.getD k false = true) := by
      intro k
      by_cases hk : k = i
      . subst hk; simp [Zla, hsz, hin]
      . simp only [hk, false_or, Zla]
        rw [Zlg (fun e => hk e.symm)]
     obtain ⟨L, g1, g2⟩ := ih (tp / rs.length) (listed.setIfInBounds i true) (i :: acc) t1 H1 (by simpa using hsz) (by
      intro k j hk hkl hkb
      rw [hgs] at hkl ⊢
      rcases hkl with hki | hkl
      . rw [hki] at hkb; exact .inr (hbefore j hkb)
      . exact .inr (hcl k j hk hkl hkb)) (by
      have hl1 := hl
      rw [e1] at hl1
      rw [e2]
      simp only [Zl3, Zld] at hl1 ⊢
      omega) hb
     refine ⟨i :: L, ?_, ?_⟩
     . simpa using g1
     . simp only [Xn, hst]; exact g2
theorem Qcd (h : Qaq ops = true) (hT : T.length = ops.size) (hok : okT (Region.before ops) (loud T) = true) {res : List V × Heap} {t : List V} {H : Heap}
 (hr : Xn P pol C fn fr ops T (List.range ops.size) t H = some res) {m : Bool} (hm : m = true) (tp : Nat) : Xn P pol C fn fr ops T (Region.schedule m ops tp) t H = some res := by
 subst hm
 have e0 : X9 ops.size (Array.replicate ops.size false) = List.range ops.size := by
  unfold X9
  rw [List.filter_eq_self]
  intro k hk
  have := Zmr.1 hk
  simp [Array.getD, this]
 obtain ⟨L, g1, g2⟩ := Qee (P := P) (pol := pol) (C := C) (fn := fn) (fr := fr) h hT hok ops.size tp (Array.replicate ops.size false) [] t H (by simp) (by
  intro i j hi hl
  simp [Array.getD] at hl) (by rw [e0]; simp) (by rw [e0]; exact hr)
 have : Region.schedule true ops tp = L := by
  simp only [Region.schedule, Bool.true_or, if_true, Region.linearise]
  simpa using g1
 rw [this]; exact g2
theorem Qae : ∀ (l pre : List Oper) (T0 : List FP) (t : List V) (H : Heap) (t' : List V) (H' : Heap) (T1 : List FP), ops.toList = pre ++ l -> T0.length = pre.length ->
 Q7 P pol C fn fr ops l t H = some (t', H', T1) -> T1.length = l.length /\ Xn P pol C fn fr ops (T0 ++ T1) (List.range' pre.length l.length) t H = some (t', H')
 | [], pre, T0, t, H, t', H', T1, _, _, h => by cases h; exact ⟨rfl, rfl⟩
 | o :: l, pre, T0, t, H, t', H', T1, he, hl, h => by
   have ho : ops[pre.length]? = some o := by
    have : ops.toList[pre.length]? = some o := by rw [he]; simp
    simpa using this
   have he' : ops.toList = (pre ++ [o]) ++ l := by rw [he]; simp
   have main : ∀ (fp : FP) (t1 : List V) (H1 : Heap), (∀ T2 : List FP, Jr P pol C fn fr ops (T0 ++ fp :: T2) pre.length t H = some (t1, H1)) ->
    (match Q7 P pol C fn fr ops l t1 H1 with
    | some (t', H', T) => some (t', H', fp :: T)
    | none => none) = some (t', H', T1) -> T1.length = (o :: l).length /\ Xn P pol C fn fr ops (T0 ++ T1) (List.range' pre.length (o :: l).length) t H = some (t', H') := by
    intro fp t1 H1 hst hm
    split at hm
    case h_2 => cases hm
    rename_i t2 H2 T2 hrun
    cases hm
    obtain ⟨g1, g2⟩ := Qae l (pre ++ [o]) (T0 ++ [fp]) t1 H1 _ _ _ he' (by simp [hl]) hrun
    refine ⟨by simp [g1], ?_⟩
    simp only [Zld, Zle, Xn, hst]
    simpa using g2
   have Qb : ∀ (fp : FP) (T2 : List FP), (T0 ++ fp :: T2).getD pre.length .all = fp := by
    intro fp T2; simp [List.getD, <- hl]
   simp only [Q7] at h
   split at h
   . cases h
   . rename_i hw
     refine main .quiet (Qe t o.dst nov) H (fun T2 => ?_) h
     simp only [Jr, ho, hw, Qb, if_true]
   . rename_i hw
     split at h
     case h_2 => cases h
     rename_i t1 H1 hop
     refine main (Z8 P pol fn fr t H o) t1 H1 (fun T2 => ?_) h
     simp only [Jr, ho, hw, Qb, if_true, hop]
end
end Go.AM
end
