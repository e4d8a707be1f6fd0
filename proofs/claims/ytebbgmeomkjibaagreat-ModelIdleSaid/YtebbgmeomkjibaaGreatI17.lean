/- This file holds in one the texts Am35, Am18; each says at its head what it proves. -/
import Derived.Test.YtebbgmeomkjibaaGreatI16
import Derived.Maps.RangeRun
set_option linter.unusedSimpArgs false
set_option linter.unusedVariables false
section
/- The abstract machine, part 35: a step through a map: one of those that may come. -/
namespace Go.AM
open Go.ChangeMaps (setBlock)

section
variable {P : Program} {E : Env} {B : Nat} {F : Nat → Nat → Prop} {H : Heap} {fr : Nat}

/-- An iterator steps. -/
def Env.setIter (E : Env) (b : Nat) (mb : Option Nat) (since : Nat) (seen : Array Nat) (stepped d : Nat) : Env :=
  { E with w := { E.w with heap := E.w.heap.setIfInBounds b (.mapIter mb since seen stepped), drawn := d } }

theorem setIter_other (E : Env) (b : Nat) (mb : Option Nat) (since : Nat) (seen : Array Nat) (stepped d b' : Nat) (h : b' ≠ b) : (E.setIter b mb since seen stepped d).w.heap[b']? = E.w.heap[b']? := by
  simp only [Env.setIter]
  rw [Array.getElem?_setIfInBounds_ne (by omega)]

theorem Sim.setIter (S : Sim B F H E) {f0 s0 b : Nat} {m : Option (Nat × Nat)} {since stepped : Nat} {seen : List Nat} (ho : hget H f0 s0 = some (.iter m since seen stepped)) (hmu : E.mu f0 s0 = some b) {mb : Option Nat}
    (hb : E.w.heap[b]? = some (.mapIter mb since ⟨seen⟩ stepped)) (hB : B ≤ b) (hm : match m with | none => mb = none | some x => ∃ r, mb = some r ∧ E.mu x.1 x.2 = some r) (seen' : List Nat) (stepped' d : Nat) :
    Ext H.length B E (E.setIter b mb since ⟨seen'⟩ stepped' d) ∧ Sim B F (hset H f0 s0 (.iter m since seen' stepped')) (E.setIter b mb since ⟨seen'⟩ stepped' d) := by
  have hlt : b < E.w.heap.size := (Array.getElem?_eq_some_iff.1 hb).1
  have hself : (E.setIter b mb since ⟨seen'⟩ stepped' d).w.heap[b]? = some (.mapIter mb since ⟨seen'⟩ stepped') := by simp [Env.setIter, hlt]
  have hcell : ∀ i, E.w.cell? ⟨b, i, none⟩ = none := fun i => by simp [World.cell?, hb]
  have X : Ext H.length B E (E.setIter b mb since ⟨seen'⟩ stepped' d) := by
    refine ⟨by simp [Env.setIter], ?_, ?_, fun _ _ _ _ h => h, fun _ _ _ _ h => h, fun f s n b lo hi _ _ h => ⟨n, b, lo, hi, h, .inr ⟨rfl, rfl, rfl, rfl⟩⟩, ?_, ⟨rfl, rfl, rfl⟩⟩
    · intro b' T n h
      by_cases e : b' = b
      · subst e; simp [World.shape?, hb] at h
      · rw [shape_of_heap (setIter_other E b _ _ _ _ _ b' e)]; exact h
    · intro b' i v _ h
      by_cases e : b' = b
      · subst e; rw [hcell] at h; cases h
      · rw [cell_of_heap (setIter_other E b _ _ _ _ _ b' e)]; exact h
    · intro b' hb'
      exact setIter_other E b _ _ _ _ _ b' (by omega)
  have hblk : blk E f0 s0 (.iter m since seen stepped) = some b := hmu
  refine ⟨X, S.step f0 s0 _ (hget_lt ho) X (fun f s e => rfl) (by simp [Env.setIter, hmu]) (fun f s e => rfl) ?_ ?_ ?_ ?_ ?_ ?_⟩
  · intro n x h
    have := S.nreg f0 s0 n x h
    rw [ho] at this; cases this
  · intro f s o b' e ho' hb'
    refine ⟨?_, fun i h => h⟩
    have hne : b' ≠ b := fun e' => e (S.inj f s o f0 s0 _ b' ho' ho hb' (e' ▸ hblk))
    exact setIter_other E b _ _ _ _ _ b' hne
  · exact fun b i h => S.fmod b i h
  · intro b' i h
    simp only [Env.setIter, Array.size_setIfInBounds]
    exact S.modsz b' i h
  · refine ⟨b, mb, hmu, hB, hself, ?_⟩
    cases m with
    | none => exact hm
    | some x => exact hm
  · intro f s o b' e ho' hb' h
    simp only [blk, Env.setIter, hmu, Option.some.injEq] at h
    subst h
    exact e (S.inj f s o f0 s0 _ b ho' ho hb' hblk)

/-- An iterator is done with. -/
theorem Sim.over (S : Sim B F H E) {f0 s0 : Nat} {m : Option (Nat × Nat)} {since stepped : Nat} {seen : List Nat} (ho : hget H f0 s0 = some (.iter m since seen stepped)) : Sim B F (hset H f0 s0 .dead) E := by
  refine S.step f0 s0 .dead (hget_lt ho) (Ext.refl _ _ _) (fun f s e => rfl) ?_ (fun f s e => rfl) ?_ (fun f s o b e h1 h2 => ⟨rfl, fun i h => h⟩) S.fmod S.modsz trivial ?_
  · have := S.dom f0 s0
    rw [ho] at this
    exact this.symm
  · intro n x h
    have := S.nreg f0 s0 n x h
    rw [ho] at this; cases this
  · intro f s o b e h1 h2 h3
    cases h3

theorem leftE_sound {seen : List Nat} : ∀ {es : List (V × V)} {ces : List MapEntry}, RelM E es ces → ∀ {ce : MapEntry}, ce ∈ ces → seen.contains ce.born = false →
    ∃ e ∈ leftE seen es (ces.map (·.born)), Rel E e.1.1 ce.key ∧ Rel E e.1.2 ce.val ∧ e.2 = ce.born
  | [], ces, h, ce, hm, _ => by simp only [RelM] at h; subst h; cases hm
  | (k, x) :: es, ces, h, ce, hm, hs => by
    obtain ⟨c, r, rfl, h1, h2, h3⟩ := h
    simp only [List.map_cons, leftE]
    rcases List.mem_cons.1 hm with rfl | hm
    · rw [if_neg (by rw [hs]; decide)]
      exact ⟨_, List.mem_cons_self, h1, h2, rfl⟩
    · obtain ⟨e, he, q⟩ := leftE_sound h3 hm hs
      split
      · exact ⟨e, he, q⟩
      · exact ⟨e, List.mem_cons_of_mem _ he, q⟩

theorem leftE_none {seen : List Nat} : ∀ {es : List (V × V)} {ces : List MapEntry}, RelM E es ces → leftE seen es (ces.map (·.born)) ≠ [] → ∃ ce ∈ ces, seen.contains ce.born = false
  | [], ces, h, hne => by simp only [RelM] at h; subst h; exact absurd rfl hne
  | (k, x) :: es, ces, h, hne => by
    obtain ⟨c, r, rfl, h1, h2, h3⟩ := h
    simp only [List.map_cons, leftE] at hne
    split at hne
    · obtain ⟨ce, q1, q2⟩ := leftE_none h3 hne
      exact ⟨ce, List.mem_cons_of_mem _ q1, q2⟩
    · rename_i hs
      exact ⟨c, List.mem_cons_self, by simpa using hs⟩

theorem nextC_ne {g : Get} {x : V} {cs : List (V × Option (Nat × Nat × O))} (h : nextC g x = some cs) : cs ≠ [] := by
  unfold nextC at h
  repeat' split at h
  all_goals first | (cases h; done) | (cases h; simp; done) | skip
  rename_i hne
  cases h
  simpa using hne

theorem nextC_sound (S : Sim B F H E) {x : V} {c : Value} {cs : List (V × Option (Nat × Nat × O))} (h : nextC (hget H) x = some cs) (hr : Rel E x c) (ty : TypeId) :
    ∃ p ∈ cs, ∃ E' cv, Ext H.length B E E' ∧ Sim B F (wr H p.2) E' ∧ Rel E' p.1 cv ∧ (Instr.next c false ty).run P E.w = .ok cv E'.w := by
  have over : Rel E (.tuple [.bool false]) (.tuple #[.bool false]) := by
    simp only [Rel]; exact ⟨[.bool false], rfl, .cons (by simp [Rel]) .nil⟩
  unfold nextC at h
  split at h
  case h_2 => cases h
  rename_i f s
  simp only [Rel] at hr
  obtain ⟨b, hb, rfl⟩ := hr
  split at h
  case h_3 => cases h
  · rename_i since seen stepped hi
    cases h
    obtain ⟨b', mb, g1, g2, g3, g4⟩ := S.obj f s _ hi
    rw [hb] at g1; cases g1
    simp only at g4
    subst g4
    refine ⟨_, List.mem_singleton.2 rfl, E, _, Ext.refl _ _ _, S.over hi, over, ?_⟩
    simp [Instr.next, getObj, Sem.run, g3]
  · rename_i m since seen stepped hi
    split at h
    case h_2 => cases h
    rename_i es bs clk hm
    split at h
    case isFalse => cases h
    rename_i hchk
    rw [Bool.and_eq_true, decide_eq_true_eq] at hchk
    obtain ⟨hall, hst⟩ := hchk
    obtain ⟨b', mb, g1, g2, g3, g4⟩ := S.obj f s _ hi
    rw [hb] at g1; cases g1
    obtain ⟨r, rfl, hr⟩ := g4
    obtain ⟨r', ces, k1, k2, k3, k4, k5⟩ := S.obj m.1 m.2 _ hm
    rw [hr] at k1; cases k1
    subst k5
    have hold : ∀ x ∈ ces.toList, x.born < since := by
      intro x hx
      have := List.all_eq_true.1 hall x.born (List.mem_map.2 ⟨x, hx, rfl⟩)
      exact of_decide_eq_true this
    rcases run_next_at (P := P) E.w ty b r since stepped ⟨seen⟩ ces clk g3 k3 hold hst with ⟨h0, hrun⟩ | ⟨e, he, w1, hw1, hrun⟩
    · have hnil : leftE seen es (ces.toList.map (·.born)) = [] := by
        apply Classical.byContradiction
        intro hne
        obtain ⟨ce, q1, q2⟩ := leftE_none k4 hne
        have := Array.eq_empty_of_size_eq_zero h0
        have hmem : ce ∈ (leftOf ces ⟨seen⟩) := by
          unfold leftOf
          rw [Array.mem_filter]
          refine ⟨Array.mem_toList_iff.1 q1, ?_⟩
          have : (⟨seen⟩ : Array Nat).contains ce.born = false := by simpa using q2
          rw [this]; rfl
        rw [this] at hmem
        simp at hmem
      rw [hnil] at h
      cases h
      exact ⟨_, List.mem_singleton.2 rfl, E, _, Ext.refl _ _ _, S.over hi, over, hrun⟩
    · obtain ⟨q1, q2⟩ := mem_left he
      obtain ⟨ae, p1, p2, p3, p4⟩ := leftE_sound k4 q1 (by simpa using q2)
      split at h
      · rename_i hnil; rw [hnil] at p1; cases p1
      · cases h
        have hd : ∃ d, setBlock w1 b (.mapIter (some r) since ((⟨seen⟩ : Array Nat).push e.born) clk) = (E.setIter b (some r) since ⟨seen ++ [e.born]⟩ clk d).w := by
          have hp : (⟨seen⟩ : Array Nat).push e.born = ⟨seen ++ [e.born]⟩ := by simp
          rw [hp]
          rcases hw1 with rfl | rfl
          · exact ⟨E.w.drawn, rfl⟩
          · exact ⟨E.w.drawn + 1, rfl⟩
        obtain ⟨d, hd⟩ := hd
        obtain ⟨X, S'⟩ := S.setIter hi hb g3 g2 (m := some m) ⟨r, rfl, hr⟩ (seen ++ [e.born]) clk d
        refine ⟨_, List.mem_map.2 ⟨ae, p1, rfl⟩, _, _, X, ?_, ?_, by rw [hrun, hd]⟩
        · simp only [wr, p4]; exact S'
        · simp only [Rel]
          exact ⟨[.bool true, e.key, e.val], rfl, .cons (by simp [Rel]) (.cons (Rel.mono X S.lt _ _ p2) (.cons (Rel.mono X S.lt _ _ p3) .nil))⟩

theorem next_wp {t : List V} {a : Act} (s : St B F fr E H t a) {o : Oper} {x : Operand} (hop : o.op = .next x false) {cs : List (V × Option (Nat × Nat × O))} (hc : nextC (hget H) (rho t x) = some cs) :
    ∃ p ∈ cs, ∃ E' cv, Ext fr B E E' ∧ St B F fr E' (wr H p.2) (putT t o.dst p.1) (a.put o.dst cv) ∧ ∀ (next : Act → World → Prop) (Q : Exit → Act → World → Prop), next (a.put o.dst cv) E'.w → o.wp P a E.w next Q := by
  obtain ⟨p, hp, E', cv, X, S', hr, hrun⟩ := nextC_sound (P := P) s.sim hc (s.ρ x) o.type
  refine ⟨p, hp, E', cv, X.less (Nat.le_of_lt s.lt) (Nat.le_refl _), (s.on X S' (by rw [wr_length]; exact Nat.le_refl _)).put o.dst hr, ?_⟩
  intro next Q hn
  unfold Oper.wp
  have : (execOp a.eval o).run P E.w = .ok (.value cv) E'.w := by
    unfold execOp
    simp only [hop, Sem.run_bind, hrun, Result.andThen_ok, Sem.run_pure]
  rw [this]
  exact hn

/-! ### What settles -/
/-- The same cells, told otherwise. -/
theorem Sim.retell (S : Sim B F H E) {f s : Nat} {xs xs' : List V} (ho : hget H f s = some (.cells xs)) (hr : ∀ vs, RelL E xs vs → RelL E xs' vs) (hs : xs'.all V.scalar = true) : Sim B F (hset H f s (.cells xs')) E := by
  obtain ⟨b, c, T, vs, rest, h1, h2, h3, h4, h5, h6, h7⟩ := S.obj f s _ ho
  refine S.step f s _ (hget_lt ho) (Ext.refl _ _ _) (fun f s e => rfl) (by rw [h1]; rfl) (fun f s e => rfl) ?_ (fun f s o b e g1 g2 => ⟨rfl, fun i h => h⟩) S.fmod S.modsz ⟨b, c, T, vs, rest, h1, h2, h3, h4, hr vs h5, h6, hs⟩ ?_
  · intro n x h
    have := S.nreg f s n x h
    rw [ho] at this; cases this
  · intro f' s' o b' e g1 g2 g3
    have : blk E f s (.cells xs) = some b' := g3
    exact e (S.inj f' s' o f s _ b' g1 ho g2 this)

theorem RelL.set_of {xs : List V} : ∀ {vs : List Value} {o : Nat} {x y : V}, RelL E xs vs → xs[o]? = some x → (∀ v, Rel E x v → Rel E y v) → RelL E (xs.set o y) vs := by
  induction xs with
  | nil => intro vs o x y h hx; cases o <;> cases hx
  | cons a xs ih =>
    intro vs o x y h hx hy
    obtain ⟨v, r, rfl, h1, h2⟩ := RelL.cons_iff.1 h
    cases o with
    | zero =>
      simp only [List.getElem?_cons_zero, Option.some.injEq] at hx
      subst hx
      exact .cons (hy v h1) h2
    | succ o =>
      simp only [List.getElem?_cons_succ] at hx
      exact .cons h1 (ih h2 hx hy)

theorem all_set {xs : List V} (h : xs.all V.scalar = true) {y : V} (hy : y.scalar = true) (o : Nat) : (xs.set o y).all V.scalar = true := by
  rw [List.all_eq_true] at h ⊢
  intro x hx
  rcases List.mem_or_eq_of_mem_set hx with h1 | rfl
  · exact h x h1
  · exact hy

theorem settle1_sound {t : List V} {a : Act} (s : St B F fr E H t a) {k : Nat} {H' : Heap} (h : settle1 t H k = some H') :
    ∃ E', E'.w = E.w ∧ Ext H.length B E E' ∧ St B F fr E' H' t a := by
  have same : ∃ E', E'.w = E.w ∧ Ext H.length B E E' ∧ St B F fr E' H t a := ⟨E, rfl, Ext.refl _ _ _, s⟩
  unfold settle1 at h
  split at h
  · rename_i f sl o _
    split at h
    case h_2 => cases h
    rename_i xs hx
    split at h
    · rename_i f1 s1 o1 len cap esz hxo
      split at h
      case h_2 => cases h
      rename_i ys hy
      split at h
      case isFalse => cases h
      rename_i hc
      obtain ⟨hle, hp, hne⟩ := hc
      cases h
      obtain ⟨b, c, T, vs, rest, g1, g2, g3, g4, g5, g6, g7, g8⟩ := s.sim.lies hy
      obtain ⟨X, S'⟩ := s.sim.die hy g1 g3 g2 E.w rfl (fun _ _ => rfl) g3 ⟨rfl, rfl, rfl⟩
      have hx' : hget (hset H f1 s1 .dead) f sl = some (.cells xs) := by
        rw [hget_hset _ _ _ _ (hget_lt hy), if_neg hne]; exact hx
      have hxs : xs.all V.scalar = true := by
        obtain ⟨_, _, _, _, _, _, _, _, _, _, _, h7⟩ := s.sim.obj f sl _ hx
        exact h7
      refine ⟨{ E with mod := fun b' i => E.mod b' i ∧ b' ≠ b }, rfl, X, ?_⟩
      have S2 := S'.retell hx' (xs' := xs.set o (.islice ((ys.drop o1).take (len * esz)) len (cap == some len))) (fun vs' hr => ?_) (all_set hxs rfl o)
      · exact s.on X S2 (by simp [hset_length])
      · refine RelL.set_of hr hxo fun v hv => ?_
        simp only [Rel] at hv ⊢
        obtain ⟨b', c', T', n', q1, rfl, q2, q3, q4, _⟩ := hv
        have q1' : E.mu f1 s1 = some b' := q1
        rw [g1] at q1'; cases q1'
        refine ⟨_, c', (vs.drop o1).take (len * esz), rfl, q2, ?_, .inr ⟨rfl, ?_⟩, RelL.mono X s.sim.lt _ _ ((g5.drop o1).take _), pureL_take (pureL_drop hp _) _⟩
        · intro hcap
          have : cap = some len := by simpa using hcap
          exact q3 len this
        · exact fun i v hv => ⟨g8.from o1 _ i v hv, fun hm => hm.2 rfl⟩
    · cases h; exact same
    · cases h
  · cases h; exact same
  · cases h; exact same
  · cases h

theorem settleL_sound {t : List V} {a : Act} : ∀ {ks : List Nat} {E : Env} {H : Heap}, St B F fr E H t a → ∀ {H' : Heap}, settleL ks t H = some H' → ∃ E', E'.w = E.w ∧ Ext fr B E E' ∧ St B F fr E' H' t a
  | [], E, H, s, H', h => by cases h; exact ⟨E, rfl, Ext.refl _ _ _, s⟩
  | k :: ks, E, H, s, H', h => by
    simp only [settleL] at h
    split at h
    · rename_i H1 h1
      obtain ⟨E1, w1, X1, s1⟩ := settle1_sound s h1
      obtain ⟨E2, w2, X2, s2⟩ := settleL_sound s1 h
      exact ⟨E2, w2.trans w1, (X1.less (Nat.le_of_lt s.lt) (Nat.le_refl _)).trans X2, s2⟩
    · cases h

end
end Go.AM
end
section
/- The abstract machine, part 18: code and calls: the machine is sound. -/
namespace Go.AM

section
variable {P : Program} {pol : Pol} {C : Call} {L : MBody → Body} {B : Nat} {F : Nat → Nat → Prop} {fn fr : Nat}

/-- The rounds of a loop, from its body on. -/
def wpL (P : Program) (c : Code) (Q : Exit → Act → World → Prop) (a : Act) (w : World) : Prop :=
  ∀ (b : Go.Frame) (k : List Item) (cs : List Go.Frame), ∃ e a' w', Q e a' w' ∧ Arrives P (lone (b.at a (.code c :: .inLoop c :: k)) cs w) b k cs e a' w'

theorem wp_of_wpL {c : Code} {Q : Exit → Act → World → Prop} {a : Act} {w : World} (h : wpL P c Q a w) : (Code.loop c).wp P Q a w :=
  fun b k cs => let ⟨e, a', w', q, r⟩ := h b k cs; ⟨e, a', w', q, .of_steps (.one step_loop) r⟩

theorem wpL_round {c : Code} {Q : Exit → Act → World → Prop} {a : Act} {w : World} (h : c.wp P (Exit.then (wpL P c Q) Q) a w) : wpL P c Q a w := by
  intro b k cs
  obtain ⟨e, a₁, w₁, hq, harr⟩ := h b (.inLoop c :: k) cs
  cases e with
  | normal =>
    obtain ⟨e₂, a₂, w₂, hq₂, harr₂⟩ := hq b k cs
    exact ⟨e₂, a₂, w₂, hq₂, .of_steps (Steps.trans harr (.one step_inLoop)) harr₂⟩
  | exit id => exact ⟨_, a₁, w₁, hq, .pass (x := .inLoop c) rfl (fun _ _ => .inl (by simp)) harr⟩
  | goto l => exact ⟨_, a₁, w₁, hq, .pass (x := .inLoop c) rfl (fun _ _ => .inl (by simp)) harr⟩
  | ret => exact ⟨_, a₁, w₁, hq, .pass (x := .inLoop c) rfl (fun _ _ => .inl (by simp)) harr⟩
  | panic ch => exact ⟨_, a₁, w₁, hq, .pass (x := .inLoop c) rfl (fun _ _ => .inl (by simp)) harr⟩
  | outgrown => exact ⟨_, a₁, w₁, hq, .pass (x := .inLoop c) rfl (fun _ _ => .inl (by simp)) harr⟩

/-- What an exit that is not the plain one leaves is handed on. -/
theorem XPost.through {E0 : Env} {ex : Ex} {t' : List V} {H' : Heap} (hne : ex ≠ .normal) {next : Act → World → Prop} {Q : Exit → Act → World → Prop}
    (hQ : ∀ e a w, XPost B F fr E0 ex t' H' e a w → Q e a w) : ∀ e a w, XPost B F fr E0 ex t' H' e a w → Exit.then next Q e a w := by
  intro e a w h
  have hx := h
  obtain ⟨E', rfl, X, s, hr⟩ := hx
  cases ex with
  | normal => exact absurd rfl hne
  | exit i => simp only [ExRel] at hr; subst hr; exact hQ _ _ _ h
  | ret => simp only [ExRel] at hr; subst hr; exact hQ _ _ _ h
  | panic v => obtain ⟨c, rfl, _⟩ := hr; exact hQ _ _ _ h

theorem loop_sound {c : Code} {f : MBody}
    (hf : ∀ t H E0 E a, Ext fr B E0 E → St B F fr E H t a → ∃ x ∈ f t H, ∀ ex t' H', x = some (ex, t', H') → c.wp P (XPost B F fr E0 ex t' H') a E.w) :
    ∀ (n : Nat) t H ex t' H' E0 E a, loopN f n t H = some (ex, t', H') → Ext fr B E0 E → St B F fr E H t a → wpL P c (XPost B F fr E0 ex t' H') a E.w := by
  intro n
  induction n with
  | zero => intro t H ex t' H' E0 E a h; cases h
  | succ n ih =>
    intro t H ex t' H' E0 E a h X s
    simp only [loopN] at h
    refine wpL_round ?_
    obtain ⟨x, hx, hwp⟩ := hf t H E0 E a X s
    have h1 := (agree_all h) _ (List.mem_map.2 ⟨x, hx, rfl⟩)
    unfold after at h1
    split at h1
    · rename_i t1 H1
      refine wp_mono (hwp _ _ _ rfl) ?_
      rintro e a' w' ⟨E', rfl, X', s', hr⟩
      simp only [ExRel] at hr
      subst hr
      exact ih t1 H1 ex t' H' E0 E' a' h1 X' s'
    · rename_i hne
      refine wp_mono (hwp _ _ _ h1) (XPost.through ?_ (fun _ _ _ h => h))
      intro e
      subst e
      exact hne _ _ h1

/-- Loops go round as often as they do. -/
def LSound (L : MBody → Body) : Prop := ∀ f t H r, L f t H = some r → ∃ n, loopN f n t H = some r

theorem exec_sound2 (ok : Okay P pol) (cs : CSound P C) (ls : LSound L) : ∀ (c : Code), drawsC c = true →
    (∀ (t : List V) (H : Heap) (ex : Ex) (t' : List V) (H' : Heap) (E0 E : Env) (a : Act),
      exec P pol C L fn fr c t H = some (ex, t', H') → Ext fr B E0 E → St B F fr E H t a → c.wp P (XPost B F fr E0 ex t' H') a E.w) ∧
    (∀ (x : Operand) (l : List (V × Option (Nat × Nat × O))) (t : List V) (H : Heap) (E0 E : Env) (a : Act), headNext c = some x → nextC (hget H) (rho t x) = some l → Ext fr B E0 E → St B F fr E H t a →
      ∃ p ∈ l, ∀ (ex : Ex) (t' : List V) (H' : Heap), execF P pol C L fn fr c p.1 p.2 t H = some (ex, t', H') → c.wp P (XPost B F fr E0 ex t' H') a E.w) := by
  intro c
  induction c with
  | skip =>
    intro _
    refine ⟨?_, ?_⟩
    · intro t H ex t' H' E0 E a h X s
      cases h
      exact wp_skip ⟨E, rfl, X, s, rfl⟩
    · intro x l t H E0 E a h
      cases h
  | region id ops draw =>
    intro hd
    refine ⟨?_, ?_⟩
    · intro t H ex t' H' E0 E a h X s
      simp only [exec] at h
      cases draw with
      | true =>
        simp only [if_true] at h
        split at h
        case h_2 => cases h
        rename_i t1 H1 T hT
        split at h
        case isFalse => cases h
        rename_i hok
        cases h
        exact draw_sound ok cs (by simpa [drawsC] using hd) hT hok X s
      | false =>
        simp only [Bool.false_eq_true, if_false] at h
        refine wp_region ?_
        have := runOps_sound (fn := fn) ok cs ops.toList [] t H ex t' H' E a (by simp) h X s
        simpa [List.range_eq_range'] using this
    · intro x l t H E0 E a hn hc X s
      cases draw with
      | true => cases hn
      | false =>
        simp only [headNext] at hn
        cases hops : ops.toList with
        | nil => rw [hops] at hn; cases hn
        | cons o r =>
          rw [hops] at hn
          simp only at hn
          split at hn
          case h_2 => cases hn
          rename_i y hg hop
          cases hn
          obtain ⟨p, hp, E', cv, X', s', hwp⟩ := next_wp (P := P) s hop hc
          refine ⟨p, hp, fun ex t' H' h => ?_⟩
          simp only [execF, hops] at h
          refine wp_region ?_
          have h0 : ops[0]? = some o := by
            have : ops.toList[0]? = some o := by rw [hops]; rfl
            simpa using this
          have hsz : ops.size = r.length + 1 := by
            have : ops.toList.length = r.length + 1 := by rw [hops]; rfl
            simpa using this
          have hrun := runOps_sound (fn := fn) (E0 := E0) ok cs r [o] _ _ ex t' H' E' _ (by rw [hops]; rfl) h (X.trans X') s'
          have hrange : List.range ops.size = 0 :: List.range' 1 r.length := by
            rw [hsz, List.range_eq_range', List.range'_succ]
          rw [hrange]
          simp only [wpOps, h0]
          have hw : Region.wanted o (yielded ops a.tmps) = true := by simp [Region.wanted, hg]
          rw [if_pos hw]
          left
          exact hwp _ _ (by simpa using hrun)
  | seq x y ihx ihy =>
    intro hd
    refine ⟨?_, ?_⟩
    · intro t H ex t' H' E0 E a h X s
      simp only [drawsC, Bool.and_eq_true] at hd
      simp only [exec] at h
      refine wp_seq ?_
      split at h
      · rename_i t1 H1 hx
        refine wp_mono ((ihx hd.1).1 _ _ _ _ _ E0 E a hx X s) ?_
        rintro e a' w' ⟨E', rfl, X', s', hr⟩
        simp only [ExRel] at hr
        subst hr
        exact (ihy hd.2).1 t1 H1 ex t' H' E0 E' a' h X' s'
      · rename_i r hne
        refine wp_mono ((ihx hd.1).1 _ _ _ _ _ E0 E a h X s) (XPost.through ?_ (fun _ _ _ h => h))
        intro e
        subst e
        exact hne _ _ h
    · intro v l t H E0 E a hn hc X s
      simp only [drawsC, Bool.and_eq_true] at hd
      simp only [headNext] at hn
      obtain ⟨p, hp, hwp⟩ := (ihx hd.1).2 v l t H E0 E a hn hc X s
      refine ⟨p, hp, fun ex t' H' h => ?_⟩
      simp only [execF] at h
      refine wp_seq ?_
      split at h
      · rename_i t1 H1 hx
        refine wp_mono (hwp _ _ _ hx) ?_
        rintro e a' w' ⟨E', rfl, X', s', hr⟩
        simp only [ExRel] at hr
        subst hr
        exact (ihy hd.2).1 t1 H1 ex t' H' E0 E' a' h X' s'
      · rename_i r hne
        refine wp_mono (hwp _ _ _ h) (XPost.through ?_ (fun _ _ _ h => h))
        intro e
        subst e
        exact hne _ _ h
  | cond c x y ihx ihy =>
    intro hd
    refine ⟨?_, ?_⟩
    · intro t H ex t' H' E0 E a h X s
      simp only [drawsC, Bool.and_eq_true] at hd
      simp only [exec] at h
      split at h
      case h_2 => cases h
      rename_i b hb
      have hc := s.ρ c
      rw [hb] at hc
      simp only [Rel] at hc
      refine wp_cond hc ?_
      cases b with
      | true => simp only [if_true] at h ⊢; exact (ihx hd.1).1 _ _ _ _ _ E0 E a h X s
      | false => simp only [Bool.false_eq_true, if_false] at h ⊢; exact (ihy hd.2).1 _ _ _ _ _ E0 E a h X s
    · intro x l t H E0 E a h
      cases h
  | block id b ih =>
    intro hd
    refine ⟨?_, ?_⟩
    · intro t H ex t' H' E0 E a h X s
      simp only [drawsC, Bool.and_eq_true] at hd
      simp only [exec] at h
      refine wp_block ?_
      split at h
      · rename_i i t1 H1 hb
        refine wp_mono ((ih hd).1 _ _ _ _ _ E0 E a hb X s) ?_
        rintro e a' w' ⟨E', rfl, X', s', hr⟩
        simp only [ExRel] at hr
        subst hr
        simp only [Exit.inBlock]
        split at h
        · rename_i hi
          cases h
          rw [if_pos hi]
          exact ⟨E', rfl, X', s', rfl⟩
        · rename_i hi
          cases h
          rw [if_neg hi]
          exact ⟨E', rfl, X', s', rfl⟩
      · rename_i r hne
        refine wp_mono ((ih hd).1 _ _ _ _ _ E0 E a h X s) ?_
        intro e a' w' hx
        have hx' := hx
        obtain ⟨E', rfl, X', s', hr⟩ := hx'
        cases ex with
        | normal => simp only [ExRel] at hr; subst hr; exact hx
        | exit i => exact absurd h (by intro h'; exact hne _ _ _ h')
        | ret => simp only [ExRel] at hr; subst hr; exact hx
        | panic v => obtain ⟨c, rfl, _⟩ := hr; exact hx
    · intro x l t H E0 E a h
      cases h
  | loop b ih =>
    intro hd
    refine ⟨?_, ?_⟩
    · intro t H ex t' H' E0 E a h X s
      simp only [drawsC] at hd
      simp only [exec] at h
      obtain ⟨N, h⟩ := ls _ _ _ _ h
      refine wp_of_wpL (loop_sound ?_ N t H ex t' H' E0 E a h X s)
      intro t H E0 E a X s
      cases hf : forget pol fn fr (fstRegion b) t H with
      | none => exact ⟨none, by simp, fun _ _ _ h => by cases h⟩
      | some y =>
        obtain ⟨t1, H1⟩ := y
        obtain ⟨E1, hw, X1, S1, hr, hl⟩ := s.sim.forget hf s.rel
        have s1 : St B F fr E1 H1 t1 a := ⟨S1, by rw [hl]; exact s.lt, hr, s.defers⟩
        simp only
        cases hn : headNext b with
        | none =>
          refine ⟨_, List.mem_singleton.2 rfl, fun ex t' H' h => ?_⟩
          have := (ih hd).1 t1 H1 ex t' H' E0 E1 a h (X.trans X1) s1
          rwa [hw] at this
        | some x =>
          simp only
          cases hc : nextC (hget H1) (rho t1 x) with
          | none => exact ⟨none, by simp, fun _ _ _ h => by cases h⟩
          | some l =>
            obtain ⟨p, hp, hwp⟩ := (ih hd).2 x l t1 H1 E0 E1 a hn hc (X.trans X1) s1
            refine ⟨_, List.mem_map.2 ⟨p, hp, rfl⟩, fun ex t' H' h => ?_⟩
            have := hwp ex t' H' h
            rwa [hw] at this
    · intro x l t H E0 E a h
      cases h
  | rangeFunc f ps as b iha ihb =>
    intro _
    refine ⟨?_, ?_⟩
    · intro t H ex t' H' E0 E a h X s
      cases h
    · intro x l t H E0 E a h
      cases h
  | exit id =>
    intro _
    refine ⟨?_, ?_⟩
    · intro t H ex t' H' E0 E a h X s
      cases h
      exact wp_exit ⟨E, rfl, X, s, rfl⟩
    · intro x l t H E0 E a h
      cases h
  | scope b ih =>
    intro _
    refine ⟨?_, ?_⟩
    · intro t H ex t' H' E0 E a h X s
      cases h
    · intro x l t H E0 E a h
      cases h
  | label l =>
    intro _
    refine ⟨?_, ?_⟩
    · intro t H ex t' H' E0 E a h X s
      cases h
    · intro x l t H E0 E a h
      cases h
  | goto l =>
    intro _
    refine ⟨?_, ?_⟩
    · intro t H ex t' H' E0 E a h X s
      cases h
    · intro x l t H E0 E a h
      cases h
  | ret =>
    intro _
    refine ⟨?_, ?_⟩
    · intro t H ex t' H' E0 E a h X s
      cases h
      exact wp_ret ⟨E, rfl, X, s, rfl⟩
    · intro x l t H E0 E a h
      cases h
  | refuse why =>
    intro _
    refine ⟨?_, ?_⟩
    · intro t H ex t' H' E0 E a h X s
      cases h
    · intro x l t H E0 E a h
      cases h

theorem exec_sound (ok : Okay P pol) (cs : CSound P C) (ls : LSound L) (c : Code) (hd : drawsC c = true) (t : List V) (H : Heap) (ex : Ex) (t' : List V) (H' : Heap) (E0 E : Env) (a : Act)
    (h : exec P pol C L fn fr c t H = some (ex, t', H')) (X : Ext fr B E0 E) (s : St B F fr E H t a) : c.wp P (XPost B F fr E0 ex t' H') a E.w :=
  (exec_sound2 ok cs ls c hd).1 t H ex t' H' E0 E a h X s

/-! ### Results -/

theorem resOne_sound {E : Env} {H : Heap} {t : List V} {a : Act} (s : St B F fr E H t a) {r : ResultVar} {v : V} (h : resOne P t H r = some v) :
    ∃ c, (match r with
      | .tmp i => (Pure.pure (a.tmps.getD i undef) : Sem Value)
      | .cell i T => (do loadVar T (← asAddr (a.tmps.getD i undef)) : Sem Value)).run P E.w = .ok c E.w ∧ Rel E v c := by
  cases r with
  | tmp i =>
    simp only [resOne, Option.some.injEq] at h
    subst h
    exact ⟨_, rfl, s.ρ (.tmp i)⟩
  | cell i T =>
    simp only [resOne] at h
    split at h
    case h_2 => cases h
    rename_i f sl o hp
    split at h
    case h_2 => cases h
    rename_i xs hg
    have hr := s.ρ (.tmp i)
    simp only [rho, Act.eval] at hr
    rw [hp] at hr
    simp only [Rel] at hr
    obtain ⟨b, hb, he⟩ := hr
    obtain ⟨b2, cc, T2, vs, rest, q1, _, _, _, q5, _, _, q8⟩ := s.sim.lies hg
    rw [hb] at q1; cases q1
    obtain ⟨c, h1, h2⟩ := readAt_sound (w := E.w) h q5 q8
    rw [Nat.zero_add] at h1
    refine ⟨c, ?_, h2⟩
    simp only [he, asAddr, Sem.run_bind, Sem.run_pure, Result.andThen_ok, h1]

theorem resL_sound {E : Env} {H : Heap} {t : List V} {a : Act} (s : St B F fr E H t a) : ∀ (rs : List ResultVar) (vs : List V), resL P t H rs = some vs →
    ∃ cs, (rs.mapM (m := Sem) fun r => (match r with
      | .tmp i => (Pure.pure (a.tmps.getD i undef) : Sem Value)
      | .cell i T => (do loadVar T (← asAddr (a.tmps.getD i undef)) : Sem Value))).run P E.w = .ok cs E.w ∧ RelL E vs cs
  | [], vs, h => by cases h; exact ⟨[], rfl, .nil⟩
  | r :: rs, vs, h => by
    simp only [resL] at h
    split at h
    · rename_i v vs' h1 h2
      cases h
      obtain ⟨c, g1, g2⟩ := resOne_sound s h1
      obtain ⟨cs, g3, g4⟩ := resL_sound s rs vs' h2
      exact ⟨c :: cs, by simp only [List.mapM_cons, Sem.run_bind, g1, Result.andThen_ok, g3, Sem.run_pure], .cons g2 g4⟩
    · cases h

theorem resV_sound {E : Env} {H : Heap} {t : List V} {a : Act} (s : St B F fr E H t a) {f : Func} {v : V} (h : resV P f t H = some v) :
    ∃ c, (results f a.tmps).run P E.w = .ok c E.w ∧ Rel E v c := by
  unfold resV at h
  split at h
  · rename_i v' hl
    cases h
    obtain ⟨cs, h1, h2⟩ := resL_sound s _ _ hl
    obtain ⟨c, r, rfl, hc, hr⟩ := RelL.cons_iff.1 h2
    rw [RelL.nil_iff] at hr; subst hr
    refine ⟨c, ?_, hc⟩
    simp only [results, Sem.run_bind]
    rw [Array.mapM_eq_mapM_toList]
    simp only [Sem.run_map]
    exact (congrArg (fun r : Result (List Value) => (r.andThen fun a w' => Result.ok a.toArray w').andThen fun a w' => Sem.run P (Pure.pure (if h : a.size = 1 then a[0] else Value.tuple a)) w') h1).trans rfl
  · rename_i vs hne hl
    cases h
    obtain ⟨cs, h1, h2⟩ := resL_sound s _ _ hl
    refine ⟨.tuple ⟨cs⟩, ?_, by simp only [Rel]; exact ⟨cs, rfl, h2⟩⟩
    simp only [results, Sem.run_bind]
    rw [Array.mapM_eq_mapM_toList]
    simp only [Sem.run_map]
    refine (congrArg (fun r : Result (List Value) => (r.andThen fun a w' => Result.ok a.toArray w').andThen fun a w' => Sem.run P (Pure.pure (if h : a.size = 1 then a[0] else Value.tuple a)) w') h1).trans ?_
    have hlen := h2.length
    have : ¬ ((⟨cs⟩ : Array Value).size = 1) := by
      intro e
      have e1 : vs.length = 1 := by rw [hlen]; exact e
      obtain ⟨x, rfl⟩ := List.length_eq_one_iff.1 e1
      exact hne x rfl
    simp only [Result.andThen_ok, this, dif_neg, not_false_eq_true, Sem.run_pure]
  · cases h

theorem callB_sound (ok : Okay P pol) (cs : CSound P C) (ls : LSound L) : CSound P (callB P pol C L) := by
  intro f args H r H' h
  unfold callB at h
  split at h
  case h_2 => cases h
  rename_i Fn hFn
  split at h
  case h_2 => cases h
  rename_i c hc
  refine ⟨⟨Fn, c, hFn, hc⟩, ?_⟩
  intro B F E cargs S hr
  have hl := hr.length
  have s : St B F H.length E (H ++ [[]]) (args ++ List.replicate (Fn.ntmps - args.length) .bad) { tmps := (⟨cargs⟩ : Array Value) ++ Array.replicate (Fn.ntmps - (⟨cargs⟩ : Array Value).size) undef, defers := [] } := by
    refine ⟨S.push, by simp, ?_, rfl⟩
    have : ((⟨cargs⟩ : Array Value) ++ Array.replicate (Fn.ntmps - (⟨cargs⟩ : Array Value).size) undef).toList = cargs ++ List.replicate (Fn.ntmps - args.length) undef := by
      simp [hl]
    rw [this]
    exact hr.append (RelL.replicate _ (by simp [Rel]))
  refine calls_of_wp hFn hc ?_
  have plain : ∀ (ex : Ex) (t : List V) (H1 : Heap) (v : V), (ex = .normal ∨ ex = .ret) → settleO (pol.settle f) (exec P pol C L f H.length c (args ++ List.replicate (Fn.ntmps - args.length) .bad) (H ++ [[]])) = some (ex, t, H1) →
      resV P Fn t H1 = some v → c.wp P (bodyPost P Fn (Answer B F H E (.ret v) (popF H.length v H1))) { tmps := (⟨cargs⟩ : Array Value) ++ Array.replicate (Fn.ntmps - (⟨cargs⟩ : Array Value).size) undef, defers := [] } E.w := by
    intro ex t H1 v hex hset hres
    have hsplit : ∃ H0, exec P pol C L f H.length c (args ++ List.replicate (Fn.ntmps - args.length) .bad) (H ++ [[]]) = some (ex, t, H0) ∧ settleL (pol.settle f) t H0 = some H1 := by
      cases hx : exec P pol C L f H.length c (args ++ List.replicate (Fn.ntmps - args.length) .bad) (H ++ [[]]) with
      | none => rw [hx] at hset; cases hset
      | some y =>
        obtain ⟨e, t0, H0⟩ := y
        rw [hx] at hset
        cases e with
        | normal =>
          simp only [settleO] at hset
          cases hl : settleL (pol.settle f) t0 H0 with
          | none => rw [hl] at hset; cases hset
          | some H2 => rw [hl] at hset; cases hset; exact ⟨H0, rfl, hl⟩
        | ret =>
          simp only [settleO] at hset
          cases hl : settleL (pol.settle f) t0 H0 with
          | none => rw [hl] at hset; cases hset
          | some H2 => rw [hl] at hset; cases hset; exact ⟨H0, rfl, hl⟩
        | exit i => cases hset; rcases hex with h | h <;> cases h
        | panic v => cases hset; rcases hex with h | h <;> cases h
    obtain ⟨H0, hrun, hset'⟩ := hsplit
    refine wp_mono (exec_sound ok cs ls c (ok.draws f Fn c hFn hc) _ _ _ _ _ E E _ hrun (Ext.refl _ _ _) s) ?_
    rintro e a' w' ⟨E', rfl, X', s', he⟩
    obtain ⟨E1, hw1, X1, s1⟩ := settleL_sound s' hset'
    obtain ⟨cv, h1, h2⟩ := resV_sound s1 hres
    obtain ⟨E2, hw, X2, S2, hr2⟩ := s1.sim.pop H.length v cv h2
    rw [hw1] at h1 hw
    have hA : Answer B F H E (.ret v) (popF H.length v H1) (.returned cv) E'.w :=
      ⟨E2, hw, ⟨cv, rfl, hr2⟩, S2, (X'.trans X1).trans X2, popF_length _ _ _ (Nat.le_of_lt s1.lt)⟩
    rcases hex with rfl | rfl
    · simp only [ExRel] at he; subst he; exact ⟨s'.defers, cv, h1, hA⟩
    · simp only [ExRel] at he; subst he; exact ⟨s'.defers, cv, h1, hA⟩
  split at h
  · rename_i t H1 hex
    split at h
    case h_2 => cases h
    rename_i v hv
    cases h
    exact plain _ t H1 v (.inl rfl) hex hv
  · rename_i t H1 hex
    split at h
    case h_2 => cases h
    rename_i v hv
    cases h
    exact plain _ t H1 v (.inr rfl) hex hv
  · rename_i v t H1 hex
    cases h
    have hrun : exec P pol C L f H.length c (args ++ List.replicate (Fn.ntmps - args.length) .bad) (H ++ [[]]) = some (.panic v, t, H1) := by
      cases hx : exec P pol C L f H.length c (args ++ List.replicate (Fn.ntmps - args.length) .bad) (H ++ [[]]) with
      | none => rw [hx] at hex; cases hex
      | some y =>
        obtain ⟨e, t0, H0⟩ := y
        rw [hx] at hex
        cases e with
        | normal => simp only [settleO] at hex; cases hl : settleL (pol.settle f) t0 H0 <;> (rw [hl] at hex; cases hex)
        | ret => simp only [settleO] at hex; cases hl : settleL (pol.settle f) t0 H0 <;> (rw [hl] at hex; cases hex)
        | exit i => cases hex
        | panic v => exact hex
    refine wp_mono (exec_sound ok cs ls c (ok.draws f Fn c hFn hc) _ _ _ _ _ E E _ hrun (Ext.refl _ _ _) s) ?_
    rintro e a' w' ⟨E', rfl, X', s', cv, rfl, hcv⟩
    obtain ⟨E2, hw, X2, S2, hr2⟩ := s'.sim.pop H.length v cv hcv
    exact ⟨s'.defers, E2, hw, ⟨cv, rfl, hr2⟩, S2, X'.trans X2, popF_length _ _ _ (Nat.le_of_lt s'.lt)⟩
  · cases h

theorem callN_sound (ok : Okay P pol) : ∀ n, CSound P (callN P pol n)
  | 0 => fun _ _ _ _ _ h => by cases h
  | n + 1 => callB_sound ok (callN_sound ok n) (fun _ _ _ _ h => ⟨n, h⟩)

end
end Go.AM
end
