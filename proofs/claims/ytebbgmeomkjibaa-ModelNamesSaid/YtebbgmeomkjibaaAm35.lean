/- The abstract machine, part 35: a step through a map: one of those that may come. -/
import Derived.Test.YtebbgmeomkjibaaAm17
import Derived.Maps.RangeRun
set_option linter.unusedSimpArgs false
set_option linter.unusedVariables false
namespace Go.AM
open Go.ChangeMaps (setBlock)

section
variable {P : Program} {E : Env} {B : Nat} {F : Nat → Nat → Prop} {H : Heap} {fr : Nat}

/-- An iterator steps. -/
def Env.setIter (E : Env) (b : Nat) (mb : Option Nat) (since : Nat) (seen : Array Nat) (stepped d : Nat) : Env :=
  { E with w := { E.w with heap := E.w.heap.setIfInBounds b (.mapIter mb since seen stepped), drawn := d } }

theorem setIter_other (E : Env) (b : Nat) (mb : Option Nat) (since : Nat) (seen : Array Nat) (stepped d b' : Nat) (h : b' ≠ b) : (E.setIter b mb since seen stepped d).w.heap[b']? = E.w.heap[b']? := by
  simp only [Env.setIter]
  rw [Array.getElem?_setIfInBounds_ne (by omega)]

theorem Sim.setIter (S : Sim B F H E) {f0 s0 b : Nat} {m : Option (Nat × Nat)} {since stepped : Nat} {seen : List Nat} (ho : hget H f0 s0 = some (.iter m since seen stepped)) (hmu : E.mu f0 s0 = some b) {mb : Option Nat}
    (hb : E.w.heap[b]? = some (.mapIter mb since ⟨seen⟩ stepped)) (hB : B ≤ b) (hm : match m with | none => mb = none | some x => ∃ r, mb = some r ∧ E.mu x.1 x.2 = some r) (seen' : List Nat) (stepped' d : Nat) :
    Ext H.length B E (E.setIter b mb since ⟨seen'⟩ stepped' d) ∧ Sim B F (hset H f0 s0 (.iter m since seen' stepped')) (E.setIter b mb since ⟨seen'⟩ stepped' d) := by
  have hlt : b < E.w.heap.size := (Array.getElem?_eq_some_iff.1 hb).1
  have hself : (E.setIter b mb since ⟨seen'⟩ stepped' d).w.heap[b]? = some (.mapIter mb since ⟨seen'⟩ stepped') := by simp [Env.setIter, hlt]
  have hcell : ∀ i, E.w.cell? ⟨b, i, none⟩ = none := fun i => by simp [World.cell?, hb]
  have X : Ext H.length B E (E.setIter b mb since ⟨seen'⟩ stepped' d) := by
    refine ⟨by simp [Env.setIter], ?_, ?_, fun _ _ _ _ h => h, fun _ _ _ _ h => h, fun f s n b lo hi _ _ h => ⟨n, b, lo, hi, h, .inr ⟨rfl, rfl, rfl, rfl⟩⟩, ?_, ⟨rfl, rfl, rfl⟩⟩
    · intro b' T n h
      by_cases e : b' = b
      · subst e; simp [World.shape?, hb] at h
      · rw [shape_of_heap (setIter_other E b _ _ _ _ _ b' e)]; exact h
    · intro b' i v _ h
      by_cases e : b' = b
      · subst e; rw [hcell] at h; cases h
      · rw [cell_of_heap (setIter_other E b _ _ _ _ _ b' e)]; exact h
    · intro b' hb'
      exact setIter_other E b _ _ _ _ _ b' (by omega)
  have hblk : blk E f0 s0 (.iter m since seen stepped) = some b := hmu
  refine ⟨X, S.step f0 s0 _ (hget_lt ho) X (fun f s e => rfl) (by simp [Env.setIter, hmu]) (fun f s e => rfl) ?_ ?_ ?_ ?_ ?_ ?_⟩
  · intro n x h
    have := S.nreg f0 s0 n x h
    rw [ho] at this; cases this
  · intro f s o b' e ho' hb'
    refine ⟨?_, fun i h => h⟩
    have hne : b' ≠ b := fun e' => e (S.inj f s o f0 s0 _ b' ho' ho hb' (e' ▸ hblk))
    exact setIter_other E b _ _ _ _ _ b' hne
  · exact fun b i h => S.fmod b i h
  · intro b' i h
    simp only [Env.setIter, Array.size_setIfInBounds]
    exact S.modsz b' i h
  · refine ⟨b, mb, hmu, hB, hself, ?_⟩
    cases m with
    | none => exact hm
    | some x => exact hm
  · intro f s o b' e ho' hb' h
    simp only [blk, Env.setIter, hmu, Option.some.injEq] at h
    subst h
    exact e (S.inj f s o f0 s0 _ b ho' ho hb' hblk)

/-- An iterator is done with. -/
theorem Sim.over (S : Sim B F H E) {f0 s0 : Nat} {m : Option (Nat × Nat)} {since stepped : Nat} {seen : List Nat} (ho : hget H f0 s0 = some (.iter m since seen stepped)) : Sim B F (hset H f0 s0 .dead) E := by
  refine S.step f0 s0 .dead (hget_lt ho) (Ext.refl _ _ _) (fun f s e => rfl) ?_ (fun f s e => rfl) ?_ (fun f s o b e h1 h2 => ⟨rfl, fun i h => h⟩) S.fmod S.modsz trivial ?_
  · have := S.dom f0 s0
    rw [ho] at this
    exact this.symm
  · intro n x h
    have := S.nreg f0 s0 n x h
    rw [ho] at this; cases this
  · intro f s o b e h1 h2 h3
    cases h3

theorem leftE_sound {seen : List Nat} : ∀ {es : List (V × V)} {ces : List MapEntry}, RelM E es ces → ∀ {ce : MapEntry}, ce ∈ ces → seen.contains ce.born = false →
    ∃ e ∈ leftE seen es (ces.map (·.born)), Rel E e.1.1 ce.key ∧ Rel E e.1.2 ce.val ∧ e.2 = ce.born
  | [], ces, h, ce, hm, _ => by simp only [RelM] at h; subst h; cases hm
  | (k, x) :: es, ces, h, ce, hm, hs => by
    obtain ⟨c, r, rfl, h1, h2, h3⟩ := h
    simp only [List.map_cons, leftE]
    rcases List.mem_cons.1 hm with rfl | hm
    · rw [if_neg (by rw [hs]; decide)]
      exact ⟨_, List.mem_cons_self, h1, h2, rfl⟩
    · obtain ⟨e, he, q⟩ := leftE_sound h3 hm hs
      split
      · exact ⟨e, he, q⟩
      · exact ⟨e, List.mem_cons_of_mem _ he, q⟩

theorem leftE_none {seen : List Nat} : ∀ {es : List (V × V)} {ces : List MapEntry}, RelM E es ces → leftE seen es (ces.map (·.born)) ≠ [] → ∃ ce ∈ ces, seen.contains ce.born = false
  | [], ces, h, hne => by simp only [RelM] at h; subst h; exact absurd rfl hne
  | (k, x) :: es, ces, h, hne => by
    obtain ⟨c, r, rfl, h1, h2, h3⟩ := h
    simp only [List.map_cons, leftE] at hne
    split at hne
    · obtain ⟨ce, q1, q2⟩ := leftE_none h3 hne
      exact ⟨ce, List.mem_cons_of_mem _ q1, q2⟩
    · rename_i hs
      exact ⟨c, List.mem_cons_self, by simpa using hs⟩

theorem nextC_ne {g : Get} {x : V} {cs : List (V × Option (Nat × Nat × O))} (h : nextC g x = some cs) : cs ≠ [] := by
  unfold nextC at h
  repeat' split at h
  all_goals first | (cases h; done) | (cases h; simp; done) | skip
  rename_i hne
  cases h
  simpa using hne

theorem nextC_sound (S : Sim B F H E) {x : V} {c : Value} {cs : List (V × Option (Nat × Nat × O))} (h : nextC (hget H) x = some cs) (hr : Rel E x c) (ty : TypeId) :
    ∃ p ∈ cs, ∃ E' cv, Ext H.length B E E' ∧ Sim B F (wr H p.2) E' ∧ Rel E' p.1 cv ∧ (Instr.next c false ty).run P E.w = .ok cv E'.w := by
  have over : Rel E (.tuple [.bool false]) (.tuple #[.bool false]) := by
    simp only [Rel]; exact ⟨[.bool false], rfl, .cons (by simp [Rel]) .nil⟩
  unfold nextC at h
  split at h
  case h_2 => cases h
  rename_i f s
  simp only [Rel] at hr
  obtain ⟨b, hb, rfl⟩ := hr
  split at h
  case h_3 => cases h
  · rename_i since seen stepped hi
    cases h
    obtain ⟨b', mb, g1, g2, g3, g4⟩ := S.obj f s _ hi
    rw [hb] at g1; cases g1
    simp only at g4
    subst g4
    refine ⟨_, List.mem_singleton.2 rfl, E, _, Ext.refl _ _ _, S.over hi, over, ?_⟩
    simp [Instr.next, getObj, Sem.run, g3]
  · rename_i m since seen stepped hi
    split at h
    case h_2 => cases h
    rename_i es bs clk hm
    split at h
    case isFalse => cases h
    rename_i hchk
    rw [Bool.and_eq_true, decide_eq_true_eq] at hchk
    obtain ⟨hall, hst⟩ := hchk
    obtain ⟨b', mb, g1, g2, g3, g4⟩ := S.obj f s _ hi
    rw [hb] at g1; cases g1
    obtain ⟨r, rfl, hr⟩ := g4
    obtain ⟨r', ces, k1, k2, k3, k4, k5⟩ := S.obj m.1 m.2 _ hm
    rw [hr] at k1; cases k1
    subst k5
    have hold : ∀ x ∈ ces.toList, x.born < since := by
      intro x hx
      have := List.all_eq_true.1 hall x.born (List.mem_map.2 ⟨x, hx, rfl⟩)
      exact of_decide_eq_true this
    rcases run_next_at (P := P) E.w ty b r since stepped ⟨seen⟩ ces clk g3 k3 hold hst with ⟨h0, hrun⟩ | ⟨e, he, w1, hw1, hrun⟩
    · have hnil : leftE seen es (ces.toList.map (·.born)) = [] := by
        apply Classical.byContradiction
        intro hne
        obtain ⟨ce, q1, q2⟩ := leftE_none k4 hne
        have := Array.eq_empty_of_size_eq_zero h0
        have hmem : ce ∈ (leftOf ces ⟨seen⟩) := by
          unfold leftOf
          rw [Array.mem_filter]
          refine ⟨Array.mem_toList_iff.1 q1, ?_⟩
          have : (⟨seen⟩ : Array Nat).contains ce.born = false := by simpa using q2
          rw [this]; rfl
        rw [this] at hmem
        simp at hmem
      rw [hnil] at h
      cases h
      exact ⟨_, List.mem_singleton.2 rfl, E, _, Ext.refl _ _ _, S.over hi, over, hrun⟩
    · obtain ⟨q1, q2⟩ := mem_left he
      obtain ⟨ae, p1, p2, p3, p4⟩ := leftE_sound k4 q1 (by simpa using q2)
      split at h
      · rename_i hnil; rw [hnil] at p1; cases p1
      · cases h
        have hd : ∃ d, setBlock w1 b (.mapIter (some r) since ((⟨seen⟩ : Array Nat).push e.born) clk) = (E.setIter b (some r) since ⟨seen ++ [e.born]⟩ clk d).w := by
          have hp : (⟨seen⟩ : Array Nat).push e.born = ⟨seen ++ [e.born]⟩ := by simp
          rw [hp]
          rcases hw1 with rfl | rfl
          · exact ⟨E.w.drawn, rfl⟩
          · exact ⟨E.w.drawn + 1, rfl⟩
        obtain ⟨d, hd⟩ := hd
        obtain ⟨X, S'⟩ := S.setIter hi hb g3 g2 (m := some m) ⟨r, rfl, hr⟩ (seen ++ [e.born]) clk d
        refine ⟨_, List.mem_map.2 ⟨ae, p1, rfl⟩, _, _, X, ?_, ?_, by rw [hrun, hd]⟩
        · simp only [wr, p4]; exact S'
        · simp only [Rel]
          exact ⟨[.bool true, e.key, e.val], rfl, .cons (by simp [Rel]) (.cons (Rel.mono X S.lt _ _ p2) (.cons (Rel.mono X S.lt _ _ p3) .nil))⟩

theorem next_wp {t : List V} {a : Act} (s : St B F fr E H t a) {o : Oper} {x : Operand} (hop : o.op = .next x false) {cs : List (V × Option (Nat × Nat × O))} (hc : nextC (hget H) (rho t x) = some cs) :
    ∃ p ∈ cs, ∃ E' cv, Ext fr B E E' ∧ St B F fr E' (wr H p.2) (putT t o.dst p.1) (a.put o.dst cv) ∧ ∀ (next : Act → World → Prop) (Q : Exit → Act → World → Prop), next (a.put o.dst cv) E'.w → o.wp P a E.w next Q := by
  obtain ⟨p, hp, E', cv, X, S', hr, hrun⟩ := nextC_sound (P := P) s.sim hc (s.ρ x) o.type
  refine ⟨p, hp, E', cv, X.less (Nat.le_of_lt s.lt) (Nat.le_refl _), (s.on X S' (by rw [wr_length]; exact Nat.le_refl _)).put o.dst hr, ?_⟩
  intro next Q hn
  unfold Oper.wp
  have : (execOp a.eval o).run P E.w = .ok (.value cv) E'.w := by
    unfold execOp
    simp only [hop, Sem.run_bind, hrun, Result.andThen_ok, Sem.run_pure]
  rw [this]
  exact hn

end
end Go.AM
