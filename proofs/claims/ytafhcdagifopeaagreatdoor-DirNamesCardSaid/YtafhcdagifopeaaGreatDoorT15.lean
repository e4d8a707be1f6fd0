/- This file holds in one the texts An35, An50; each says at its head what it proves. -/
import Derived.Test.YtafhcdagifopeaaGreatDoorT14
import Derived.Maps.RangeRun
set_option linter.unusedSimpArgs false
set_option linter.unusedVariables false
section
/- The abstract machine, part 35: a step through a map: one of those that may come. -/
namespace Go.AM
open Go.ChangeMaps (setBlock)

section
variable {P : Program} {E : Env} {B : Nat} {F : Nat → Nat → Prop} {H : Heap} {fr N : Nat} {ro : Option Nat} {dp : Nat}

def Env.setIter (E : Env) (b : Nat) (mb : Option Nat) (since : Nat) (seen : Array Nat) (stepped d : Nat) : Env :=
  { E with w := { E.w with heap := E.w.heap.setIfInBounds b (.mapIter mb since seen stepped), drawn := d } }

theorem setIter_other (E : Env) (b : Nat) (mb : Option Nat) (since : Nat) (seen : Array Nat) (stepped d b' : Nat) (h : b' ≠ b) : (E.setIter b mb since seen stepped d).w.heap[b']? = E.w.heap[b']? := by
  simp only [Env.setIter]
  rw [Array.getElem?_setIfInBounds_ne (by omega)]

theorem Sim.setIter (S : Sim B F H E) {f0 s0 b : Nat} {m : Option (Nat × Nat)} {since stepped : Nat} {seen : List Nat} (ho : hget H f0 s0 = some (.iter m since seen stepped)) (hmu : E.mu f0 s0 = some b) {mb : Option Nat}
    (hb : E.w.heap[b]? = some (.mapIter mb since ⟨seen⟩ stepped)) (hB : B ≤ b) (hm : match m with | none => mb = none | some x => ∃ r, mb = some r ∧ E.mu x.1 x.2 = some r) (seen' : List Nat) (stepped' d : Nat) :
    Ext H.length B E (E.setIter b mb since ⟨seen'⟩ stepped' d) ∧ Sim B F (hset H f0 s0 (.iter m since seen' stepped')) (E.setIter b mb since ⟨seen'⟩ stepped' d) := by
  have hlt : b < E.w.heap.size := (Array.getElem?_eq_some_iff.1 hb).1
  have hself : (E.setIter b mb since ⟨seen'⟩ stepped' d).w.heap[b]? = some (.mapIter mb since ⟨seen'⟩ stepped') := by simp [Env.setIter, hlt]
  have hcell : ∀ i, E.w.cell? ⟨b, i, none⟩ = none := fun i => by simp [World.cell?, hb]
  have X : Ext H.length B E (E.setIter b mb since ⟨seen'⟩ stepped' d) := by
    refine ⟨by simp [Env.setIter], ?_, ?_, fun _ _ _ _ h => h, fun _ _ _ _ h => h, fun f s n b lo hi _ _ h => ⟨n, b, lo, hi, h, .inr ⟨rfl, rfl, rfl, rfl⟩⟩, ?_, ⟨rfl, rfl, rfl⟩, rfl, fun b' h => by rw [setIter_other E b _ _ _ _ _ b' (by rintro rfl; rw [hb] at h; cases h)]; exact h⟩
    · intro b' T n h
      by_cases e : b' = b
      · subst e; simp [World.shape?, hb] at h
      · rw [shape_of_heap (setIter_other E b _ _ _ _ _ b' e)]; exact h
    · intro b' i v _ h
      by_cases e : b' = b
      · subst e; rw [hcell] at h; cases h
      · rw [cell_of_heap (setIter_other E b _ _ _ _ _ b' e)]; exact h
    · intro b' hb'
      exact setIter_other E b _ _ _ _ _ b' (by omega)
  have hblk : blk E f0 s0 (.iter m since seen stepped) = some b := hmu
  refine ⟨X, S.step f0 s0 _ (hget_lt ho) X (fun f s e => rfl) (by simp [Env.setIter, hmu]) (fun f s e => rfl) ?_ ?_ ?_ ?_ ?_ ?_⟩
  · intro n x h
    have := S.nreg f0 s0 n x h
    rw [ho] at this; cases this
  · intro f s o b' e ho' hb'
    refine ⟨?_, fun i h => h⟩
    have hne : b' ≠ b := fun e' => e (S.inj f s o f0 s0 _ b' ho' ho hb' (e' ▸ hblk))
    exact setIter_other E b _ _ _ _ _ b' hne
  · exact fun b i h => S.fmod b i h
  · intro b' i h
    simp only [Env.setIter, Array.size_setIfInBounds]
    exact S.modsz b' i h
  · refine ⟨b, mb, hmu, hB, hself, ?_⟩
    cases m with
    | none => exact hm
    | some x => exact hm
  · intro f s o b' e ho' hb' h
    simp only [blk, Env.setIter, hmu, Option.some.injEq] at h
    subst h
    exact e (S.inj f s o f0 s0 _ b ho' ho hb' hblk)

theorem Sim.over (S : Sim B F H E) {f0 s0 : Nat} {m : Option (Nat × Nat)} {since stepped : Nat} {seen : List Nat} (ho : hget H f0 s0 = some (.iter m since seen stepped)) : Sim B F (hset H f0 s0 .dead) E := by
  refine S.step f0 s0 .dead (hget_lt ho) (Ext.refl _ _ _) (fun f s e => rfl) ?_ (fun f s e => rfl) ?_ (fun f s o b e h1 h2 => ⟨rfl, fun i h => h⟩) S.fmod S.modsz trivial ?_
  · have := S.dom f0 s0
    rw [ho] at this
    exact this.symm
  · intro n x h
    have := S.nreg f0 s0 n x h
    rw [ho] at this; cases this
  · intro f s o b e h1 h2 h3
    cases h3

theorem leftE_sound {seen : List Nat} : ∀ {es : List (V × V)} {ces : List MapEntry}, RelM E es ces → ∀ {ce : MapEntry}, ce ∈ ces → seen.contains ce.born = false →
    ∃ e ∈ leftE seen es (ces.map (·.born)), Rel E e.1.1 ce.key ∧ Rel E e.1.2 ce.val ∧ e.2 = ce.born
  | [], ces, h, ce, hm, _ => by simp only [RelM] at h; subst h; cases hm
  | (k, x) :: es, ces, h, ce, hm, hs => by
    obtain ⟨c, r, rfl, h1, h2, h3⟩ := h
    simp only [List.map_cons, leftE]
    rcases List.mem_cons.1 hm with rfl | hm
    · rw [if_neg (by rw [hs]; decide)]
      exact ⟨_, List.mem_cons_self, h1, h2, rfl⟩
    · obtain ⟨e, he, q⟩ := leftE_sound h3 hm hs
      split
      · exact ⟨e, he, q⟩
      · exact ⟨e, List.mem_cons_of_mem _ he, q⟩

theorem leftE_none {seen : List Nat} : ∀ {es : List (V × V)} {ces : List MapEntry}, RelM E es ces → leftE seen es (ces.map (·.born)) ≠ [] → ∃ ce ∈ ces, seen.contains ce.born = false
  | [], ces, h, hne => by simp only [RelM] at h; subst h; exact absurd rfl hne
  | (k, x) :: es, ces, h, hne => by
    obtain ⟨c, r, rfl, h1, h2, h3⟩ := h
    simp only [List.map_cons, leftE] at hne
    split at hne
    · obtain ⟨ce, q1, q2⟩ := leftE_none h3 hne
      exact ⟨ce, List.mem_cons_of_mem _ q1, q2⟩
    · rename_i hs
      exact ⟨c, List.mem_cons_self, by simpa using hs⟩

theorem nextC_ne {g : Get} {x : V} {cs : List (V × Option (Nat × Nat × O))} (h : nextC g x = some cs) : cs ≠ [] := by
  unfold nextC at h
  repeat' split at h
  all_goals first | (cases h; done) | (cases h; simp; done) | skip
  rename_i hne
  cases h
  simpa using hne

theorem nextC_sound (S : Sim B F H E) {x : V} {c : Value} {cs : List (V × Option (Nat × Nat × O))} (h : nextC (hget H) x = some cs) (hr : Rel E x c) (ty : TypeId) :
    ∃ p ∈ cs, ∃ E' cv, Ext H.length B E E' ∧ Sim B F (wr H p.2) E' ∧ Rel E' p.1 cv ∧ (Instr.next c false ty).run P E.w = .ok cv E'.w := by
  have over : Rel E (.tuple [.bool false]) (.tuple #[.bool false]) := by
    simp only [Rel]; exact ⟨[.bool false], rfl, .cons (by simp [Rel]) .nil⟩
  unfold nextC at h
  split at h
  case h_2 => cases h
  rename_i f s
  simp only [Rel] at hr
  obtain ⟨b, hb, rfl⟩ := hr
  split at h
  case h_3 => cases h
  · rename_i since seen stepped hi
    cases h
    obtain ⟨b', mb, g1, g2, g3, g4⟩ := S.obj f s _ hi
    rw [hb] at g1; cases g1
    simp only at g4
    subst g4
    refine ⟨_, List.mem_singleton.2 rfl, E, _, Ext.refl _ _ _, S.over hi, over, ?_⟩
    simp [Instr.next, getObj, Sem.run, g3]
  · rename_i m since seen stepped hi
    split at h
    case h_2 => cases h
    rename_i es bs clk hm
    split at h
    case isFalse => cases h
    rename_i hchk
    rw [Bool.and_eq_true, decide_eq_true_eq] at hchk
    obtain ⟨hall, hst⟩ := hchk
    obtain ⟨b', mb, g1, g2, g3, g4⟩ := S.obj f s _ hi
    rw [hb] at g1; cases g1
    obtain ⟨r, rfl, hr⟩ := g4
    obtain ⟨r', ces, k1, k2, k3, k4, k5⟩ := S.obj m.1 m.2 _ hm
    rw [hr] at k1; cases k1
    subst k5
    have hold : ∀ x ∈ ces.toList, x.born < since := by
      intro x hx
      have := List.all_eq_true.1 hall x.born (List.mem_map.2 ⟨x, hx, rfl⟩)
      exact of_decide_eq_true this
    rcases run_next_at (P := P) E.w ty b r since stepped ⟨seen⟩ ces clk g3 k3 hold hst with ⟨h0, hrun⟩ | ⟨e, he, w1, hw1, hrun⟩
    · have hnil : leftE seen es (ces.toList.map (·.born)) = [] := by
        apply Classical.byContradiction
        intro hne
        obtain ⟨ce, q1, q2⟩ := leftE_none k4 hne
        have := Array.eq_empty_of_size_eq_zero h0
        have hmem : ce ∈ (leftOf ces ⟨seen⟩) := by
          unfold leftOf
          rw [Array.mem_filter]
          refine ⟨Array.mem_toList_iff.1 q1, ?_⟩
          have : (⟨seen⟩ : Array Nat).contains ce.born = false := by simpa using q2
          rw [this]; rfl
        rw [this] at hmem
        simp at hmem
      rw [hnil] at h
      cases h
      exact ⟨_, List.mem_singleton.2 rfl, E, _, Ext.refl _ _ _, S.over hi, over, hrun⟩
    · obtain ⟨q1, q2⟩ := mem_left he
      obtain ⟨ae, p1, p2, p3, p4⟩ := leftE_sound k4 q1 (by simpa using q2)
      split at h
      · rename_i hnil; rw [hnil] at p1; cases p1
      · cases h
        have hd : ∃ d, setBlock w1 b (.mapIter (some r) since ((⟨seen⟩ : Array Nat).push e.born) clk) = (E.setIter b (some r) since ⟨seen ++ [e.born]⟩ clk d).w := by
          have hp : (⟨seen⟩ : Array Nat).push e.born = ⟨seen ++ [e.born]⟩ := by simp
          rw [hp]
          rcases hw1 with rfl | rfl
          · exact ⟨E.w.drawn, rfl⟩
          · exact ⟨E.w.drawn + 1, rfl⟩
        obtain ⟨d, hd⟩ := hd
        obtain ⟨X, S'⟩ := S.setIter hi hb g3 g2 (m := some m) ⟨r, rfl, hr⟩ (seen ++ [e.born]) clk d
        refine ⟨_, List.mem_map.2 ⟨ae, p1, rfl⟩, _, _, X, ?_, ?_, by rw [hrun, hd]⟩
        · simp only [wr, p4]; exact S'
        · simp only [Rel]
          exact ⟨[.bool true, e.key, e.val], rfl, .cons (by simp [Rel]) (.cons (Rel.mono X S.lt _ _ p2) (.cons (Rel.mono X S.lt _ _ p3) .nil))⟩

theorem next_wp {t : List V} {a : Act} (s : St B F fr N E H t a) {o : Oper} {x : Operand} (hop : o.op = .next x false) {cs : List (V × Option (Nat × Nat × O))} (hc : nextC (hget H) (rho t x) = some cs) :
    ∃ p ∈ cs, ∃ E' cv, Ext fr B E E' ∧ St B F fr N E' (wr H p.2) (putT t o.dst p.1) (a.put o.dst cv) ∧ ∀ (next : Act → World → Prop) (Q : Exit → Act → World → Prop), next (a.put o.dst cv) E'.w → o.wpIn (G ro) dp P a E.w next Q := by
  obtain ⟨p, hp, E', cv, X, S', hr, hrun⟩ := nextC_sound (P := P) s.sim hc (s.ρ x) o.type
  refine ⟨p, hp, E', cv, X.less (Nat.le_of_lt s.lt) (Nat.le_refl _), (s.on X S' (by rw [wr_length]; exact Nat.le_refl _)).put o.dst hr, ?_⟩
  intro next Q hn
  refine wpIn_of (fun c e => by rw [hop] at e; cases e) ?_
  have : (execOp a.eval o).run P E.w = .ok (.value cv) E'.w := by
    unfold execOp
    simp only [hop, Sem.run_bind, hrun, Result.andThen_ok, Sem.run_pure]
  rw [this]
  exact hn

/-! ### What settles -/
theorem Sim.retell (S : Sim B F H E) {f s : Nat} {xs xs' : List V} (ho : hget H f s = some (.cells xs)) (hr : ∀ vs, RelL E xs vs → RelL E xs' vs) (hs : xs'.all V.scalar = true) : Sim B F (hset H f s (.cells xs')) E := by
  obtain ⟨b, c, T, vs, rest, h1, h2, h3, h4, h5, h6, h7⟩ := S.obj f s _ ho
  refine S.step f s _ (hget_lt ho) (Ext.refl _ _ _) (fun f s e => rfl) (by rw [h1]; rfl) (fun f s e => rfl) ?_ (fun f s o b e g1 g2 => ⟨rfl, fun i h => h⟩) S.fmod S.modsz ⟨b, c, T, vs, rest, h1, h2, h3, h4, hr vs h5, h6, hs⟩ ?_
  · intro n x h
    have := S.nreg f s n x h
    rw [ho] at this; cases this
  · intro f' s' o b' e g1 g2 g3
    have : blk E f s (.cells xs) = some b' := g3
    exact e (S.inj f' s' o f s _ b' g1 ho g2 this)

theorem RelL.set_of {xs : List V} : ∀ {vs : List Value} {o : Nat} {x y : V}, RelL E xs vs → xs[o]? = some x → (∀ v, Rel E x v → Rel E y v) → RelL E (xs.set o y) vs := by
  induction xs with
  | nil => intro vs o x y h hx; cases o <;> cases hx
  | cons a xs ih =>
    intro vs o x y h hx hy
    obtain ⟨v, r, rfl, h1, h2⟩ := RelL.cons_iff.1 h
    cases o with
    | zero =>
      simp only [List.getElem?_cons_zero, Option.some.injEq] at hx
      subst hx
      exact .cons (hy v h1) h2
    | succ o =>
      simp only [List.getElem?_cons_succ] at hx
      exact .cons h1 (ih h2 hx hy)

theorem all_set {xs : List V} (h : xs.all V.scalar = true) {y : V} (hy : y.scalar = true) (o : Nat) : (xs.set o y).all V.scalar = true := by
  rw [List.all_eq_true] at h ⊢
  intro x hx
  rcases List.mem_or_eq_of_mem_set hx with h1 | rfl
  · exact h x h1
  · exact hy

theorem settle1_sound {t : List V} {a : Act} (s : St B F fr N E H t a) {k : Nat} {H' : Heap} (h : settle1 t H k = some H') :
    ∃ E', E'.w = E.w ∧ Ext H.length B E E' ∧ St B F fr N E' H' t a := by
  have same : ∃ E', E'.w = E.w ∧ Ext H.length B E E' ∧ St B F fr N E' H t a := ⟨E, rfl, Ext.refl _ _ _, s⟩
  unfold settle1 at h
  split at h
  · rename_i f sl o _
    split at h
    case h_2 => cases h
    rename_i xs hx
    split at h
    · rename_i f1 s1 o1 len cap esz hxo
      split at h
      case h_2 => cases h
      rename_i ys hy
      split at h
      case isFalse => cases h
      rename_i hc
      obtain ⟨hle, hp, hne⟩ := hc
      cases h
      obtain ⟨b, c, T, vs, rest, g1, g2, g3, g4, g5, g6, g7, g8⟩ := s.sim.lies hy
      obtain ⟨X, S'⟩ := s.sim.die hy g1 g3 g2 E.w rfl (fun _ _ => rfl) g3 ⟨rfl, rfl, rfl⟩
      have hx' : hget (hset H f1 s1 .dead) f sl = some (.cells xs) := by
        rw [hget_hset _ _ _ _ (hget_lt hy), if_neg hne]; exact hx
      have hxs : xs.all V.scalar = true := by
        obtain ⟨_, _, _, _, _, _, _, _, _, _, _, h7⟩ := s.sim.obj f sl _ hx
        exact h7
      refine ⟨{ E with mod := fun b' i => E.mod b' i ∧ b' ≠ b }, rfl, X, ?_⟩
      have S2 := S'.retell hx' (xs' := xs.set o (.islice ((ys.drop o1).take (len * esz)) len (cap == some len))) (fun vs' hr => ?_) (all_set hxs rfl o)
      · exact s.on X S2 (by simp [hset_length])
      · refine RelL.set_of hr hxo fun v hv => ?_
        simp only [Rel] at hv ⊢
        obtain ⟨b', c', T', n', q1, rfl, q2, q3, q4, _⟩ := hv
        have q1' : E.mu f1 s1 = some b' := q1
        rw [g1] at q1'; cases q1'
        refine ⟨_, c', (vs.drop o1).take (len * esz), rfl, q2, ?_, .inr ⟨rfl, ?_⟩, RelL.mono X s.sim.lt _ _ ((g5.drop o1).take _), pureL_take (pureL_drop hp _) _⟩
        · intro hcap
          have : cap = some len := by simpa using hcap
          exact q3 len this
        · exact fun i v hv => ⟨g8.from o1 _ i v hv, fun hm => hm.2 rfl⟩
    · cases h; exact same
    · cases h
  · cases h; exact same
  · cases h; exact same
  · cases h

theorem settleL_sound {t : List V} {a : Act} : ∀ {ks : List Nat} {E : Env} {H : Heap}, St B F fr N E H t a → ∀ {H' : Heap}, settleL ks t H = some H' → ∃ E', E'.w = E.w ∧ Ext fr B E E' ∧ St B F fr N E' H' t a
  | [], E, H, s, H', h => by cases h; exact ⟨E, rfl, Ext.refl _ _ _, s⟩
  | k :: ks, E, H, s, H', h => by
    simp only [settleL] at h
    split at h
    · rename_i H1 h1
      obtain ⟨E1, w1, X1, s1⟩ := settle1_sound s h1
      obtain ⟨E2, w2, X2, s2⟩ := settleL_sound s1 h
      exact ⟨E2, w2.trans w1, (X1.less (Nat.le_of_lt s.lt) (Nat.le_refl _)).trans X2, s2⟩
    · cases h

end
end Go.AM
end
section
/- The abstract machine: the records of ranges over functions in the abstract heap. -/
namespace Go.AM

section
variable {P : Program} {B : Nat} {F : Nat → Nat → Prop} {H : Heap} {E : Env} {fr N : Nat} {ro : Option Nat} {dp : Nat}

/-! ### New records -/
def Env.newDfr (E : Env) : Env := { w := E.push (Obj.deferred (some [])) E.w.drawn, mu := E.mu, reg := E.reg, mod := E.mod, tab := E.tab }
theorem Sim.newDfr (S : Sim B F H E) : Ext H.length B E E.newDfr ∧ Sim B F H E.newDfr := by
  have X : Ext H.length B E E.newDfr := by
    refine ext_push S.bsz _ _ _ _ _ ?_ ?_ ?_
    · exact fun f s b h => h
    · exact fun f s n b lo hi _ h => ⟨n, b, lo, hi, h, .inr ⟨rfl, rfl, rfl, rfl⟩⟩
    · exact fun b i hb hm h => hm h
  refine ⟨X, ⟨S.dom, Nat.le_trans S.bsz X.size, S.fb, S.fmod, ?_, ?_, S.nreg, ?_⟩⟩
  · intro b i h
    exact Nat.lt_of_lt_of_le (S.modsz b i h) X.size
  · intro f s o ho
    exact (S.obj f s o ho).mono X S.lt rfl rfl (fun b hb => ⟨push_old E _ _ b (S.blk_lt ho hb), fun i h => h⟩)
  · intro f s o f' s' o' b h1 h2 h3 h4
    refine S.inj f s o f' s' o' b h1 h2 ?_ ?_
    · cases o <;> exact h3
    · cases o' <;> exact h4

def Env.newLoop (E : Env) (f0 s0 : Nat) (r : Loop) : Env :=
  { w := E.push (Obj.loop r) E.w.drawn, mu := upd E.mu f0 s0 (some E.w.heap.size), reg := E.reg, mod := E.mod, tab := E.tab }
theorem Sim.newLoop (S : Sim B F H E) {f0 s0 : Nat} (hf : f0 < H.length) (hn : hget H f0 s0 = none) (r : Loop) (fn rid : Nat) (t : List V) (h1 : r.state = .ready) (h2 : r.pending = none)
    (h3 : E.tab fn rid = some (r.params, r.assign, r.body)) (h4 : RelL E t r.tmps.toList) :
    Ext H.length B E (E.newLoop f0 s0 r) ∧ Sim B F (hset H f0 s0 (.loop 0 none fn rid t)) (E.newLoop f0 s0 r) := by
  have hmn := S.mu_none hn
  have X : Ext H.length B E (E.newLoop f0 s0 r) := by
    refine ext_push S.bsz _ _ _ _ _ ?_ ?_ ?_
    · intro f s b h
      by_cases e : f = f0 ∧ s = s0
      · rw [e.1, e.2, hmn] at h; cases h
      · rw [upd_other _ _ e]; exact h
    · exact fun f s n b lo hi _ h => ⟨n, b, lo, hi, h, .inr ⟨rfl, rfl, rfl, rfl⟩⟩
    · exact fun b i hb hm h => hm h
  refine ⟨X, S.step f0 s0 _ hf X (fun f s e => upd_other _ _ e) (by simp [Env.newLoop, upd_same]) (fun f s e => rfl) ?_ ?_ ?_ ?_ ?_ ?_⟩
  · intro n x h
    have := S.reg_none hn
    simp only [Env.newLoop] at h
    rw [this] at h; cases h
  · intro f s o b e ho hb
    exact ⟨push_old E _ _ b (S.blk_lt ho hb), fun i h => h⟩
  · exact fun b i h => S.fmod b i h
  · intro b i h
    simp only [Env.newLoop, Env.push, Array.size_push] at h ⊢
    exact Nat.lt_succ_of_lt (S.modsz b i h)
  · exact ⟨E.w.heap.size, r, upd_same _ _ _ _, S.bsz, push_new E _ _, h1, h2, h3, RelL.mono X S.lt _ _ h4⟩
  · intro f s o b e ho hb h
    simp only [blk, Env.newLoop, upd_same, Option.some.injEq] at h
    have := S.blk_lt ho hb
    omega

def Env.put (E : Env) (b : Nat) (o : Obj) : Env := { E with w := E.w.putObj b o }
theorem put_other (E : Env) (b : Nat) (o : Obj) (b' : Nat) (h : b' ≠ b) : (E.put b o).w.heap[b']? = E.w.heap[b']? := World.putObj_heap_other h
theorem ext_putLoop {k : Nat} {b : Nat} {r : Loop} (hb : E.w.heap[b]? = some (.loop r)) (hB : B ≤ b) (r' : Loop) : Ext k B E (E.put b (.loop r')) := by
  have hlt : b < E.w.heap.size := (Array.getElem?_eq_some_iff.1 hb).1
  refine ⟨by simp [Env.put], ?_, ?_, fun _ _ _ _ h => h, fun _ _ _ _ h => h, fun f s n b lo hi _ _ h => ⟨n, b, lo, hi, h, .inr ⟨rfl, rfl, rfl, rfl⟩⟩, ?_, ⟨rfl, rfl, rfl⟩, rfl,
    fun b' h => by rw [put_other E b _ b' (by rintro rfl; rw [hb] at h; cases h)]; exact h⟩
  · intro b' T n h
    by_cases e : b' = b
    · subst e; simp [World.shape?, hb] at h
    · rw [shape_of_heap (put_other E b _ b' e)]; exact h
  · intro b' i v _ h
    by_cases e : b' = b
    · subst e; simp [World.cell?, hb] at h
    · rw [cell_of_heap (put_other E b _ b' e)]; exact h
  · intro b' hb'
    exact put_other E b _ b' (by omega)

theorem Sim.setLoop (S : Sim B F H E) {f0 s0 st fn rid : Nat} {pend : Option (Option Nat)} {t : List V} (ho : hget H f0 s0 = some (.loop st pend fn rid t)) {b : Nat} (hmu : E.mu f0 s0 = some b) {r : Loop} (hb : E.w.heap[b]? = some (.loop r))
    (r' : Loop) (st' : Nat) (pend' : Option (Option Nat)) (h1 : r'.state = stL st') (h2 : r'.pending = pendC pend') (h3 : r'.params = r.params ∧ r'.assign = r.assign ∧ r'.body = r.body ∧ r'.tmps = r.tmps) :
    Ext H.length B E (E.put b (.loop r')) ∧ Sim B F (hset H f0 s0 (.loop st' pend' fn rid t)) (E.put b (.loop r')) := by
  obtain ⟨b0, r0, g1, g2, g3, g4, g5, g7, g8⟩ := S.obj f0 s0 _ ho
  rw [hmu] at g1; cases g1
  rw [hb] at g3; cases g3
  have hlt : b < E.w.heap.size := (Array.getElem?_eq_some_iff.1 hb).1
  have X : Ext H.length B E (E.put b (.loop r')) := ext_putLoop hb g2 r'
  have hblk : blk E f0 s0 (.loop st pend fn rid t) = some b := hmu
  refine ⟨X, S.step f0 s0 _ (hget_lt ho) X (fun f s e => rfl) (by simp [Env.put, hmu]) (fun f s e => rfl) ?_ ?_ ?_ ?_ ?_ ?_⟩
  · intro n x h
    have := S.nreg f0 s0 n x h
    rw [ho] at this; cases this
  · intro f s o b' e ho' hb'
    refine ⟨?_, fun i h => h⟩
    have hne : b' ≠ b := fun e' => e (S.inj f s o f0 s0 _ b' ho' ho hb' (e' ▸ hblk))
    exact put_other E b _ b' hne
  · exact fun b i h => S.fmod b i h
  · intro b' i h
    simp only [Env.put, World.putObj_size]
    exact S.modsz b' i h
  · refine ⟨b, r', hmu, g2, World.putObj_heap_same hlt, h1, h2, ?_, ?_⟩
    · rw [h3.1, h3.2.1, h3.2.2.1]; exact g7
    · rw [h3.2.2.2]; exact RelL.mono X S.lt _ _ g8
  · intro f s o b' e ho' hb' h
    have h' : E.mu f0 s0 = some b' := h
    rw [hmu] at h'; cases h'
    exact e (S.inj f s o f0 s0 _ b ho' ho hb' hblk)

theorem Sim.junkLoop (S : Sim B F H E) {b : Nat} {r : Loop} (hb : E.w.heap[b]? = some (.loop r)) (hB : B ≤ b) (hno : ∀ f s o, hget H f s = some o → blk E f s o ≠ some b) (r' : Loop) {k : Nat} :
    Ext k B E (E.put b (.loop r')) ∧ Sim B F H (E.put b (.loop r')) := by
  have X : ∀ k, Ext k B E (E.put b (.loop r')) := fun k => ext_putLoop hb hB r'
  refine ⟨X k, ⟨S.dom, ?_, S.fb, S.fmod, ?_, ?_, S.nreg, ?_⟩⟩
  · simp only [Env.put, World.putObj_size]; exact S.bsz
  · intro b' i h
    simp only [Env.put, World.putObj_size]
    exact S.modsz b' i h
  · intro f s o ho
    exact (S.obj f s o ho).mono (X H.length) S.lt rfl rfl (fun b' hb' => ⟨put_other E b _ b' (fun e => hno f s o ho (e ▸ hb')), fun i h => h⟩)
  · intro f s o f' s' o' b h1 h2 h3 h4
    refine S.inj f s o f' s' o' b h1 h2 ?_ ?_
    · cases o <;> exact h3
    · cases o' <;> exact h4

/-! ### Marks are taken -/
theorem lite_shut {k b : Nat} (hb : E.w.heap[b]? = some (Obj.deferred (some []))) : Lite k E (E.put b (Obj.deferred none)) := by
  refine ⟨?_, ?_, fun _ _ _ _ h => h, fun _ _ _ _ h => h, fun f s n b lo hi _ _ h => ⟨n, b, lo, hi, h, .inr ⟨rfl, rfl, rfl, rfl⟩⟩⟩
  · intro b' T n h
    by_cases e : b' = b
    · subst e; simp [World.shape?, hb] at h
    · rw [shape_of_heap (put_other E b _ b' e)]; exact h
  · intro b' i v _ h
    by_cases e : b' = b
    · subst e; simp [World.cell?, hb] at h
    · rw [cell_of_heap (put_other E b _ b' e)]; exact h
theorem RelM.lite {k : Nat} {E E' : Env} (h : Lite k E E') (hk : ∀ f s, (E.mu f s).isSome → f < k) : ∀ (es : List (V × V)) (ces : List MapEntry), RelM E es ces → RelM E' es ces
  | [], _, r => r
  | (_, _) :: es, _, ⟨e, r', he, h1, h2, h3⟩ => ⟨e, r', he, Rel.lite h hk _ _ h1, Rel.lite h hk _ _ h2, RelM.lite h hk es r' h3⟩
theorem Sim.shut (S : Sim B F H E) {b : Nat} (hb : E.w.heap[b]? = some (Obj.deferred (some []))) : Sim B F H (E.put b (Obj.deferred none)) := by
  have L := lite_shut (k := H.length) hb
  have hk := S.lt
  refine ⟨S.dom, ?_, S.fb, S.fmod, ?_, ?_, S.nreg, ?_⟩
  · simp only [Env.put, World.putObj_size]; exact S.bsz
  · intro b' i h
    simp only [Env.put, World.putObj_size]
    exact S.modsz b' i h
  · intro f s o ho
    have := S.obj f s o ho
    cases o with
    | cells xs =>
      obtain ⟨b', c, T, vs, rest, h1, h2, h3, h4, h5, h6, h7⟩ := this
      exact ⟨b', c, T, vs, rest, h1, h2, (put_other E b _ b' (by rintro rfl; rw [hb] at h3; cases h3)).trans h3, h4, RelL.lite L hk _ _ h5, h6, h7⟩
    | map es bs clk =>
      obtain ⟨b', ces, h1, h2, h3, h4, h5⟩ := this
      exact ⟨b', ces, h1, h2, (put_other E b _ b' (by rintro rfl; rw [hb] at h3; cases h3)).trans h3, RelM.lite L hk _ _ h4, h5⟩
    | iter m since seen stepped =>
      obtain ⟨b', mb, h1, h2, h3, h4⟩ := this
      refine ⟨b', mb, h1, h2, (put_other E b _ b' (by rintro rfl; rw [hb] at h3; cases h3)).trans h3, ?_⟩
      cases m with
      | none => exact h4
      | some x => exact h4
    | grow n =>
      obtain ⟨b', lo, hi, c, T, z, h1, h2, h3, h4⟩ := this
      exact ⟨b', lo, hi, c, T, z, h1, h2, (put_other E b _ b' (by rintro rfl; rw [hb] at h3; cases h3)).trans h3, h4⟩
    | loop st pend fn rid t =>
      obtain ⟨b', r, h1, h2, h3, h4, h5, h7, h8⟩ := this
      exact ⟨b', r, h1, h2, (put_other E b _ b' (by rintro rfl; rw [hb] at h3; cases h3)).trans h3, h4, h5, h7, RelL.lite L hk _ _ h8⟩
    | siter l pos =>
      obtain ⟨b', h1, h2, h3⟩ := this
      exact ⟨b', h1, h2, (put_other E b _ b' (by rintro rfl; rw [hb] at h3; cases h3)).trans h3⟩
    | dead => trivial
  · intro f s o f' s' o' b h1 h2 h3 h4
    refine S.inj f s o f' s' o' b h1 h2 ?_ ?_
    · cases o <;> exact h3
    · cases o' <;> exact h4
theorem Ext.shut {k b : Nat} {E0 : Env} (X : Ext k B E0 E) (hb : E.w.heap[b]? = some (Obj.deferred (some []))) (hn : E0.w.heap.size ≤ b) (hB : B ≤ b) : Ext k B E0 (E.put b (Obj.deferred none)) := by
  have L := lite_shut (k := k) hb
  refine ⟨by simp only [Env.put, World.putObj_size]; exact X.size, fun b' T n h => L.shape _ _ _ (X.shape _ _ _ h), fun b' i v hm h => L.cell _ _ _ (X.mod _ _ _ h hm) (X.cell _ _ _ hm h), X.mod, X.mu, X.reg, ?_, X.rest, X.tab, ?_⟩
  · intro b' hb'
    exact (put_other E b _ b' (by omega)).trans (X.old b' hb')
  · intro b' h
    have := (Array.getElem?_eq_some_iff.1 h).1
    rw [put_other E b _ b' (by omega)]
    exact X.dfr b' h

theorem leaves_marks {fn : Func} {tmps : Array Value} {R : Ending → World → Prop} {E0 : Env} {t : List V} {k n : Nat} {u : FrameMode} (hu : u ≠ .run) (hB : B ≤ N) (h0 : E0.w.heap.size ≤ N)
    (fin : ∀ E', Ext k B E0 E' → Sim B F H E' → RelL E' t tmps.toList → (∀ x v, Rel E x v → Rel E' x v) → LeavesIn Fence.wide n P fn tmps R [] u E'.w) :
    ∀ (rs : List Nat) (E1 : Env), Ext k B E0 E1 → Sim B F H E1 → RelL E1 t tmps.toList → (∀ x v, Rel E x v → Rel E1 x v) → rs.Nodup → (∀ r ∈ rs, N ≤ r ∧ E1.w.heap[r]? = some (Obj.deferred (some []))) →
      LeavesInM Fence.wide n P fn tmps R (rs.map fun r => ({ target := .collected r, args := #[] } : Deferred)) u E1.w
  | [], E1, X, S, hr, hx, _, _ => fin E1 X S hr hx
  | r :: rs, E1, X, S, hr, hx, hnd, hm => by
    obtain ⟨q1, q2⟩ := hm r (by simp)
    rw [List.nodup_cons] at hnd
    simp only [List.map_cons, LeavesInM]
    refine ⟨hu, .inl ⟨r, (E1.put r (Obj.deferred none)).w, rfl, run_takeDeferred q2, ?_⟩⟩
    refine leaves_marks hu hB h0 fin rs (E1.put r (Obj.deferred none)) (X.shut q2 (by omega) (by omega)) (S.shut q2) (RelL.lite (lite_shut q2) S.lt _ _ hr) (fun x v h => Rel.lite (lite_shut q2) S.lt _ _ (hx x v h)) hnd.2 ?_
    intro r' hr'
    refine ⟨(hm r' (List.mem_cons_of_mem _ hr')).1, ?_⟩
    rw [put_other E1 r _ r' (fun e => hnd.1 (e ▸ hr'))]
    exact (hm r' (List.mem_cons_of_mem _ hr')).2

end
end Go.AM
end
