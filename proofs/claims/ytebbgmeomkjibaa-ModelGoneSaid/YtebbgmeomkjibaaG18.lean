/- This file holds in one the texts Am18; each says at its head what it proves. -/
import Derived.Test.YtebbgmeomkjibaaG17
set_option linter.unusedSimpArgs false
set_option linter.unusedVariables false
section
/- The abstract machine, part 18: code and calls: the machine is sound. -/
namespace Go.AM

section
variable {P : Program} {pol : Pol} {C : Call} {L : MBody → Body} {B : Nat} {F : Nat → Nat → Prop} {fn fr : Nat}

def wpL (P : Program) (c : Code) (Q : Exit → Act → World → Prop) (a : Act) (w : World) : Prop :=
  ∀ (b : Go.Frame) (k : List Item) (cs : List Go.Frame), ∃ e a' w', Q e a' w' ∧ Arrives P (lone (b.at a (.code c :: .inLoop c :: k)) cs w) b k cs e a' w'

theorem wp_of_wpL {c : Code} {Q : Exit → Act → World → Prop} {a : Act} {w : World} (h : wpL P c Q a w) : (Code.loop c).wp P Q a w :=
  fun b k cs => let ⟨e, a', w', q, r⟩ := h b k cs; ⟨e, a', w', q, .of_steps (.one step_loop) r⟩

theorem wpL_round {c : Code} {Q : Exit → Act → World → Prop} {a : Act} {w : World} (h : c.wp P (Exit.then (wpL P c Q) Q) a w) : wpL P c Q a w := by
  intro b k cs
  obtain ⟨e, a₁, w₁, hq, harr⟩ := h b (.inLoop c :: k) cs
  cases e with
  | normal =>
    obtain ⟨e₂, a₂, w₂, hq₂, harr₂⟩ := hq b k cs
    exact ⟨e₂, a₂, w₂, hq₂, .of_steps (Steps.trans harr (.one step_inLoop)) harr₂⟩
  | exit id => exact ⟨_, a₁, w₁, hq, .pass (x := .inLoop c) rfl (fun _ _ => .inl (by simp)) harr⟩
  | goto l => exact ⟨_, a₁, w₁, hq, .pass (x := .inLoop c) rfl (fun _ _ => .inl (by simp)) harr⟩
  | ret => exact ⟨_, a₁, w₁, hq, .pass (x := .inLoop c) rfl (fun _ _ => .inl (by simp)) harr⟩
  | panic ch => exact ⟨_, a₁, w₁, hq, .pass (x := .inLoop c) rfl (fun _ _ => .inl (by simp)) harr⟩
  | outgrown => exact ⟨_, a₁, w₁, hq, .pass (x := .inLoop c) rfl (fun _ _ => .inl (by simp)) harr⟩

theorem XPost.through {E0 : Env} {ex : Ex} {t' : List V} {H' : Heap} (hne : ex ≠ .normal) {next : Act → World → Prop} {Q : Exit → Act → World → Prop}
    (hQ : ∀ e a w, XPost B F fr E0 ex t' H' e a w → Q e a w) : ∀ e a w, XPost B F fr E0 ex t' H' e a w → Exit.then next Q e a w := by
  intro e a w h
  have hx := h
  obtain ⟨E', rfl, X, s, hr⟩ := hx
  cases ex with
  | normal => exact absurd rfl hne
  | exit i => simp only [ExRel] at hr; subst hr; exact hQ _ _ _ h
  | ret => simp only [ExRel] at hr; subst hr; exact hQ _ _ _ h
  | panic v => obtain ⟨c, rfl, _⟩ := hr; exact hQ _ _ _ h

theorem loop_sound {c : Code} {f : MBody}
    (hf : ∀ t H E0 E a, Ext fr B E0 E → St B F fr E H t a → ∃ x ∈ f t H, ∀ ex t' H', x = some (ex, t', H') → c.wp P (XPost B F fr E0 ex t' H') a E.w) :
    ∀ (n : Nat) t H ex t' H' E0 E a, loopN f n t H = some (ex, t', H') → Ext fr B E0 E → St B F fr E H t a → wpL P c (XPost B F fr E0 ex t' H') a E.w := by
  intro n
  induction n with
  | zero => intro t H ex t' H' E0 E a h; cases h
  | succ n ih =>
    intro t H ex t' H' E0 E a h X s
    simp only [loopN] at h
    refine wpL_round ?_
    obtain ⟨x, hx, hwp⟩ := hf t H E0 E a X s
    have h1 := (agree_all h) _ (List.mem_map.2 ⟨x, hx, rfl⟩)
    unfold after at h1
    split at h1
    · rename_i t1 H1
      refine wp_mono (hwp _ _ _ rfl) ?_
      rintro e a' w' ⟨E', rfl, X', s', hr⟩
      simp only [ExRel] at hr
      subst hr
      exact ih t1 H1 ex t' H' E0 E' a' h1 X' s'
    · rename_i hne
      refine wp_mono (hwp _ _ _ h1) (XPost.through ?_ (fun _ _ _ h => h))
      intro e
      subst e
      exact hne _ _ h1

def LSound (L : MBody → Body) : Prop := ∀ f t H r, L f t H = some r → ∃ n, loopN f n t H = some r

theorem exec_sound2 (ok : Okay P pol) (cs : CSound P C) (ls : LSound L) : ∀ (c : Code), drawsC c = true →
    (∀ (t : List V) (H : Heap) (ex : Ex) (t' : List V) (H' : Heap) (E0 E : Env) (a : Act),
      exec P pol C L fn fr c t H = some (ex, t', H') → Ext fr B E0 E → St B F fr E H t a → c.wp P (XPost B F fr E0 ex t' H') a E.w) ∧
    (∀ (x : Operand) (l : List (V × Option (Nat × Nat × O))) (t : List V) (H : Heap) (E0 E : Env) (a : Act), headNext c = some x → nextC (hget H) (rho t x) = some l → Ext fr B E0 E → St B F fr E H t a →
      ∃ p ∈ l, ∀ (ex : Ex) (t' : List V) (H' : Heap), execF P pol C L fn fr c p.1 p.2 t H = some (ex, t', H') → c.wp P (XPost B F fr E0 ex t' H') a E.w) := by
  intro c
  induction c with
  | skip =>
    intro _
    refine ⟨?_, ?_⟩
    · intro t H ex t' H' E0 E a h X s
      cases h
      exact wp_skip ⟨E, rfl, X, s, rfl⟩
    · intro x l t H E0 E a h
      cases h
  | region id ops draw =>
    intro hd
    refine ⟨?_, ?_⟩
    · intro t H ex t' H' E0 E a h X s
      simp only [exec] at h
      cases draw with
      | true =>
        simp only [if_true] at h
        split at h
        case h_2 => cases h
        rename_i t1 H1 T hT
        split at h
        case isFalse => cases h
        rename_i hok
        cases h
        exact draw_sound ok cs (by simpa [drawsC] using hd) hT hok X s
      | false =>
        simp only [Bool.false_eq_true, if_false] at h
        refine wp_region ?_
        have := runOps_sound (fn := fn) ok cs ops.toList [] t H ex t' H' E a (by simp) h X s
        simpa [List.range_eq_range'] using this
    · intro x l t H E0 E a hn hc X s
      cases draw with
      | true => cases hn
      | false =>
        simp only [headNext] at hn
        cases hops : ops.toList with
        | nil => rw [hops] at hn; cases hn
        | cons o r =>
          rw [hops] at hn
          simp only at hn
          split at hn
          case h_2 => cases hn
          rename_i y hg hop
          cases hn
          obtain ⟨p, hp, E', cv, X', s', hwp⟩ := next_wp (P := P) s hop hc
          refine ⟨p, hp, fun ex t' H' h => ?_⟩
          simp only [execF, hops] at h
          refine wp_region ?_
          have h0 : ops[0]? = some o := by
            have : ops.toList[0]? = some o := by rw [hops]; rfl
            simpa using this
          have hsz : ops.size = r.length + 1 := by
            have : ops.toList.length = r.length + 1 := by rw [hops]; rfl
            simpa using this
          have hrun := runOps_sound (fn := fn) (E0 := E0) ok cs r [o] _ _ ex t' H' E' _ (by rw [hops]; rfl) h (X.trans X') s'
          have hrange : List.range ops.size = 0 :: List.range' 1 r.length := by
            rw [hsz, List.range_eq_range', List.range'_succ]
          rw [hrange]
          simp only [wpOps, h0]
          have hw : Region.wanted o (yielded ops a.tmps) = true := by simp [Region.wanted, hg]
          rw [if_pos hw]
          left
          exact hwp _ _ (by simpa using hrun)
  | seq x y ihx ihy =>
    intro hd
    refine ⟨?_, ?_⟩
    · intro t H ex t' H' E0 E a h X s
      simp only [drawsC, Bool.and_eq_true] at hd
      simp only [exec] at h
      refine wp_seq ?_
      split at h
      · rename_i t1 H1 hx
        refine wp_mono ((ihx hd.1).1 _ _ _ _ _ E0 E a hx X s) ?_
        rintro e a' w' ⟨E', rfl, X', s', hr⟩
        simp only [ExRel] at hr
        subst hr
        exact (ihy hd.2).1 t1 H1 ex t' H' E0 E' a' h X' s'
      · rename_i r hne
        refine wp_mono ((ihx hd.1).1 _ _ _ _ _ E0 E a h X s) (XPost.through ?_ (fun _ _ _ h => h))
        intro e
        subst e
        exact hne _ _ h
    · intro v l t H E0 E a hn hc X s
      simp only [drawsC, Bool.and_eq_true] at hd
      simp only [headNext] at hn
      obtain ⟨p, hp, hwp⟩ := (ihx hd.1).2 v l t H E0 E a hn hc X s
      refine ⟨p, hp, fun ex t' H' h => ?_⟩
      simp only [execF] at h
      refine wp_seq ?_
      split at h
      · rename_i t1 H1 hx
        refine wp_mono (hwp _ _ _ hx) ?_
        rintro e a' w' ⟨E', rfl, X', s', hr⟩
        simp only [ExRel] at hr
        subst hr
        exact (ihy hd.2).1 t1 H1 ex t' H' E0 E' a' h X' s'
      · rename_i r hne
        refine wp_mono (hwp _ _ _ h) (XPost.through ?_ (fun _ _ _ h => h))
        intro e
        subst e
        exact hne _ _ h
  | cond c x y ihx ihy =>
    intro hd
    refine ⟨?_, ?_⟩
    · intro t H ex t' H' E0 E a h X s
      simp only [drawsC, Bool.and_eq_true] at hd
      simp only [exec] at h
      split at h
      case h_2 => cases h
      rename_i b hb
      have hc := s.ρ c
      rw [hb] at hc
      simp only [Rel] at hc
      refine wp_cond hc ?_
      cases b with
      | true => simp only [if_true] at h ⊢; exact (ihx hd.1).1 _ _ _ _ _ E0 E a h X s
      | false => simp only [Bool.false_eq_true, if_false] at h ⊢; exact (ihy hd.2).1 _ _ _ _ _ E0 E a h X s
    · intro x l t H E0 E a h
      cases h
  | block id b ih =>
    intro hd
    refine ⟨?_, ?_⟩
    · intro t H ex t' H' E0 E a h X s
      simp only [drawsC, Bool.and_eq_true] at hd
      simp only [exec] at h
      refine wp_block ?_
      split at h
      · rename_i i t1 H1 hb
        refine wp_mono ((ih hd).1 _ _ _ _ _ E0 E a hb X s) ?_
        rintro e a' w' ⟨E', rfl, X', s', hr⟩
        simp only [ExRel] at hr
        subst hr
        simp only [Exit.inBlock]
        split at h
        · rename_i hi
          cases h
          rw [if_pos hi]
          exact ⟨E', rfl, X', s', rfl⟩
        · rename_i hi
          cases h
          rw [if_neg hi]
          exact ⟨E', rfl, X', s', rfl⟩
      · rename_i r hne
        refine wp_mono ((ih hd).1 _ _ _ _ _ E0 E a h X s) ?_
        intro e a' w' hx
        have hx' := hx
        obtain ⟨E', rfl, X', s', hr⟩ := hx'
        cases ex with
        | normal => simp only [ExRel] at hr; subst hr; exact hx
        | exit i => exact absurd h (by intro h'; exact hne _ _ _ h')
        | ret => simp only [ExRel] at hr; subst hr; exact hx
        | panic v => obtain ⟨c, rfl, _⟩ := hr; exact hx
    · intro x l t H E0 E a h
      cases h
  | loop b ih =>
    intro hd
    refine ⟨?_, ?_⟩
    · intro t H ex t' H' E0 E a h X s
      simp only [drawsC] at hd
      simp only [exec] at h
      obtain ⟨N, h⟩ := ls _ _ _ _ h
      refine wp_of_wpL (loop_sound ?_ N t H ex t' H' E0 E a h X s)
      intro t H E0 E a X s
      cases hf : forget pol fn fr (fstRegion b) t H with
      | none => exact ⟨none, by simp, fun _ _ _ h => by cases h⟩
      | some y =>
        obtain ⟨t1, H1⟩ := y
        obtain ⟨E1, hw, X1, S1, hr, hl⟩ := s.sim.forget hf s.rel
        have s1 : St B F fr E1 H1 t1 a := ⟨S1, by rw [hl]; exact s.lt, hr, s.defers⟩
        simp only
        cases hn : headNext b with
        | none =>
          refine ⟨_, List.mem_singleton.2 rfl, fun ex t' H' h => ?_⟩
          have := (ih hd).1 t1 H1 ex t' H' E0 E1 a h (X.trans X1) s1
          rwa [hw] at this
        | some x =>
          simp only
          cases hc : nextC (hget H1) (rho t1 x) with
          | none => exact ⟨none, by simp, fun _ _ _ h => by cases h⟩
          | some l =>
            obtain ⟨p, hp, hwp⟩ := (ih hd).2 x l t1 H1 E0 E1 a hn hc (X.trans X1) s1
            refine ⟨_, List.mem_map.2 ⟨p, hp, rfl⟩, fun ex t' H' h => ?_⟩
            have := hwp ex t' H' h
            rwa [hw] at this
    · intro x l t H E0 E a h
      cases h
  | rangeFunc f ps as b iha ihb =>
    intro _
    refine ⟨?_, ?_⟩
    · intro t H ex t' H' E0 E a h X s
      cases h
    · intro x l t H E0 E a h
      cases h
  | exit id =>
    intro _
    refine ⟨?_, ?_⟩
    · intro t H ex t' H' E0 E a h X s
      cases h
      exact wp_exit ⟨E, rfl, X, s, rfl⟩
    · intro x l t H E0 E a h
      cases h
  | scope b ih =>
    intro _
    refine ⟨?_, ?_⟩
    · intro t H ex t' H' E0 E a h X s
      cases h
    · intro x l t H E0 E a h
      cases h
  | label l =>
    intro _
    refine ⟨?_, ?_⟩
    · intro t H ex t' H' E0 E a h X s
      cases h
    · intro x l t H E0 E a h
      cases h
  | goto l =>
    intro _
    refine ⟨?_, ?_⟩
    · intro t H ex t' H' E0 E a h X s
      cases h
    · intro x l t H E0 E a h
      cases h
  | ret =>
    intro _
    refine ⟨?_, ?_⟩
    · intro t H ex t' H' E0 E a h X s
      cases h
      exact wp_ret ⟨E, rfl, X, s, rfl⟩
    · intro x l t H E0 E a h
      cases h
  | refuse why =>
    intro _
    refine ⟨?_, ?_⟩
    · intro t H ex t' H' E0 E a h X s
      cases h
    · intro x l t H E0 E a h
      cases h

theorem exec_sound (ok : Okay P pol) (cs : CSound P C) (ls : LSound L) (c : Code) (hd : drawsC c = true) (t : List V) (H : Heap) (ex : Ex) (t' : List V) (H' : Heap) (E0 E : Env) (a : Act)
    (h : exec P pol C L fn fr c t H = some (ex, t', H')) (X : Ext fr B E0 E) (s : St B F fr E H t a) : c.wp P (XPost B F fr E0 ex t' H') a E.w :=
  (exec_sound2 ok cs ls c hd).1 t H ex t' H' E0 E a h X s

/-! ### Results -/

theorem resOne_sound {E : Env} {H : Heap} {t : List V} {a : Act} (s : St B F fr E H t a) {r : ResultVar} {v : V} (h : resOne P t H r = some v) :
    ∃ c, (match r with
      | .tmp i => (Pure.pure (a.tmps.getD i undef) : Sem Value)
      | .cell i T => (do loadVar T (← asAddr (a.tmps.getD i undef)) : Sem Value)).run P E.w = .ok c E.w ∧ Rel E v c := by
  cases r with
  | tmp i =>
    simp only [resOne, Option.some.injEq] at h
    subst h
    exact ⟨_, rfl, s.ρ (.tmp i)⟩
  | cell i T =>
    simp only [resOne] at h
    split at h
    case h_2 => cases h
    rename_i f sl o hp
    split at h
    case h_2 => cases h
    rename_i xs hg
    have hr := s.ρ (.tmp i)
    simp only [rho, Act.eval] at hr
    rw [hp] at hr
    simp only [Rel] at hr
    obtain ⟨b, hb, he⟩ := hr
    obtain ⟨b2, cc, T2, vs, rest, q1, _, _, _, q5, _, _, q8⟩ := s.sim.lies hg
    rw [hb] at q1; cases q1
    obtain ⟨c, h1, h2⟩ := readAt_sound (w := E.w) h q5 q8
    rw [Nat.zero_add] at h1
    refine ⟨c, ?_, h2⟩
    simp only [he, asAddr, Sem.run_bind, Sem.run_pure, Result.andThen_ok, h1]

theorem resL_sound {E : Env} {H : Heap} {t : List V} {a : Act} (s : St B F fr E H t a) : ∀ (rs : List ResultVar) (vs : List V), resL P t H rs = some vs →
    ∃ cs, (rs.mapM (m := Sem) fun r => (match r with
      | .tmp i => (Pure.pure (a.tmps.getD i undef) : Sem Value)
      | .cell i T => (do loadVar T (← asAddr (a.tmps.getD i undef)) : Sem Value))).run P E.w = .ok cs E.w ∧ RelL E vs cs
  | [], vs, h => by cases h; exact ⟨[], rfl, .nil⟩
  | r :: rs, vs, h => by
    simp only [resL] at h
    split at h
    · rename_i v vs' h1 h2
      cases h
      obtain ⟨c, g1, g2⟩ := resOne_sound s h1
      obtain ⟨cs, g3, g4⟩ := resL_sound s rs vs' h2
      exact ⟨c :: cs, by simp only [List.mapM_cons, Sem.run_bind, g1, Result.andThen_ok, g3, Sem.run_pure], .cons g2 g4⟩
    · cases h

theorem resV_sound {E : Env} {H : Heap} {t : List V} {a : Act} (s : St B F fr E H t a) {f : Func} {v : V} (h : resV P f t H = some v) :
    ∃ c, (results f a.tmps).run P E.w = .ok c E.w ∧ Rel E v c := by
  unfold resV at h
  split at h
  · rename_i v' hl
    cases h
    obtain ⟨cs, h1, h2⟩ := resL_sound s _ _ hl
    obtain ⟨c, r, rfl, hc, hr⟩ := RelL.cons_iff.1 h2
    rw [RelL.nil_iff] at hr; subst hr
    refine ⟨c, ?_, hc⟩
    simp only [results, Sem.run_bind]
    rw [Array.mapM_eq_mapM_toList]
    simp only [Sem.run_map]
    exact (congrArg (fun r : Result (List Value) => (r.andThen fun a w' => Result.ok a.toArray w').andThen fun a w' => Sem.run P (Pure.pure (if h : a.size = 1 then a[0] else Value.tuple a)) w') h1).trans rfl
  · rename_i vs hne hl
    cases h
    obtain ⟨cs, h1, h2⟩ := resL_sound s _ _ hl
    refine ⟨.tuple ⟨cs⟩, ?_, by simp only [Rel]; exact ⟨cs, rfl, h2⟩⟩
    simp only [results, Sem.run_bind]
    rw [Array.mapM_eq_mapM_toList]
    simp only [Sem.run_map]
    refine (congrArg (fun r : Result (List Value) => (r.andThen fun a w' => Result.ok a.toArray w').andThen fun a w' => Sem.run P (Pure.pure (if h : a.size = 1 then a[0] else Value.tuple a)) w') h1).trans ?_
    have hlen := h2.length
    have : ¬ ((⟨cs⟩ : Array Value).size = 1) := by
      intro e
      have e1 : vs.length = 1 := by rw [hlen]; exact e
      obtain ⟨x, rfl⟩ := List.length_eq_one_iff.1 e1
      exact hne x rfl
    simp only [Result.andThen_ok, this, dif_neg, not_false_eq_true, Sem.run_pure]
  · cases h

theorem callB_sound (ok : Okay P pol) (cs : CSound P C) (ls : LSound L) : CSound P (callB P pol C L) := by
  intro f args H r H' h
  unfold callB at h
  split at h
  case h_2 => cases h
  rename_i Fn hFn
  split at h
  case h_2 => cases h
  rename_i c hc
  refine ⟨⟨Fn, c, hFn, hc⟩, ?_⟩
  intro B F E cargs S hr
  have hl := hr.length
  have s : St B F H.length E (H ++ [[]]) (args ++ List.replicate (Fn.ntmps - args.length) .bad) { tmps := (⟨cargs⟩ : Array Value) ++ Array.replicate (Fn.ntmps - (⟨cargs⟩ : Array Value).size) undef, defers := [] } := by
    refine ⟨S.push, by simp, ?_, rfl⟩
    have : ((⟨cargs⟩ : Array Value) ++ Array.replicate (Fn.ntmps - (⟨cargs⟩ : Array Value).size) undef).toList = cargs ++ List.replicate (Fn.ntmps - args.length) undef := by
      simp [hl]
    rw [this]
    exact hr.append (RelL.replicate _ (by simp [Rel]))
  refine calls_of_wp hFn hc ?_
  have plain : ∀ (ex : Ex) (t : List V) (H1 : Heap) (v : V), (ex = .normal ∨ ex = .ret) → settleO (pol.settle f) (exec P pol C L f H.length c (args ++ List.replicate (Fn.ntmps - args.length) .bad) (H ++ [[]])) = some (ex, t, H1) →
      resV P Fn t H1 = some v → c.wp P (bodyPost P Fn (Answer B F H E (.ret v) (popF H.length v H1))) { tmps := (⟨cargs⟩ : Array Value) ++ Array.replicate (Fn.ntmps - (⟨cargs⟩ : Array Value).size) undef, defers := [] } E.w := by
    intro ex t H1 v hex hset hres
    have hsplit : ∃ H0, exec P pol C L f H.length c (args ++ List.replicate (Fn.ntmps - args.length) .bad) (H ++ [[]]) = some (ex, t, H0) ∧ settleL (pol.settle f) t H0 = some H1 := by
      cases hx : exec P pol C L f H.length c (args ++ List.replicate (Fn.ntmps - args.length) .bad) (H ++ [[]]) with
      | none => rw [hx] at hset; cases hset
      | some y =>
        obtain ⟨e, t0, H0⟩ := y
        rw [hx] at hset
        cases e with
        | normal =>
          simp only [settleO] at hset
          cases hl : settleL (pol.settle f) t0 H0 with
          | none => rw [hl] at hset; cases hset
          | some H2 => rw [hl] at hset; cases hset; exact ⟨H0, rfl, hl⟩
        | ret =>
          simp only [settleO] at hset
          cases hl : settleL (pol.settle f) t0 H0 with
          | none => rw [hl] at hset; cases hset
          | some H2 => rw [hl] at hset; cases hset; exact ⟨H0, rfl, hl⟩
        | exit i => cases hset; rcases hex with h | h <;> cases h
        | panic v => cases hset; rcases hex with h | h <;> cases h
    obtain ⟨H0, hrun, hset'⟩ := hsplit
    refine wp_mono (exec_sound ok cs ls c (ok.draws f Fn c hFn hc) _ _ _ _ _ E E _ hrun (Ext.refl _ _ _) s) ?_
    rintro e a' w' ⟨E', rfl, X', s', he⟩
    obtain ⟨E1, hw1, X1, s1⟩ := settleL_sound s' hset'
    obtain ⟨cv, h1, h2⟩ := resV_sound s1 hres
    obtain ⟨E2, hw, X2, S2, hr2⟩ := s1.sim.pop H.length v cv h2
    rw [hw1] at h1 hw
    have hA : Answer B F H E (.ret v) (popF H.length v H1) (.returned cv) E'.w :=
      ⟨E2, hw, ⟨cv, rfl, hr2⟩, S2, (X'.trans X1).trans X2, popF_length _ _ _ (Nat.le_of_lt s1.lt)⟩
    rcases hex with rfl | rfl
    · simp only [ExRel] at he; subst he; exact ⟨s'.defers, cv, h1, hA⟩
    · simp only [ExRel] at he; subst he; exact ⟨s'.defers, cv, h1, hA⟩
  split at h
  · rename_i t H1 hex
    split at h
    case h_2 => cases h
    rename_i v hv
    cases h
    exact plain _ t H1 v (.inl rfl) hex hv
  · rename_i t H1 hex
    split at h
    case h_2 => cases h
    rename_i v hv
    cases h
    exact plain _ t H1 v (.inr rfl) hex hv
  · rename_i v t H1 hex
    cases h
    have hrun : exec P pol C L f H.length c (args ++ List.replicate (Fn.ntmps - args.length) .bad) (H ++ [[]]) = some (.panic v, t, H1) := by
      cases hx : exec P pol C L f H.length c (args ++ List.replicate (Fn.ntmps - args.length) .bad) (H ++ [[]]) with
      | none => rw [hx] at hex; cases hex
      | some y =>
        obtain ⟨e, t0, H0⟩ := y
        rw [hx] at hex
        cases e with
        | normal => simp only [settleO] at hex; cases hl : settleL (pol.settle f) t0 H0 <;> (rw [hl] at hex; cases hex)
        | ret => simp only [settleO] at hex; cases hl : settleL (pol.settle f) t0 H0 <;> (rw [hl] at hex; cases hex)
        | exit i => cases hex
        | panic v => exact hex
    refine wp_mono (exec_sound ok cs ls c (ok.draws f Fn c hFn hc) _ _ _ _ _ E E _ hrun (Ext.refl _ _ _) s) ?_
    rintro e a' w' ⟨E', rfl, X', s', cv, rfl, hcv⟩
    obtain ⟨E2, hw, X2, S2, hr2⟩ := s'.sim.pop H.length v cv hcv
    exact ⟨s'.defers, E2, hw, ⟨cv, rfl, hr2⟩, S2, X'.trans X2, popF_length _ _ _ (Nat.le_of_lt s'.lt)⟩
  · cases h

theorem callN_sound (ok : Okay P pol) : ∀ n, CSound P (callN P pol n)
  | 0 => fun _ _ _ _ _ h => by cases h
  | n + 1 => callB_sound ok (callN_sound ok n) (fun _ _ _ _ h => ⟨n, h⟩)

end
end Go.AM
end
