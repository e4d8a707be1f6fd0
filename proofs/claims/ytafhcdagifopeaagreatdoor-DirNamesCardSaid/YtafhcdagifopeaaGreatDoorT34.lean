/- This file holds in one the texts Bx30, Bx31, DZ0, Bx32, Jf; each says at its head what it proves. -/
import Derived.Test.YtafhcdagifopeaaGreatDoorT31
import Derived.Test.YtafhcdagifopeaaGreatDoorT33
import Derived.OwnWalk
import Derived.WalkKit
import Derived.Shelf.RegionOpenPlain
import Derived.Lib.Overlaps
import Derived.Laws.Externs
import Derived.JoinedOf
set_option linter.unusedSimpArgs false
set_option linter.unusedVariables false
section
/- The machine for closed laws, part 30: what a function answers at values that name no objects, for good: out of a run of the closed machine; and how both machines take it. -/
namespace Go.AM.BM

section
variable {P : Program} {pol : Pol}

def Ans (P : Program) (f : FuncId) (xs : List V) (y : V) : Prop :=
  y.pure = true ∧ ∀ (w : World) (M : Nat → Nat → Prop) (cargs : List Value), (∀ b i, M b i → b < w.heap.size) → RelL (bare (loopAt P) w M) xs cargs →
    AM.Invokes P f ⟨cargs⟩ w fun e w' => ∃ c, e = .returned c ∧ Rel (bare (loopAt P) w' M) y c ∧ Ext 0 w.heap.size (bare (loopAt P) w M) (bare (loopAt P) w' M)

theorem sim_bare (T : FuncId → Nat → Option (Array Tmp × Code × Code)) (w : World) (M : Nat → Nat → Prop) (hM : ∀ b i, M b i → b < w.heap.size) : Sim w.heap.size M [] (bare T w M) where
  dom := fun f s => rfl
  bsz := Nat.le_refl _
  fb := hM
  fmod := fun _ _ h => h
  modsz := hM
  obj := fun f s o h => by simp [hget] at h
  nreg := fun f s n x h => by cases h
  inj := fun f s o _ _ _ _ h => by simp [hget] at h

theorem ext_bare {T T' : FuncId → Nat → Option (Array Tmp × Code × Code)} {w w' : World} {M : Nat → Nat → Prop} {B k : Nat} {E' : Env} (X : Ext k B (bare T w M) E') (hw : E'.w = w') (k' : Nat) : Ext k' B (bare T' w M) (bare T' w' M) := by
  subst hw
  exact ⟨X.size, X.shape, X.cell, fun _ _ _ _ h => h, fun _ _ _ _ h => h, fun f s n b lo hi _ _ h => ⟨n, b, lo, hi, h, .inr ⟨rfl, rfl, rfl, rfl⟩⟩, X.old, X.rest, rfl, X.dfr⟩

theorem ans_of_callN (ok : Okay P pol) {m : Nat} {f : FuncId} {xs : List V} {v y : V} {H' : Heap} (h : callN P pol m (some f) xs [[]] = some (.ret v, H')) (hz : frz (hget H') depth v = some y) (hy : y.pure = true) : Ans P f xs y := by
  refine ⟨hy, fun w M cargs hM hr => ?_⟩
  obtain ⟨hbody, hall⟩ := (callN_sound ok m).1 f xs [[]] _ H' h
  have hc := hall w.heap.size M (bare (loopAt P) w M) cargs (Sim.first (sim_bare _ w M hM)) rfl rfl hr
  have hc' : Calls P f ⟨cargs⟩ w fun e w' => ∃ c, e = .returned c ∧ Rel (bare (loopAt P) w' M) y c ∧ Ext 0 w.heap.size (bare (loopAt P) w M) (bare (loopAt P) w' M) := by
    refine hc.mono ?_
    rintro e w' ⟨E1, rfl, ⟨c, rfl, hcv⟩, S1, X1, _⟩
    obtain ⟨h1, h2⟩ := S1.frz hz hcv
    exact ⟨c, rfl, Rel.dress (E := bare E1.tab E1.w M) (E' := bare (loopAt P) E1.w M) rfl rfl _ _ h2 h1, ext_bare X1 rfl 0⟩
  rcases ok.invokes hbody hc' with ⟨v, w', h1, h2⟩ | ⟨j, h1, h2⟩
  · exact .inl ⟨v, w', h1, h2⟩
  · exact .inr ⟨j, h1, h2⟩

theorem Ans.take {f : FuncId} {xs : List V} {y : V} (h : Ans P f xs y) {B : Nat} {F : Nat → Nat → Prop} {H : Heap} {E : Env} {cargs : List Value} (S : Sim B F H E) (hp : pureL xs = true) (hr : RelL E xs cargs) :
    AM.Invokes P f ⟨cargs⟩ E.w fun e w' => ∃ E', E'.w = w' ∧ RtRel E' (.ret y) e ∧ Sim B F H E' ∧ Ext H.length B E E' := by
  have hr1 := RelL.bare (F := E.mod) (fun _ _ h => h) xs cargs hp hr
  have hr2 : RelL (bare (loopAt P) E.w E.mod) xs cargs := by
    refine RelL.of_get hr1.length ?_
    intro i x v hx hv
    obtain ⟨v', hv', hxr⟩ := hr1.get hx
    rw [hv] at hv'; cases hv'
    refine Rel.dress (E := bare E.tab E.w E.mod) (E' := bare (loopAt P) E.w E.mod) rfl rfl x v ?_ hxr
    have : ∀ (l : List V), pureL l = true → ∀ (i : Nat) (x : V), l[i]? = some x → x.pure = true := by
      intro l
      induction l with
      | nil => intro _ i x h; simp at h
      | cons a l ih =>
        intro hl i x h
        simp only [pureL, Bool.and_eq_true] at hl
        cases i with
        | zero => simp at h; subst h; exact hl.1
        | succ i => simp at h; exact ih hl.2 i x h
    exact this xs hp i x hx
  have := h.2 E.w E.mod cargs S.modsz hr2
  refine this.mono ?_
  rintro e w' ⟨c, rfl, hc, X⟩
  have X' : Ext 0 E.w.heap.size (bare E.tab E.w E.mod) (bare E.tab w' E.mod) := ext_bare X rfl 0
  obtain ⟨X2, S2⟩ := S.behind X'
  exact ⟨{ E with w := w' }, rfl, ⟨c, rfl, Rel.dress (E := bare (loopAt P) w' E.mod) (E' := { E with w := w' }) rfl rfl _ _ h.1 hc⟩, S2, X2⟩

noncomputable def ansF (x : FR) : Option V := match x with
  | .ret v F => frz (getF F) depth v
  | _ => none
theorem ans_of_fcall (ok : Okay P pol) (hl : NoLoops pol) {m : Nat} {f : FuncId} {xs : List V} {y : V} (h : ansF (fcall P pol m (some f) xs ⟨0, .nil⟩) = some y) (hy : y.pure = true) : Ans P f xs y := by
  have := fcall_sound (P := P) hl m (some f) xs ⟨0, .nil⟩ [[]] ⟨[], rfl, fun s => rfl, rfl⟩
  revert this h
  cases fcall P pol m (some f) xs ⟨0, .nil⟩ with
  | ret v F =>
    rintro h ⟨H, e, hF⟩
    simp only [ansF, hF.get] at h
    exact ans_of_callN ok e h hy
  | _ => intro h; cases h
end
end Go.AM.BM
end
section
/- The machine for closed laws, part 31: slices.Insert of one element, answered at once: the list goes over into a new object, whether it was moved in place or not. -/
namespace Go.AM.BM

def insP (esz by_ : Nat) : PrimL := fun nm g args => match args with
  | [.mslice f s 0 len none e, .int .i64 i, .mslice f2 s2 o2 1 _ e2] => (match g f s, g 0 nm, g f2 s2 with
    | some (.cells xs), none, some (.cells ys) =>
      if e = esz ∧ e2 = esz ∧ 0 < esz ∧ xs.length = len * esz ∧ 0 ≤ i ∧ i ≤ len ∧ o2 + esz ≤ ys.length ∧ ¬ (f = f2 ∧ s = s2) ∧ roomy (len + 1) by_ = true then
        some (.mslice 0 nm 0 (len + 1) none esz, [(f, s, .dead), (0, nm, .cells (xs.take (i.toNat * esz) ++ (ys.drop o2).take esz ++ xs.drop (i.toNat * esz)))])
      else none
    | _, _, _ => none)
  | [.nilslice, .int .i64 0, .mslice f2 s2 o2 1 _ e2] => (match g 0 nm, g f2 s2 with
    | none, some (.cells ys) => if e2 = esz ∧ 0 < esz ∧ o2 + esz ≤ ys.length ∧ roomy 1 by_ = true then
        some (.mslice 0 nm 0 1 none esz, [(0, nm, .cells ((ys.drop o2).take esz))]) else none
    | _, _ => none)
  | _ => none

theorem insP_tame (esz by_ : Nat) (nm : Nat) (G G' : Get) (args : List V) (v : V) (ws : List (Nat × Nat × O)) (h : GLe G G') (hn : G' 0 nm = G 0 nm) (e : insP esz by_ nm G args = some (v, ws)) :
    insP esz by_ nm G' args = some (v, ws) ∧ ∀ x ∈ ws, (∃ y, G x.1 x.2.1 = some y) ∨ (x.1 = 0 ∧ x.2.1 = nm) := by
  unfold insP at e ⊢
  split at e
  · rename_i f s len q i f2 s2 o2 _ e2
    split at e
    · rename_i xs ys h1 h2 h3
      simp only [h _ _ _ h1, hn, h2, h _ _ _ h3]
      split at e
      case isFalse => cases e
      rename_i hc
      rw [if_pos hc]
      cases e
      refine ⟨rfl, fun x hx => ?_⟩
      rcases List.mem_cons.1 hx with rfl | hx
      · exact .inl ⟨_, h1⟩
      · simp only [List.mem_singleton] at hx
        subst hx
        exact .inr ⟨rfl, rfl⟩
    · cases e
  · rename_i f2 s2 o2 _ e2
    split at e
    · rename_i ys h2 h3
      simp only [hn, h2, h _ _ _ h3]
      split at e
      case isFalse => cases e
      rename_i hc
      rw [if_pos hc]
      cases e
      refine ⟨rfl, fun x hx => ?_⟩
      simp only [List.mem_singleton] at hx
      subst hx
      exact .inr ⟨rfl, rfl⟩
    · cases e
  · cases e

structure InsSpec (P : Program) (f : FuncId) (esz by_ : Nat) : Prop where
  body : ∃ (F : Func) (c : Code), P.funcs[f]? = some F ∧ F.body = some c
  num : ∀ (F : Func), P.funcs[f]? = some F → (F.name == "runtime.NumGoroutine") = false
  room : ∀ (w : World) (b len c i : Nat) (cur : Array Value) (T : TypeId) (vs rest : List Value) (b2 o2 c2 : Nat) (cur2 : Array Value) (T2 : TypeId) (us rest2 : List Value),
    w.heap[b]? = some (.cells cur T (0, 0)) → cur.toList = vs ++ rest → vs.length = len * esz → w.heap[b2]? = some (.cells cur2 T2 (0, 0)) → cur2.toList = us ++ rest2 → o2 + esz ≤ us.length → b ≠ b2 → i ≤ len → len + 1 ≤ c → c * esz ≤ cur.size →
    (∀ v ∈ vs, v.oneCell' = true) → (∀ v ∈ us, v.oneCell' = true) → roomy (len + 1) by_ = true →
    Calls P f #[.slice (some ⟨b, 0, none⟩) len c, .int .i64 i, .slice (some ⟨b2, o2, none⟩) 1 c2] w fun r w' => r = .returned (.slice (some ⟨b, 0, none⟩) (len + 1) c) ∧
      ∃ d, w' = { w.setRow b ⟨(vs.take (i * esz) ++ (us.drop o2).take esz ++ vs.drop (i * esz)) ++ rest.drop esz⟩ with drawn := d }
  grow : ∀ (w : World) (base : Option Addr) (len c i : Nat) (vs : List Value) (b2 o2 c2 : Nat) (cur2 : Array Value) (T2 : TypeId) (us rest2 : List Value),
    (base = none → len = 0 ∧ c = 0) → (∀ a, base = some a → a.off = 0 ∧ a.spot = none ∧ Lies w a.block 0 vs) → vs.length = len * esz → w.heap[b2]? = some (.cells cur2 T2 (0, 0)) → cur2.toList = us ++ rest2 → o2 + esz ≤ us.length → i ≤ len → c = len →
    (∀ v ∈ vs, v.oneCell' = true) → (∀ v ∈ us, v.oneCell' = true) → roomy (len + 1) by_ = true →
    Calls P f #[.slice base len c, .int .i64 i, .slice (some ⟨b2, o2, none⟩) 1 c2] w fun r w' =>
      ∃ newCap d T rest', len + 1 ≤ newCap ∧ rest'.length = (newCap - (len + 1)) * esz ∧ r = .returned (.slice (some ⟨w.heap.size, 0, none⟩) (len + 1) newCap) ∧
        w' = { w with heap := w.heap.push (.cells ⟨(vs.take (i * esz) ++ (us.drop o2).take esz ++ vs.drop (i * esz)) ++ rest'⟩ T), drawn := d }

section
variable {P : Program}

theorem invokes_calls {f : FuncId} {args : Array Value} {w : World} {R : Ending → World → Prop} (hf : ∃ (F : Func) (c : Code), P.funcs[f]? = some F ∧ F.body = some c) (hn : ∀ (F : Func), P.funcs[f]? = some F → (F.name == "runtime.NumGoroutine") = false) (h : Calls P f args w R) : Invokes P f args w R := by
  obtain ⟨Fn, c, h1, h2⟩ := hf
  refine .inr ⟨f, ?_, h⟩
  have := hn Fn h1
  simp only [callFunc, Sem.run_bind, run_program, Result.andThen_ok, h1, this, Bool.false_eq_true, if_false, h2, Option.isNone_some, Sem.run_pure]

theorem sim_drawn {B : Nat} {F : Nat → Nat → Prop} {H : Heap} {E : Env} (S : Sim B F H E) (d : Nat) : Ext H.length B E { E with w := { E.w with drawn := d } } ∧ Sim B F H { E with w := { E.w with drawn := d } } := by
  have X1 : Ext H.length E.w.heap.size (AM.bare E.tab E.w E.mod) { AM.bare E.tab E.w E.mod with w := { E.w with drawn := d } } :=
    ⟨Nat.le_refl _, fun _ _ _ h => h, fun _ _ _ _ h => h, fun _ _ _ _ h => h, fun _ _ _ _ h => h, fun f s n b lo hi _ _ h => ⟨n, b, lo, hi, h, .inr ⟨rfl, rfl, rfl, rfl⟩⟩, fun _ _ => rfl, ⟨rfl, rfl, rfl⟩, rfl, fun _ h => h⟩
  exact S.behind X1

theorem ins_all {xs new : List V} (k : Nat) (h1 : xs.all V.scalar = true) (h2 : new.all V.scalar = true) : (xs.take k ++ new ++ xs.drop k).all V.scalar = true := by
  rw [List.all_eq_true] at h1 h2 ⊢
  intro x hx
  simp only [List.mem_append] at hx
  rcases hx with (hx | hx) | hx
  · exact h1 x (List.mem_of_mem_take hx)
  · exact h2 x hx
  · exact h1 x (List.mem_of_mem_drop hx)

theorem insP_sound {f : FuncId} {esz by_ : Nat} (sp : InsSpec P f esz by_) (B : Nat) (F : Nat → Nat → Prop) (H : Heap) (E : Env) (nm : Nat) (args : List V) (cargs : List Value) (v : V) (ws : List (Nat × Nat × O)) (S : Sim B F H E) (one : H.length = 1) (_ : E.tab = loopAt P)
    (hr : RelL E args cargs) (h : insP esz by_ nm (hget H) args = some (v, ws)) : Invokes P f ⟨cargs⟩ E.w (Answer B F H E (.ret v) (wrL H ws)) := by
  have hlt : 0 < H.length := by omega
  unfold insP at h
  split at h
  · rename_i fs s len q i f2 s2 o2 cc e2
    split at h
    case h_2 => cases h
    rename_i xs ys hg hnn hg2
    split at h
    case isFalse => cases h
    rename_i hc
    obtain ⟨rfl, rfl, hpos, hxl, hi0, hil, hol, hne2, hroomy⟩ := hc
    cases h
    obtain ⟨cs, r1, rfl, rs, hr⟩ := RelL.cons_iff.1 hr
    obtain ⟨ci, r2, rfl, ri, hr⟩ := RelL.cons_iff.1 hr
    obtain ⟨cv, r3, rfl, rv, hr⟩ := RelL.cons_iff.1 hr
    rw [RelL.nil_iff] at hr; subst hr
    simp only [Rel] at rs ri rv
    subst ri
    obtain ⟨b, c', T', n', hmu, rfl, g1, g2, g3, g4, g5⟩ := rs
    obtain ⟨b2, c2, T2', n2', hmu2, rfl, k1, k2, k3, k4, k5⟩ := rv
    obtain ⟨b', c, T, vs, rest, q1, q2, q3, q4, q5, q6, q7, q8⟩ := S.lies hg
    rw [hmu] at q1; cases q1
    obtain ⟨b2', cur2, T2, us, rest2, p1, p2, p3, p4, p5, p6, p7, p8⟩ := S.lies hg2
    rw [hmu2] at p1; cases p1
    have hne : ¬ (fs = 0 ∧ s = nm) := by
      rintro ⟨rfl, rfl⟩
      rw [hg] at hnn; cases hnn
    have hbb : b ≠ b2 := fun e => hne2 (S.inj fs s _ f2 s2 _ b hg hg2 hmu (by simp only [blk]; rw [hmu2, e]))
    have hvl := q5.length
    have hul := p5.length
    have hcs : c.size = vs.length + rest.length := by
      have := congrArg List.length q4
      simpa using this
    have hn' : n' = c.size := by
      simp only [World.shape?, q3, Option.some.injEq, Prod.mk.injEq] at g3
      exact g3.2.symm
    have hend := g5 trivial
    obtain ⟨j, rfl⟩ : ∃ j : Nat, i = (j : Int) := ⟨i.toNat, by omega⟩
    have hj : j ≤ len := by omega
    simp only [Int.toNat_natCast]
    have h1v : ∀ v ∈ vs, v.oneCell' = true := scalar_mem q5 q7
    have h1u : ∀ v ∈ us, v.oneCell' = true := scalar_mem p5 p7
    have hnew : ((ys.drop o2).take e2).all V.scalar = true := by
      rw [List.all_eq_true] at p7 ⊢
      exact fun x hx => p7 x (List.mem_of_mem_drop (List.mem_of_mem_take hx))
    have hrel : RelL E (xs.take (j * e2) ++ (ys.drop o2).take e2 ++ xs.drop (j * e2)) (vs.take (j * e2) ++ (us.drop o2).take e2 ++ vs.drop (j * e2)) :=
      ((q5.take _).append ((p5.drop _).take _)).append (q5.drop _)
    have hsc := ins_all (j * e2) q7 hnew
    have hjl : j * e2 ≤ len * e2 := Nat.mul_le_mul_right _ hj
    have hadd : (len + 1) * e2 = len * e2 + e2 := by rw [Nat.add_mul, Nat.one_mul]
    have hnl : (vs.take (j * e2) ++ (us.drop o2).take e2 ++ vs.drop (j * e2)).length = (len + 1) * e2 := by
      simp only [List.length_append, List.length_take, List.length_drop]; omega
    have S1 : Sim B F (hset H fs s .dead) E := S.kill hg (fun n h => by cases h)
    have hlen1 : (hset H fs s .dead).length = H.length := hset_length _ _ _ _
    have hn1 : hget (hset H fs s .dead) 0 nm = none := by
      rw [hget_hset _ _ _ _ (hget_lt hg), if_neg (fun e => hne ⟨e.1.symm, e.2.symm⟩)]; exact hnn
    refine invokes_calls sp.body sp.num ?_
    by_cases hfit : len + 1 ≤ c'
    · have hle : (len + 1) * e2 ≤ c' * e2 := Nat.mul_le_mul_right _ hfit
      have hcall := sp.room E.w b len c' j c T vs rest b2 o2 c2 cur2 T2 us rest2 q3 q4 (by omega) p3 p4 (by omega) hbb hj hfit (by omega) h1v h1u hroomy
      refine hcall.mono ?_
      rintro e w' ⟨rfl, d, rfl⟩
      have hlen2 : ((vs.take (j * e2) ++ (us.drop o2).take e2 ++ vs.drop (j * e2)) ++ rest.drop e2).length = c.size := by
        rw [List.length_append, hnl, List.length_drop]; omega
      obtain ⟨X, S2⟩ := S1.adoptCells (f0 := 0) (s0 := nm) (by rw [hlen1]; exact hlt) hn1 q3 q2 q6 (fun f' s' o' ho' hb' => by
        rcases hget_kill hlt hg f' s' o' ho' with ⟨_, _, rfl⟩ | ⟨h1, h2⟩
        · cases hb'
        · exact h1 (S.inj f' s' o' fs s _ b h2 hg hb' hmu)) hrel hsc hlen2
      obtain ⟨X2, S3⟩ := sim_drawn S2 d
      rw [hset_length, hlen1] at X2
      rw [hlen1] at X
      rw [one] at X X2
      refine ⟨_, rfl, ⟨_, rfl, ?_⟩, S3, X.trans X2, by simp only [wrL, hset_length]; exact one⟩
      simp only [Rel]
      exact ⟨b, c', T', n', upd_same _ _ _ _, rfl, hfit, (fun k hk => by cases hk), X2.shape _ _ _ (X.shape _ _ _ g3), g4, fun _ => hend⟩
    · have hceq : c' = len := by omega
      have hcall := sp.grow E.w (some ⟨b, 0, none⟩) len c' j vs b2 o2 c2 cur2 T2 us rest2 (fun h => by cases h) (fun a ha => by cases ha; exact ⟨rfl, rfl, q8⟩) (by omega) p3 p4 (by omega) hj hceq h1v h1u hroomy
      refine hcall.mono ?_
      rintro e w' ⟨newCap, d, T3, rest', hcap, hrl, rfl, rfl⟩
      obtain ⟨X, S2⟩ := S1.newCells (f0 := 0) (s0 := nm) (by rw [hlen1]; exact hlt) hn1 _ _ rest' T3 d hrel hsc
      rw [hlen1, one] at X
      have htot : newCap * e2 = (len + 1) * e2 + (newCap - (len + 1)) * e2 := by rw [← Nat.add_mul]; congr 1; omega
      refine ⟨_, rfl, ⟨_, rfl, ?_⟩, S2, X, by simp only [wrL, hset_length]; exact one⟩
      simp only [Rel]
      refine ⟨E.w.heap.size, newCap, T3, newCap * e2, upd_same _ _ _ _, rfl, hcap, (fun k hk => by cases hk), ?_, ?_, ?_⟩
      · have := push_new E (.cells ⟨(vs.take (j * e2) ++ (us.drop o2).take e2 ++ vs.drop (j * e2)) ++ rest'⟩ T3) d
        simp only [Env.newCells, World.shape?, this]
        simp only [List.size_toArray, Option.some.injEq, Prod.mk.injEq, true_and]
        rw [List.length_append, hnl, hrl]; omega
      · omega
      · intro _; omega
  · rename_i f2 s2 o2 cc e2
    split at h
    case h_2 => cases h
    rename_i ys hnn hg2
    split at h
    case isFalse => cases h
    rename_i hc
    obtain ⟨rfl, hpos, hol, hroomy⟩ := hc
    cases h
    obtain ⟨cs, r1, rfl, rs, hr⟩ := RelL.cons_iff.1 hr
    obtain ⟨ci, r2, rfl, ri, hr⟩ := RelL.cons_iff.1 hr
    obtain ⟨cv, r3, rfl, rv, hr⟩ := RelL.cons_iff.1 hr
    rw [RelL.nil_iff] at hr; subst hr
    simp only [Rel] at rs ri rv
    subst ri
    subst rs
    obtain ⟨b2, c2, T2', n2', hmu2, rfl, k1, k2, k3, k4, k5⟩ := rv
    obtain ⟨b2', cur2, T2, us, rest2, p1, p2, p3, p4, p5, p6, p7, p8⟩ := S.lies hg2
    rw [hmu2] at p1; cases p1
    have hul := p5.length
    have h1u : ∀ v ∈ us, v.oneCell' = true := scalar_mem p5 p7
    have hnew : ((ys.drop o2).take e2).all V.scalar = true := by
      rw [List.all_eq_true] at p7 ⊢
      exact fun x hx => p7 x (List.mem_of_mem_drop (List.mem_of_mem_take hx))
    refine invokes_calls sp.body sp.num ?_
    have hcall := sp.grow E.w none 0 0 0 [] b2 o2 c2 cur2 T2 us rest2 (fun _ => ⟨rfl, rfl⟩) (fun a ha => by cases ha) (by simp) p3 p4 (by omega) (Nat.le_refl _) rfl (fun v hv => by cases hv) h1u hroomy
    refine hcall.mono ?_
    rintro e w' ⟨newCap, d, T3, rest', hcap, hrl, rfl, rfl⟩
    simp only [Nat.zero_mul, List.take_zero, List.nil_append, List.drop_nil, List.append_nil, Nat.zero_add]
    obtain ⟨X, S2⟩ := S.newCells (f0 := 0) (s0 := nm) hlt hnn ((ys.drop o2).take e2) ((us.drop o2).take e2) rest' T3 d ((p5.drop _).take _) hnew
    rw [one] at X
    have hnl : ((us.drop o2).take e2).length = e2 := by simp only [List.length_take, List.length_drop]; omega
    have htot : newCap * e2 = e2 + (newCap - 1) * e2 := by
      have : newCap = 1 + (newCap - 1) := by omega
      rw [this, Nat.add_mul, Nat.one_mul]; congr 2; omega
    refine ⟨_, rfl, ⟨_, rfl, ?_⟩, S2, X, by simp only [wrL, hset_length]; exact one⟩
    simp only [Rel]
    refine ⟨E.w.heap.size, newCap, T3, newCap * e2, upd_same _ _ _ _, rfl, by omega, (fun k hk => by cases hk), ?_, ?_, ?_⟩
    · have := push_new E (.cells ⟨((us.drop o2).take e2) ++ rest'⟩ T3) d
      simp only [Env.newCells, World.shape?, this]
      simp only [List.size_toArray, Option.some.injEq, Prod.mk.injEq, true_and]
      rw [List.length_append, hnl, hrl]
      simp only [Nat.zero_add]
      omega
    · omega
    · intro _; omega
  · cases h
end
end Go.AM.BM
end
section
/- What copies come to, of elements of any size, as rows. -/
namespace Go.AM
variable {P : Program}

theorem run_copyB {w : World} {ts : Array TypeId} {t ty e T : TypeId} {n b o ld dc ls k : Nat} {src : Value} {vs : List Value} {cur : Array Value} (ht : ts[0]? = some t) (hu : P.underlying t = some (.slice e)) (hn : sz P e = some n)
    (hb : w.heap[b]? = some (.cells cur T (0, 0))) (hls : ∀ w', (Builtin.lenOf src).run P w' = .ok ls w') (hk : min ls ld = k) (hsrc : (Builtin.firstCells n k src).run P w = .ok ⟨vs⟩ w) (hfit : o + vs.length ≤ cur.size) (h1 : ∀ v ∈ vs, v.oneCell' = true) :
    (Builtin.copy_ ts ty #[.slice (some ⟨b, o, none⟩) ld dc, src]).run P w = .ok (goInt k) (w.setRow b ⟨splice cur.toList o vs⟩) := by
  have hst := run_storeCells_at P b o T vs 0 cur w hb (by simp only [Nat.add_zero]; omega) h1
  simp only [Nat.add_zero] at hst
  subst hk
  simp only [Builtin.copy_, ht, arr0, arr1, Sem.run_bind, run_und hu, Result.andThen_ok, hls, run_sz hn, Nat.min_eq_min, hsrc, hst, Sem.run_pure]
  rfl

theorem setRow_push (w : World) (c1 c2 : Array Value) (T : TypeId) (h : Array Obj) : ({ w with heap := h.push (.cells c1 T) } : World).setRow h.size c2 = { w with heap := h.push (.cells c2 T) } := by
  simp only [World.setRow]
  congr 1
  apply Array.ext_getElem?
  intro i
  simp only [Array.getElem?_modify, Array.getElem?_push]
  split
  · subst_vars; simp
  · split
    · exact absurd (by assumption) (fun e => by simp_all)
    · rfl


theorem lies_heap {w w' : World} {b off : Nat} {vs : List Value} (e : w'.heap[b]? = w.heap[b]?) (h : Lies w b off vs) : Lies w' b off vs := by
  intro i v hv
  have := h i v hv
  simp only [World.cell?, e] at this ⊢
  exact this
theorem lies_of {w : World} {b : Nat} {cur : Array Value} {T : TypeId} {z : Nat × Nat} {vs rest : List Value} (hb : w.heap[b]? = some (.cells cur T z)) (hc : cur.toList = vs ++ rest) : Lies w b 0 vs := by
  intro i v hv
  have : cur[i]? = some v := by
    rw [← Array.getElem?_toList, hc, List.getElem?_append_left]
    · exact hv
    · exact (List.getElem?_eq_some_iff.1 hv).1
  simp [World.cell?, hb, this]
theorem ins_room_list {α : Type} (vs rest news : List α) (k e : Nat) (hk : k ≤ vs.length) (he : news.length = e) (hr : e ≤ rest.length) :
    splice (splice (vs ++ rest) (k + e) (vs.drop k)) k news = (vs.take k ++ news ++ vs.drop k) ++ rest.drop e := by
  unfold splice
  apply List.ext_getElem?
  intro i
  simp only [List.getElem?_append, List.getElem?_take, List.getElem?_drop, List.length_append, List.length_take, List.length_drop]
  grind
theorem ins_end_list {α : Type} (vs rest news : List α) (k : Nat) (hk : k = vs.length) : splice (vs ++ rest) k news = (vs ++ news) ++ rest.drop news.length := by
  subst hk
  unfold splice
  apply List.ext_getElem?
  intro i
  simp only [List.getElem?_append, List.getElem?_take, List.getElem?_drop, List.length_append, List.length_take, List.length_drop]
  grind
theorem ins_grow_list {α : Type} (olds Z rest news tail : List α) (k e : Nat) (ho : olds.length = k) (he : news.length = e) (hZ : Z.length = e + tail.length) :
    splice (splice (olds ++ Z ++ rest) k news) (k + e) tail = (olds ++ news ++ tail) ++ rest := by
  unfold splice
  apply List.ext_getElem?
  intro i
  simp only [List.getElem?_append, List.getElem?_take, List.getElem?_drop, List.length_append, List.length_take, List.length_drop]
  grind
end Go.AM
end
section
/- The machine for closed laws, part 32: what was reckoned once, of functions without arguments, and of others; values printed shortly. -/
namespace Go.AM.BM

noncomputable def byLE (n N : Nat) : List V :=
  Nat.rec (motive := fun _ => Nat → List V) (fun _ => []) (fun _ ih N => .int .u8 (Int.ofNat (Nat.land N (nat_lit 255))) :: ih (Nat.shiftRight N (nat_lit 8))) n N
noncomputable def repV (n : Nat) (v : V) : List V := Nat.rec (motive := fun _ => List V) [] (fun _ ih => v :: ih) n
noncomputable abbrev zB : V := .int .u8 (Int.ofNat (nat_lit 0))
noncomputable def z256 : List V := repV 256 zB

noncomputable def zbT : V := .islice z256 256 true
noncomputable def repT (n : Nat) (v : V) (t : List V) : List V := Nat.rec (motive := fun _ => List V) t (fun _ ih => v :: ih) n
noncomputable def F0 : FH := ⟨0, .nil⟩

structure PrimOk (P : Program) (f : FuncId) (g : PrimL) : Prop where
  sound : ∀ B F H E nm args cargs v ws, Sim B F H E → H.length = 1 → E.tab = loopAt P → RelL E args cargs → g nm (hget H) args = some (v, ws) → Invokes P f ⟨cargs⟩ E.w (Answer B F H E (.ret v) (wrL H ws))
  tame : ∀ nm G G' args v ws, GLe G G' → G' 0 nm = G 0 nm → g nm G args = some (v, ws) → g nm G' args = some (v, ws) ∧ ∀ x ∈ ws, (∃ y, G x.1 x.2.1 = some y) ∨ (x.1 = 0 ∧ x.2.1 = nm)

theorem ins_ok {P : Program} {f : FuncId} {esz by_ : Nat} (sp : InsSpec P f esz by_) : PrimOk P f (insP esz by_) :=
  ⟨fun B F H E nm args cargs v ws S one ht hr h => insP_sound sp B F H E nm args cargs v ws S one ht hr h, fun nm G G' args v ws h hn e => insP_tame esz by_ nm G G' args v ws h hn e⟩

def memoL (K : List V → Option V) : PrimL := fun _ _ args => match K args with
  | some v => some (v, [])
  | none => none
theorem memo_ok {P : Program} {f : FuncId} {K : List V → Option V} (hK : ∀ xs y, K xs = some y → pureL xs = true ∧ Ans P f xs y) : PrimOk P f (memoL K) where
  sound := fun B F H E nm args cargs v ws S one ht hr h => by
    unfold memoL at h
    split at h
    case h_2 => cases h
    rename_i v' hv
    cases h
    obtain ⟨h1, h2⟩ := hK args v hv
    have key := h2.take S h1 hr
    rw [one] at key
    rcases key with ⟨u, w', h3, E', e1, e2, e3, e4⟩ | ⟨j, h3, h4⟩
    · exact .inl ⟨u, w', h3, E', e1, e2, e3, e4, one⟩
    · exact .inr ⟨j, h3, h4.mono fun e w' ⟨E', e1, e2, e3, e4⟩ => ⟨E', e1, e2, e3, e4, one⟩⟩
  tame := fun nm G G' args v ws h hn e => by
    refine ⟨e, fun x hx => ?_⟩
    unfold memoL at e
    split at e
    case h_2 => cases e
    cases e
    cases hx
def constK (R : V) : List V → Option V
  | [] => some R
  | _ => none
theorem const_ok {P : Program} {f : FuncId} {R : V} (h : Ans P f [] R) : PrimOk P f (memoL (constK R)) :=
  memo_ok fun xs y hxy => by
    cases xs with
    | nil => cases hxy; exact ⟨rfl, h⟩
    | cons x l => cases hxy

theorem ans_of_run {P : Program} {pol : Pol} (ok : Okay P pol) (hl : NoLoops pol) {m : Nat} {f : FuncId} {xs : List V} {y : V} (h : ansF (fcall P pol m (some f) xs ⟨0, .nil⟩) = some y) (hy : y.pure = true) : Ans P f xs y :=
  ans_of_fcall ok hl h hy
end Go.AM.BM
end
section
/- A row's closed facts, one by one: so that each is reckoned alone. -/
namespace Go
def jf1 (P : Program) (f : FuncId) (fn : Func) (s : ChangeSpec) (c : OpenClaim) : Bool := c.wf (OpenSpec.ofChange s)
def jf2 (P : Program) (f : FuncId) (fn : Func) (s : ChangeSpec) (c : OpenClaim) : Bool := laidOutB P
def jf3 (P : Program) (f : FuncId) (fn : Func) (s : ChangeSpec) (c : OpenClaim) : Bool := mapsRowed P
def jf4 (P : Program) (f : FuncId) (fn : Func) (s : ChangeSpec) (c : OpenClaim) : Bool := fn.params.all (P.readableRec ·)
def jf5 (P : Program) (f : FuncId) (fn : Func) (s : ChangeSpec) (c : OpenClaim) : Bool := namedTie P c.named s.vars
def jf6 (P : Program) (f : FuncId) (fn : Func) (s : ChangeSpec) (c : OpenClaim) : Bool := (c.stops == [])
def jf7 (P : Program) (f : FuncId) (fn : Func) (s : ChangeSpec) (c : OpenClaim) : Bool := (P.stops == [])
def jf8 (P : Program) (f : FuncId) (fn : Func) (s : ChangeSpec) (c : OpenClaim) : Bool := (c.knobs == [])
def jf9 (P : Program) (f : FuncId) (fn : Func) (s : ChangeSpec) (c : OpenClaim) : Bool := (P.stopKnobs == [])
def jf10 (P : Program) (f : FuncId) (fn : Func) (s : ChangeSpec) (c : OpenClaim) : Bool := (c.inPlace == P.inPlace f)
def jf11 (P : Program) (f : FuncId) (fn : Func) (s : ChangeSpec) (c : OpenClaim) : Bool := (c.unfollowed == P.unfollowed f)
def jf12 (P : Program) (f : FuncId) (fn : Func) (s : ChangeSpec) (c : OpenClaim) : Bool := (c.recurses == P.recurses f)
def jf13 (P : Program) (f : FuncId) (fn : Func) (s : ChangeSpec) (c : OpenClaim) : Bool := (c.named == P.varsNamed f)
def jf14 (P : Program) (f : FuncId) (fn : Func) (s : ChangeSpec) (c : OpenClaim) : Bool := (c.maps == (fn.params.toList ++ s.plain.varTypes P).any (P.mapsRec ·))
def jf15 (P : Program) (f : FuncId) (fn : Func) (s : ChangeSpec) (c : OpenClaim) : Bool := (c.ifaces == (fn.params.toList ++ s.plain.varTypes P).any (P.ifacesRec ·))
def jf16 (P : Program) (f : FuncId) (fn : Func) (s : ChangeSpec) (c : OpenClaim) : Bool := (c.mapsOut == P.mapsAmong fn.resultTypes.toList)
def jf17 (P : Program) (f : FuncId) (fn : Func) (s : ChangeSpec) (c : OpenClaim) : Bool := (c.loops == (fn.params.toList ++ s.plain.varTypes P).any (P.loopsFrom ·))
def jf18 (P : Program) (f : FuncId) (fn : Func) (s : ChangeSpec) (c : OpenClaim) : Bool := (c.wideKeys == (fn.params.toList ++ s.plain.varTypes P ++ fn.resultTypes.toList).any (P.wideKeysFrom ·))
def jf19 (P : Program) (f : FuncId) (fn : Func) (s : ChangeSpec) (c : OpenClaim) : Bool := s.vars.all (P.varReadable ·)
def jf20 (P : Program) (f : FuncId) (fn : Func) (s : ChangeSpec) (c : OpenClaim) : Bool := fn.resultTypes.all (fun t => P.readableRec t && decide (t < P.types.size))
def jf21 (P : Program) (f : FuncId) (fn : Func) (s : ChangeSpec) (c : OpenClaim) : Bool := (c.ifacesOut == fn.resultTypes.toList.any (P.ifacesRec ·))
def jf22 (P : Program) (f : FuncId) (fn : Func) (s : ChangeSpec) (c : OpenClaim) : Bool := (c.loopsOut == fn.resultTypes.toList.any (P.loopsFrom ·))
def jf23 (P : Program) (f : FuncId) (fn : Func) (s : ChangeSpec) (c : OpenClaim) : Bool := (c.plainKeys == P.plainKeys)
def jf24 (P : Program) (f : FuncId) (fn : Func) (s : ChangeSpec) (c : OpenClaim) : Bool := c.shortTexts.isNone
def jf25 (P : Program) (f : FuncId) (fn : Func) (s : ChangeSpec) (c : OpenClaim) : Bool := P.stopsHeard
def jf26 (P : Program) (f : FuncId) (fn : Func) (s : ChangeSpec) (c : OpenClaim) : Bool := P.mayEnter
def jf27 (P : Program) (f : FuncId) (fn : Func) (s : ChangeSpec) (c : OpenClaim) : Bool := (c.lifted == P.liftsFinal)
def jf28 (P : Program) (f : FuncId) (fn : Func) (s : ChangeSpec) (c : OpenClaim) : Bool := (P.make == some c.make)
def jf29 (P : Program) (f : FuncId) (fn : Func) (s : ChangeSpec) (c : OpenClaim) : Bool := (c.kinds == (if c.domain.isEmpty then [] else fn.params.toList.map fun t => match P.underlying t with | some (.int k) => some k | _ => none))
def jf30 (P : Program) (f : FuncId) (fn : Func) (s : ChangeSpec) (c : OpenClaim) : Bool := (c.pinned == c.pinnedBy)
def jf31 (P : Program) (f : FuncId) (fn : Func) (s : ChangeSpec) (c : OpenClaim) : Bool := (c.veiled == (fn.params.toList ++ s.plain.varTypes P ++ fn.resultTypes.toList).any (P.veiledRec ·))
def jf32 (P : Program) (f : FuncId) (fn : Func) (s : ChangeSpec) (c : OpenClaim) : Bool := c.veiledFits P fn.params.toList (fn.params.toList ++ s.plain.varTypes P ++ fn.resultTypes.toList)
set_option linter.unusedVariables false in
theorem joined_of {P : Program} {f : FuncId} {fn : Func} {s : ChangeSpec} {c : OpenClaim} (h1 : jf1 P f fn s c = true) (h2 : jf2 P f fn s c = true) (h3 : jf3 P f fn s c = true) (h4 : jf4 P f fn s c = true) (h5 : jf5 P f fn s c = true) (h6 : jf6 P f fn s c = true) (h7 : jf7 P f fn s c = true) (h8 : jf8 P f fn s c = true) (h9 : jf9 P f fn s c = true) (h10 : jf10 P f fn s c = true) (h11 : jf11 P f fn s c = true) (h12 : jf12 P f fn s c = true) (h13 : jf13 P f fn s c = true) (h14 : jf14 P f fn s c = true) (h15 : jf15 P f fn s c = true) (h16 : jf16 P f fn s c = true) (h17 : jf17 P f fn s c = true) (h18 : jf18 P f fn s c = true) (h19 : jf19 P f fn s c = true) (h20 : jf20 P f fn s c = true) (h21 : jf21 P f fn s c = true) (h22 : jf22 P f fn s c = true) (h23 : jf23 P f fn s c = true) (h24 : jf24 P f fn s c = true) (h25 : jf25 P f fn s c = true) (h26 : jf26 P f fn s c = true) (h27 : jf27 P f fn s c = true) (h28 : jf28 P f fn s c = true) (h29 : jf29 P f fn s c = true) (h30 : jf30 P f fn s c = true) (h31 : jf31 P f fn s c = true) (h32 : jf32 P f fn s c = true) : joinedFacts P f fn s c = true := by
  unfold joinedFacts
  simp only [Bool.and_eq_true]
  refine ⟨⟨⟨⟨⟨⟨⟨⟨⟨⟨⟨⟨⟨⟨⟨⟨⟨⟨⟨⟨⟨⟨⟨⟨⟨⟨⟨⟨⟨⟨⟨h1, h2⟩, h3⟩, h4⟩, h5⟩, h6⟩, h7⟩, h8⟩, h9⟩, h10⟩, h11⟩, h12⟩, h13⟩, h14⟩, h15⟩, h16⟩, h17⟩, h18⟩, h19⟩, h20⟩, h21⟩, h22⟩, h23⟩, h24⟩, h25⟩, h26⟩, h27⟩, h28⟩, h29⟩, h30⟩, h31⟩, h32⟩
end Go
end
