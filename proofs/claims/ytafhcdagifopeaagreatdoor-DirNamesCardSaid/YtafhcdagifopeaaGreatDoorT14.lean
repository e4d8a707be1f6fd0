/- This file holds in one the texts An22, An17; each says at its head what it proves. -/
import Derived.Test.YtafhcdagifopeaaGreatDoorT13
import Derived.RangeFuncRecord
import Derived.RangeFuncCalls
import Derived.OrdersIn
import Derived.RangeFuncNested
set_option linter.unusedSimpArgs false
set_option linter.unusedVariables false
section
/- The abstract machine, part 22: a region that draws its order, in whatever order. -/
namespace Go.AM

def drawOk (ops : Array Oper) : Bool :=
  (List.range ops.size).all fun i =>
    ((ops.getD i default).after.all fun e => !Region.binds .any e || decide (e.on < i)) &&
    (List.range i).all fun j => ((Region.before ops).getD i 0).testBit j || apartO ops (ops.getD j default) (ops.getD i default)

section
variable {P : Program} {pol : Pol} {C : Call} {fn fr : Nat} {ops : Array Oper} {T : List FP}

theorem okT_spec {bef : Array Nat} : ∀ {l : List (FP × Nat)}, okT bef l = true → ∀ {l1 l2 : List (FP × Nat)} {a b : FP} {i j : Nat}, l = l1 ++ (a, i) :: l2 → (b, j) ∈ l2 →
    (bef.getD j 0).testBit i = true ∨ a.indep b = true
  | [], _, l1, l2, a, b, i, j, h, _ => by simp at h
  | (c, k) :: r, h, l1, l2, a, b, i, j, he, hm => by
    simp only [okT, Bool.and_eq_true, List.all_eq_true] at h
    cases l1 with
    | nil =>
      simp only [List.nil_append, List.cons.injEq, Prod.mk.injEq] at he
      obtain ⟨⟨rfl, rfl⟩, rfl⟩ := he
      have := h.1 (b, j) hm
      simpa using this
    | cons x l1 =>
      simp only [List.cons_append, List.cons.injEq] at he
      exact okT_spec h.2 he.2 hm

theorem loud_spec {bef : Array Nat} (h : okT bef (loud T) = true) {i j : Nat} (hij : i < j) (hj : j < T.length) :
    (bef.getD j 0).testBit i = true ∨ (T.getD i .all).indep (T.getD j .all) = true := by
  have hi : i < T.length := Nat.lt_trans hij hj
  have ei : T.getD i .all = T[i] := by simp [List.getD, hi]
  have ej : T.getD j .all = T[j] := by simp [List.getD, hj]
  rw [ei, ej]
  by_cases qi : T[i] = .quiet
  · right; rw [qi]; cases T[j] <;> rfl
  by_cases qj : T[j] = .quiet
  · right; rw [qj]; cases T[i] <;> rfl
  have hsplit : T.zipIdx = (T.zipIdx.take i) ++ (T[i], i) :: T.zipIdx.drop (i + 1) := by
    have hl : i < T.zipIdx.length := by simpa using hi
    have e : T.zipIdx[i] = (T[i], i) := by simp
    rw [← e, List.getElem_cons_drop]
    exact (List.take_append_drop _ _).symm
  have e : loud T = (T.zipIdx.take i).filter (fun x => x.1.loud) ++ (T[i], i) :: (T.zipIdx.drop (i + 1)).filter (fun x => x.1.loud) := by
    unfold loud
    conv => lhs; rw [hsplit]
    rw [List.filter_append, List.filter_cons]
    have : (T[i], i).1.loud = true := by
      simp only
      cases hq : T[i] <;> first | exact absurd hq qi | rfl
    rw [if_pos this]
  refine okT_spec h e ?_
  rw [List.mem_filter]
  constructor
  · rw [List.mem_iff_getElem?]
    refine ⟨j - (i + 1), ?_⟩
    rw [List.getElem?_drop]
    have : i + 1 + (j - (i + 1)) = j := by omega
    rw [this]
    simp [hj]
  · simp only
    cases hq : T[j] <;> first | exact absurd hq qj | rfl

theorem drawOk_spec (h : drawOk ops = true) : ∀ i, i < ops.size → (∀ e ∈ (ops.getD i default).after, Region.binds .any e = true → e.on < i) ∧
    ∀ j, j < i → ((Region.before ops).getD i 0).testBit j = true ∨ apartO ops (ops.getD j default) (ops.getD i default) = true := by
  simp only [drawOk, Bool.and_eq_true, List.all_eq_true, List.mem_range, Bool.or_eq_true] at h
  intro i hi
  obtain ⟨h1, h2⟩ := h i hi
  refine ⟨fun e he hbd => ?_, h2⟩
  have h3 := Array.all_eq_true_iff_forall_mem.1 h1 e he
  simpa [hbd] using h3

def todo (n : Nat) (listed : Array Bool) : List Nat := (List.range n).filter fun i => !listed.getD i true

theorem todo_set {n i : Nat} {listed : Array Bool} (hn : listed.size = n) (hi : i < n) (hu : listed.getD i true = false) :
    todo n listed = (List.range i).filter (fun k => !listed.getD k true) ++ i :: ((List.range' (i + 1) (n - (i + 1))).filter fun k => !listed.getD k true) ∧
    todo n (listed.setIfInBounds i true) = (List.range i).filter (fun k => !listed.getD k true) ++ ((List.range' (i + 1) (n - (i + 1))).filter fun k => !listed.getD k true) := by
  have hr : List.range n = List.range i ++ i :: List.range' (i + 1) (n - (i + 1)) := by
    have e : n = i + (n - i) := by omega
    have e2 : n - i = (n - (i + 1)) + 1 := by omega
    conv => lhs; rw [e, List.range_eq_range', ← List.range'_append_1]
    rw [← List.range_eq_range', Nat.zero_add, e2, List.range'_succ]
  have hset : ∀ k, k ≠ i → (listed.setIfInBounds i true).getD k true = listed.getD k true := by
    intro k hk
    simp only [Array.getD_eq_getD_getElem?]
    rw [Array.getElem?_setIfInBounds_ne (fun e => hk e.symm)]
  have hseti : (listed.setIfInBounds i true).getD i true = true := by
    simp [Array.getD_eq_getD_getElem?, hn, hi]
  constructor
  · unfold todo
    rw [hr, List.filter_append, List.filter_cons, hu]
    rfl
  · unfold todo
    rw [hr, List.filter_append, List.filter_cons, hseti]
    simp only [Bool.not_true, Bool.false_eq_true, if_false]
    congr 1
    · refine List.filter_congr fun k hk => ?_
      rw [hset k (by have := List.mem_range.1 hk; omega)]
    · refine List.filter_congr fun k hk => ?_
      rw [hset k (by have := (List.mem_range'_1.1 hk).1; omega)]

def Closed (ops : Array Oper) (listed : Array Bool) : Prop := ∀ i j, i < ops.size → listed.getD i false = true → ((Region.before ops).getD i 0).testBit j = true → listed.getD j false = true

theorem linearise_go (h : drawOk ops = true) (hT : T.length = ops.size) (hok : okT (Region.before ops) (loud T) = true) {res : List V × Heap} :
    ∀ (fuel tp : Nat) (listed : Array Bool) (acc : List Nat) (t : List V) (H : Heap), listed.size = ops.size → Closed ops listed → (todo ops.size listed).length = fuel →
      runT P pol C fn fr ops T (todo ops.size listed) t H = some res →
      ∃ L, Region.linearise.go .any ops fuel tp listed acc = acc.reverse ++ L ∧ runT P pol C fn fr ops T L t H = some res := by
  have hsp := drawOk_spec h
  intro fuel
  induction fuel with
  | zero =>
    intro tp listed acc t H _ _ hl hr
    have : todo ops.size listed = [] := List.length_eq_zero_iff.1 hl
    rw [this] at hr
    exact ⟨[], by simp [Region.linearise.go], hr⟩
  | succ fuel ih =>
    intro tp listed acc t H hsz hcl hl hr
    simp only [Region.linearise.go]
    generalize hrs : (List.range ops.size).filter (fun i => !listed.getD i true && ((ops[i]?).map (·.after.all fun e => !Region.binds .any e || listed.getD e.on false)).getD false) = rs
    -- the first that is not listed is ready
    obtain ⟨m, hm, hmin⟩ : ∃ m, m ∈ todo ops.size listed ∧ ∀ k ∈ todo ops.size listed, m ≤ k := by
      cases htd : todo ops.size listed with
      | nil => rw [htd] at hl; cases hl
      | cons m r =>
        refine ⟨m, by simp, fun k hk => ?_⟩
        have hp : (todo ops.size listed).Pairwise (· < ·) := List.Pairwise.filter _ List.pairwise_lt_range
        rw [htd] at hp
        rcases List.mem_cons.1 hk with rfl | hk
        · exact Nat.le_refl _
        · exact Nat.le_of_lt ((List.pairwise_cons.1 hp).1 k hk)
    have hm' := hm
    simp only [todo, List.mem_filter, List.mem_range, Bool.not_eq_true'] at hm'
    have hrm : m ∈ rs := by
      rw [← hrs, List.mem_filter]
      refine ⟨List.mem_range.2 hm'.1, ?_⟩
      have eo : ops[m]? = some (ops.getD m default) := by simp [Array.getD, hm'.1]
      simp only [hm'.2, Bool.not_false, Bool.true_and, eo, Option.map_some, Option.getD_some]
      rw [Array.all_eq_true_iff_forall_mem]
      intro e he
      cases hbd : Region.binds .any e with
      | false => rfl
      | true =>
      have hlt := (hsp m hm'.1).1 e he hbd
      simp only [Bool.not_true, Bool.false_or]
      have hon : e.on < ops.size := Nat.lt_trans hlt hm'.1
      cases hb : listed.getD e.on false with
      | true => rfl
      | false =>
        have : e.on ∈ todo ops.size listed := by
          simp only [todo, List.mem_filter, List.mem_range, Bool.not_eq_true']
          refine ⟨hon, ?_⟩
          simp only [Array.getD, hsz, hon, dif_pos] at hb ⊢
          exact hb
        have := hmin _ this
        omega
    have hpos : 0 < rs.length := List.length_pos_of_mem hrm
    have hlt : tp % rs.length < rs.length := Nat.mod_lt _ hpos
    rw [List.getElem?_eq_getElem hlt]
    generalize hi : rs[tp % rs.length] = i
    have hir : i ∈ rs := by rw [← hi]; exact List.getElem_mem hlt
    rw [← hrs, List.mem_filter] at hir
    obtain ⟨hin, hir⟩ := hir
    have hin := List.mem_range.1 hin
    simp only [Bool.and_eq_true, Bool.not_eq_true'] at hir
    obtain ⟨hu, hir⟩ := hir
    have eo : ops[i]? = some (ops.getD i default) := by simp [Array.getD, hin]
    simp only [eo, Option.map_some, Option.getD_some] at hir
    rw [Array.all_eq_true_iff_forall_mem] at hir
    have hbefore : ∀ j, ((Region.before ops).getD i 0).testBit j = true → listed.getD j false = true := by
      intro j hb
      obtain ⟨e, he, hbd, hor⟩ := (before_spec ops).2 i _ j eo hb
      have := hir e he
      simp only [hbd, Bool.not_true, Bool.false_or] at this
      rcases hor with rfl | hor
      · exact this
      · exact hcl e.on j (Nat.lt_trans ((hsp i hin).1 e he hbd) hin) this hor
    obtain ⟨e1, e2⟩ := todo_set hsz hin hu
    rw [e1] at hr
    have hb := runT_bubble hin _ t H (fun j hj => by
      rw [List.mem_filter] at hj
      have hjl := List.mem_range.1 hj.1
      have hjn : j < ops.size := Nat.lt_trans hjl hin
      have hnb : ((Region.before ops).getD i 0).testBit j ≠ true := by
        intro hb
        have := hbefore j hb
        have hj2 := hj.2
        simp only [Array.getD, hsz, hjn, dif_pos, Bool.not_eq_true'] at this hj2
        rw [this] at hj2; cases hj2
      refine ⟨hjn, ?_, ?_⟩
      · exact ((hsp i hin).2 j hjl).resolve_left hnb
      · exact (loud_spec hok hjl (by rw [hT]; exact hin)).resolve_left hnb) hr
    simp only [runT] at hb
    cases hst : stepT P pol C fn fr ops T i t H with
    | none => rw [hst] at hb; cases hb
    | some x =>
      obtain ⟨t1, H1⟩ := x
      rw [hst] at hb
      simp only at hb
      rw [← e2] at hb
      have hgs : ∀ k, (listed.setIfInBounds i true).getD k false = true ↔ (k = i ∨ listed.getD k false = true) := by
        intro k
        by_cases hk : k = i
        · subst hk; simp [Array.getD_eq_getD_getElem?, hsz, hin]
        · simp only [hk, false_or, Array.getD_eq_getD_getElem?]
          rw [Array.getElem?_setIfInBounds_ne (fun e => hk e.symm)]
      obtain ⟨L, g1, g2⟩ := ih (tp / rs.length) (listed.setIfInBounds i true) (i :: acc) t1 H1 (by simpa using hsz) (by
        intro k j hk hkl hkb
        rw [hgs] at hkl ⊢
        rcases hkl with hki | hkl
        · rw [hki] at hkb; exact .inr (hbefore j hkb)
        · exact .inr (hcl k j hk hkl hkb)) (by
        have hl1 := hl
        rw [e1] at hl1
        rw [e2]
        simp only [List.length_append, List.length_cons] at hl1 ⊢
        omega) hb
      refine ⟨i :: L, ?_, ?_⟩
      · simpa using g1
      · simp only [runT, hst]; exact g2

theorem linearise_runT (h : drawOk ops = true) (hT : T.length = ops.size) (hok : okT (Region.before ops) (loud T) = true) {res : List V × Heap} {t : List V} {H : Heap}
    (hr : runT P pol C fn fr ops T (List.range ops.size) t H = some res) {m : Bool} (hm : m = true) (tp : Nat) : runT P pol C fn fr ops T (Region.schedule m ops tp) t H = some res := by
  subst hm
  have e0 : todo ops.size (Array.replicate ops.size false) = List.range ops.size := by
    unfold todo
    rw [List.filter_eq_self]
    intro k hk
    have := List.mem_range.1 hk
    simp [Array.getD, this]
  obtain ⟨L, g1, g2⟩ := linearise_go (P := P) (pol := pol) (C := C) (fn := fn) (fr := fr) h hT hok ops.size tp (Array.replicate ops.size false) [] t H (by simp) (by
    intro i j hi hl
    simp [Array.getD] at hl) (by rw [e0]; simp) (by rw [e0]; exact hr)
  have : Region.schedule true ops tp = L := by
    simp only [Region.schedule, Bool.true_or, if_true, Region.linearise]
    simpa using g1
  rw [this]; exact g2

theorem runOpsT_runT : ∀ (l pre : List Oper) (T0 : List FP) (t : List V) (H : Heap) (t' : List V) (H' : Heap) (T1 : List FP), ops.toList = pre ++ l → T0.length = pre.length →
    runOpsT P pol C fn fr ops l t H = some (t', H', T1) → T1.length = l.length ∧ runT P pol C fn fr ops (T0 ++ T1) (List.range' pre.length l.length) t H = some (t', H')
  | [], pre, T0, t, H, t', H', T1, _, _, h => by cases h; exact ⟨rfl, rfl⟩
  | o :: l, pre, T0, t, H, t', H', T1, he, hl, h => by
    have ho : ops[pre.length]? = some o := by
      have : ops.toList[pre.length]? = some o := by rw [he]; simp
      simpa using this
    have he' : ops.toList = (pre ++ [o]) ++ l := by rw [he]; simp
    have main : ∀ (fp : FP) (t1 : List V) (H1 : Heap), (∀ T2 : List FP, stepT P pol C fn fr ops (T0 ++ fp :: T2) pre.length t H = some (t1, H1)) →
        (match runOpsT P pol C fn fr ops l t1 H1 with
        | some (t', H', T) => some (t', H', fp :: T)
        | none => none) = some (t', H', T1) → T1.length = (o :: l).length ∧ runT P pol C fn fr ops (T0 ++ T1) (List.range' pre.length (o :: l).length) t H = some (t', H') := by
      intro fp t1 H1 hst hm
      split at hm
      case h_2 => cases hm
      rename_i t2 H2 T2 hrun
      cases hm
      obtain ⟨g1, g2⟩ := runOpsT_runT l (pre ++ [o]) (T0 ++ [fp]) t1 H1 _ _ _ he' (by simp [hl]) hrun
      refine ⟨by simp [g1], ?_⟩
      simp only [List.length_cons, List.range'_succ, runT, hst]
      simpa using g2
    have hget : ∀ (fp : FP) (T2 : List FP), (T0 ++ fp :: T2).getD pre.length .all = fp := by
      intro fp T2; simp [List.getD, ← hl]
    simp only [runOpsT] at h
    split at h
    · cases h
    · rename_i hw
      refine main .quiet (putT t o.dst nov) H (fun T2 => ?_) h
      simp only [stepT, ho, hw, hget, if_true]
    · rename_i hw
      split at h
      case h_2 => cases h
      rename_i t1 H1 hop
      refine main (fpOf P pol fn fr t H o) t1 H1 (fun T2 => ?_) h
      simp only [stepT, ho, hw, hget, if_true, hop]

end
end Go.AM
end
section
/- The abstract machine, part 17: regions, code and calls do what the model's do. -/
namespace Go.AM

def ExRel (E : Env) : Ex → Exit → Prop
  | .normal, e => e = .normal
  | .exit i, e => e = .exit i
  | .ret, e => e = .ret
  | .panic v, e => ∃ c, e = .panic [{ v := c, recovered := false }] ∧ Rel E v c

def RtRel (E : Env) : Rt → Ending → Prop
  | .ret v, e => ∃ c, e = .returned c ∧ Rel E v c
  | .pan v, e => ∃ c, e = .panicked [{ v := c, recovered := false }] ∧ Rel E v c

def Invokes (P : Program) (f : FuncId) (args : Array Value) (w : World) (R : Ending → World → Prop) : Prop :=
  (∃ v w', (callFunc f args).run P w = .ok (.value v) w' ∧ R (.returned v) w') ∨ (∃ j, (callFunc f args).run P w = .ok (.enter j args) w ∧ Calls P j args w R)

def Answer (B : Nat) (F : Nat → Nat → Prop) (H : Heap) (E : Env) (r : Rt) (H' : Heap) (e : Ending) (w' : World) : Prop :=
  ∃ E', E'.w = w' ∧ RtRel E' r e ∧ Sim B F H' E' ∧ Ext H.length B E E' ∧ H.length ≤ H'.length

abbrev G (ro : Option Nat) : Fence := { Fence.wide with round := ro }

def CSound (P : Program) (C : Call) : Prop :=
  (∀ (f : FuncId) args H r H', C (some f) args H = some (r, H') → (∃ (F : Func) (c : Code), P.funcs[f]? = some F ∧ F.body = some c) ∧
    ∀ B F E cargs, Sim B F H E → E.tab = loopAt P → RelL E args cargs → Calls P f ⟨cargs⟩ E.w (Answer B F H E r H')) ∧
  (∀ fo so rest H r H', C none (.yield fo so :: rest) H = some (r, H') → ∀ B F E b cargs (n : Nat), Sim B F H E → E.tab = loopAt P → E.mu fo so = some b → RelL E rest cargs →
    ∃ rec : Loop, E.w.heap[b]? = some (.loop rec) ∧ cargs.length = rec.params.size ∧
      RoundIn Fence.wide n P b rec.fn ((rec.params.zip (⟨cargs⟩ : Array Value)).foldl (fun tmps (t, a) => tmps.setIfInBounds t a) rec.tmps) rec.assign rec.body E.w (Answer B F H E r H'))

def flatC : Code → Bool
  | .seq a b | .cond _ a b => flatC a && flatC b
  | .block _ b | .loop b | .scope b => flatC b
  | .rangeFunc _ _ a b => (loopIds a).isEmpty && (loopIds b).isEmpty
  | _ => true

def drawsC : Code → Bool
  | .region _ ops draw => !draw || drawOk ops
  | .seq a b | .cond _ a b | .rangeFunc _ _ a b => drawsC a && drawsC b
  | .block _ b | .loop b | .scope b => drawsC b
  | _ => true

structure Okay (P : Program) (pol : Pol) : Prop where
  mixed : P.follows .mixedOrders = true
  draws : ∀ (f : FuncId) (F : Func) (c : Code), P.funcs[f]? = some F → F.body = some c → drawsC c = true
  loops : ∀ (f : FuncId) (F : Func) (c : Code), P.funcs[f]? = some F → F.body = some c → (loopIds c).Nodup ∧ flatC c = true
  num : ∀ (f : FuncId) (F : Func), P.funcs[f]? = some F → F.body.isSome = true → (F.name == "runtime.NumGoroutine") = false
  prim : ∀ f g, pol.prim f = some g → ∀ B F H E fr dst args cargs v x, Sim B F H E → fr < H.length → RelL E args cargs → g fr dst (hget H) args = some (v, x) →
    Invokes P f ⟨cargs⟩ E.w (Answer B F H E (.ret v) (wr H x))

section
variable {P : Program} {pol : Pol} {C : Call} {B : Nat} {F : Nat → Nat → Prop} {fn fr N : Nat} {ro : Option Nat} {dp : Nat}

theorem Invokes.mono {f : FuncId} {args : Array Value} {w : World} {R R' : Ending → World → Prop} (h : Invokes P f args w R) (hr : ∀ e w', R e w' → R' e w') : Invokes P f args w R' := by
  rcases h with ⟨v, w', h1, h2⟩ | ⟨j, h1, h2⟩
  · exact .inl ⟨v, w', h1, hr _ _ h2⟩
  · exact .inr ⟨j, h1, h2.mono hr⟩

theorem Okay.invokes (ok : Okay P pol) {f : FuncId} {args : Array Value} {w : World} {R : Ending → World → Prop} (hf : ∃ (F : Func) (c : Code), P.funcs[f]? = some F ∧ F.body = some c) (h : Calls P f args w R) : Invokes P f args w R := by
  obtain ⟨Fn, c, h1, h2⟩ := hf
  refine .inr ⟨f, ?_, h⟩
  have := ok.num f Fn h1 (by rw [h2]; rfl)
  simp only [callFunc, Sem.run_bind, run_program, Result.andThen_ok, h1, this, Bool.false_eq_true, if_false, h2, Option.isNone_some, Sem.run_pure]

theorem wr_length (H : Heap) (w : Option (Nat × Nat × O)) : (wr H w).length = H.length := by
  cases w with
  | none => rfl
  | some x => obtain ⟨f, s, o⟩ := x; exact hset_length H f s o

theorem Sim.adoptMap {E : Env} {H : Heap} (S : Sim B F H E) {f0 s0 : Nat} (hf : f0 < H.length) (hn : hget H f0 s0 = none) {b clk : Nat} {ces : Array MapEntry} (hb : E.w.heap[b]? = some (.map ces clk)) (hB : B ≤ b)
    (hfree : ∀ f s o, hget H f s = some o → blk E f s o ≠ some b) {es : List (V × V)} (hr : RelM E es ces.toList) :
    Ext H.length B E { E with mu := upd E.mu f0 s0 (some b) } ∧ Sim B F (hset H f0 s0 (.map es (ces.toList.map (·.born)) clk)) { E with mu := upd E.mu f0 s0 (some b) } := by
  have hmn := S.mu_none hn
  have X : Ext H.length B E { E with mu := upd E.mu f0 s0 (some b) } := by
    refine ⟨Nat.le_refl _, fun _ _ _ h => h, fun _ _ _ _ h => h, fun _ _ _ _ h => h, ?_, fun f s n b lo hi _ _ h => ⟨n, b, lo, hi, h, .inr ⟨rfl, rfl, rfl, rfl⟩⟩, fun _ _ => rfl, ⟨rfl, rfl, rfl⟩, rfl, fun _ h => h⟩
    intro f s b' _ h
    by_cases e : f = f0 ∧ s = s0
    · rw [e.1, e.2, hmn] at h; cases h
    · exact (upd_other _ _ e).trans h
  refine ⟨X, S.step f0 s0 _ hf X (fun f s e => upd_other _ _ e) (by simp [upd_same]) (fun f s e => rfl) ?_ ?_ ?_ ?_ ?_ ?_⟩
  · intro n x h
    have := S.reg_none hn
    simp only at h
    rw [this] at h; cases h
  · exact fun f s o b e ho hb => ⟨rfl, fun i h => h⟩
  · exact fun b i h => S.fmod b i h
  · exact fun b i h => S.modsz b i h
  · exact ⟨b, ces, upd_same _ _ _ _, hB, hb, RelM.mono X S.lt _ _ hr, rfl⟩
  · intro f s o b' e ho hb' h
    simp only [blk, upd_same, Option.some.injEq] at h
    subst h
    exact hfree f s o ho hb'

theorem frzM_sound {f : V → Option V} {E E' : Env} (hf : ∀ x y v, f x = some y → Rel E x v → Rel E' y v) : ∀ (es es' : List (V × V)) (ces : List MapEntry), frzM f es = some es' → RelM E es ces → RelM E' es' ces
  | [], es', ces, h, r => by cases h; exact r
  | (k, x) :: es, es', ces, h, r => by
    obtain ⟨e, r', rfl, h1, h2, h3⟩ := r
    simp only [frzM] at h
    split at h
    · rename_i k' x' q q1 q2 q3
      cases h
      exact ⟨e, r', rfl, hf _ _ _ q1 h1, hf _ _ _ q2 h2, frzM_sound hf es q r' q3 h3⟩
    · cases h

theorem Sim.lift {E E1 : Env} {H H1 : Heap} {k : Nat} (S : Sim B F H E) (S1 : Sim E.w.heap.size E.mod H1 E1) (X1 : Ext k E.w.heap.size (AM.bare E.tab E.w E.mod) E1) (hlt : fr < H.length) {dst : Option Nat} {v : V} {x : V × Nat × O} (h : liftV H1 fr dst H v = some x)
    {c : Value} (hc : Rel E1 v c) : ∃ E2, E2.w = E1.w ∧ Ext H.length B E E2 ∧ Sim B F (wr H (some (fr, x.2.1, x.2.2))) E2 ∧ Rel E2 x.1 c := by
  unfold liftV at h
  split at h
  case h_3 => cases h
  case h_2 =>
    rename_i f s o len cap esz d
    split at h
    case h_2 => cases h
    rename_i xs hn hm
    split at h
    case isFalse => cases h
    rename_i hp
    cases h
    simp only [Rel] at hc
    obtain ⟨b, c', T', n', hmu, rfl, h1, h2, h3, h4, h5⟩ := hc
    obtain ⟨b', c, T, vs, rest, g1, g2, g3, g4, g5, g6, g7⟩ := S1.obj f s _ hm
    rw [hmu] at g1; cases g1
    have hM1 : ∀ b' i, (E.mod b' i ∨ b' = b) → E1.mod b' i := by
      rintro b' i (h | rfl)
      · exact S1.fmod b' i h
      · exact g6 i
    have hmn := S.mu_none hn
    have hlt' : ∀ b' i v, E.w.cell? ⟨b', i, none⟩ = some v → b' < E.w.heap.size := by
      intro b' i v hcell
      rcases Nat.lt_or_ge b' E.w.heap.size with h | h
      · exact h
      · have : E.w.heap[b']? = none := Array.getElem?_eq_none h
        simp [World.cell?, this] at hcell
    have X : Ext H.length B E { E with w := E1.w, mod := fun b' i => E.mod b' i ∨ b' = b, mu := upd E.mu fr d (some b) } := by
      refine ⟨X1.size, X1.shape, fun b i v hm h => X1.cell b i v hm h, ?_, ?_, fun f s n b lo hi _ _ h => ⟨n, b, lo, hi, h, .inr ⟨rfl, rfl, rfl, rfl⟩⟩, fun b hb => X1.old b (Nat.lt_of_lt_of_le hb S.bsz), X1.rest, rfl, X1.dfr⟩
      · rintro b' i v hcell hnm (h | rfl)
        · exact hnm h
        · have := hlt' _ _ _ hcell; omega
      · intro f s b' _ h
        by_cases e : f = fr ∧ s = d
        · rw [e.1, e.2, hmn] at h; cases h
        · exact (upd_other _ _ e).trans h
    refine ⟨{ E with w := E1.w, mod := fun b' i => E.mod b' i ∨ b' = b, mu := upd E.mu fr d (some b) }, rfl, X, S.step fr d _ hlt X (fun f s e => upd_other _ _ e) (by simp [upd_same]) (fun f s e => rfl) ?_ ?_ (fun b' i h => .inl (S.fmod b' i h)) ?_ ?_ ?_, ?_⟩
    · intro n x h
      have := S.reg_none hn
      simp only at h
      rw [this] at h; cases h
    · exact fun f s o b' e ho hb => ⟨X1.old b' (S.blk_lt ho hb), fun i h => .inl h⟩
    · rintro b' i (h | rfl)
      · exact Nat.lt_of_lt_of_le (S.modsz b' i h) X1.size
      · exact (Array.getElem?_eq_some_iff.1 g3).1
    · exact ⟨b, c, T, vs, rest, upd_same _ _ _ _, Nat.le_trans S.bsz g2, g3, g4, RelL.dress (E := AM.bare E1.tab E1.w (fun b' i => E.mod b' i ∨ b' = b)) (E' := { E with w := E1.w, mod := fun b' i => E.mod b' i ∨ b' = b, mu := upd E.mu fr d (some b) }) rfl rfl _ _ hp (RelL.bare hM1 _ _ hp g5), fun i => .inr rfl, g7⟩
    · intro f s o b' e ho hb' h
      simp only [blk, upd_same, Option.some.injEq] at h
      subst h
      have := S.blk_lt ho hb'
      omega
    · simp only [Rel]
      exact ⟨b, c', T', n', upd_same _ _ _ _, rfl, h1, h2, h3, h4, h5⟩
  rename_i f s d
  split at h
  case h_2 => cases h
  rename_i es bs clk hn hm
  cases hz : frzM (AM.frz (hget H1) depth) es with
  | none => rw [hz] at h; cases h
  | some es' =>
    rw [hz] at h; cases h
    obtain ⟨X, S'⟩ := S.behind X1
    simp only [Rel] at hc
    obtain ⟨b, hb, rfl⟩ := hc
    obtain ⟨b', ces, g1, g2, g3, g4, g5⟩ := S1.obj f s _ hm
    rw [hb] at g1; cases g1
    subst g5
    have hr : RelM { E with w := E1.w } es' ces.toList := frzM_sound (E := E1) (fun x y v hf hx => by
      obtain ⟨h1, h2⟩ := S1.frz hf hx
      exact Rel.dress (E := AM.bare E1.tab E1.w E.mod) (E' := { E with w := E1.w }) rfl rfl _ _ h2 h1) _ _ _ hz g4
    obtain ⟨X2, S2⟩ := S'.adoptMap hlt hn (b := b) g3 (Nat.le_trans S.bsz g2) (fun f s o ho hb' => by
      have hb2 : blk E f s o = some b := by cases o <;> exact hb'
      have := S.blk_lt ho hb2
      omega) hr
    refine ⟨{ E with w := E1.w, mu := upd E.mu fr d (some b) }, rfl, X.trans X2, S2, ?_⟩
    simp only [Rel]
    exact ⟨b, upd_same _ _ _ _, rfl⟩

theorem callOp_sound (ok : Okay P pol) (cs : CSound P C) {f : FuncId} {args : List V} {H H' : Heap} {r : Rt} {E : Env} {cargs : List Value}
    {dst : Option Nat} (h : callOp pol C fn fr dst f args H = some (r, H')) (S : Sim B F H E) (htab : E.tab = loopAt P) (hlt : fr < H.length) (hr : RelL E args cargs) : Invokes P f ⟨cargs⟩ E.w (Answer B F H E r H') := by
  unfold callOp at h
  split at h
  · rename_i g hg
    cases hq : g fr dst (hget H) args with
    | none => rw [hq] at h; cases h
    | some x => rw [hq] at h; cases h; exact ok.prim f g hg B F H E fr dst args cargs x.1 x.2 S hlt hr hq
  · split at h
    · split at h
      case h_2 => cases h
      rename_i ys hys
      obtain ⟨hr', _⟩ := strip_sound depth hys hr
      have main : ∀ (r0 : Rt) (H1 : Heap) (v v' : V) (mk : V → Rt), C f ys [] = some (r0, H1) → r0 = mk v → frz (hget H1) depth v = some v' → (mk = .ret ∨ mk = .pan) →
          Invokes P f ⟨cargs⟩ E.w (Answer B F H E (mk v') H) := by
        intro r0 H1 v v' mk hc hr0 hfz hmk
        obtain ⟨hbody, hall⟩ := cs.1 f ys [] r0 H1 hc
        have hcall := hall _ _ (bare E.tab E.w E.mod) cargs S.bare htab hr'
        refine ok.invokes hbody (hcall.mono ?_)
        rintro e w' ⟨E1, rfl, hrt, S1, X1, _⟩
        obtain ⟨X, S'⟩ := S.behind (E1 := E1) X1
        refine ⟨{ E with w := E1.w }, rfl, ?_, S', X, Nat.le_refl _⟩
        rcases hmk with rfl | rfl
        · subst hr0
          obtain ⟨c, he, hc⟩ := hrt
          obtain ⟨h1, h2⟩ := S1.frz hfz hc
          exact ⟨c, he, Rel.dress (E := bare E1.tab E1.w E.mod) (E' := { E with w := E1.w }) rfl rfl _ _ h2 h1⟩
        · subst hr0
          obtain ⟨c, he, hc⟩ := hrt
          obtain ⟨h1, h2⟩ := S1.frz hfz hc
          exact ⟨c, he, Rel.dress (E := bare E1.tab E1.w E.mod) (E' := { E with w := E1.w }) rfl rfl _ _ h2 h1⟩
      split at h
      · rename_i v H1 hc
        cases hq : frz (hget H1) depth v with
        | none => rw [hq] at h; cases h
        | some v' => rw [hq] at h; cases h; exact main _ H1 v v' .ret hc rfl hq (.inl rfl)
      · rename_i v H1 hc
        cases hq : frz (hget H1) depth v with
        | none => rw [hq] at h; cases h
        | some v' => rw [hq] at h; cases h; exact main _ H1 v v' .pan hc rfl hq (.inr rfl)
      · cases h
    · split at h
      · split at h
        case h_2 => cases h
        rename_i ys hys
        obtain ⟨hr', _⟩ := strip_sound depth hys hr
        split at h
        case h_2 => cases h
        rename_i v H1 hc
        cases hq : liftV H1 fr dst H v with
        | none => rw [hq] at h; cases h
        | some x =>
          rw [hq] at h; cases h
          obtain ⟨hbody, hall⟩ := cs.1 f ys [] _ H1 hc
          have hcall := hall _ _ (bare E.tab E.w E.mod) cargs S.bare htab hr'
          refine ok.invokes hbody (hcall.mono ?_)
          rintro e w' ⟨E1, rfl, ⟨c, rfl, hcv⟩, S1, X1, _⟩
          obtain ⟨E2, hw, X2, S2, hr2⟩ := S.lift S1 X1 hlt hq hcv
          exact ⟨E2, hw, ⟨c, rfl, hr2⟩, S2, X2, by rw [wr_length]; exact Nat.le_refl _⟩
      split at h
      · split at h
        case h_2 => cases h
        rename_i ys hys
        obtain ⟨hr', _⟩ := frzL_sound (E' := bare E.tab E.w F) (fun x y v hf hx => S.frz hf hx) _ _ _ hys hr
        split at h
        case h_2 => cases h
        rename_i v H1 hc
        cases hq : frzN (hget H1) depth v with
        | none => rw [hq] at h; cases h
        | some x =>
          rw [hq] at h; cases h
          obtain ⟨hbody, hall⟩ := cs.1 f ys [] _ H1 hc
          have hcall := hall _ _ (bare E.tab E.w F) cargs S.bareF htab hr'
          refine ok.invokes hbody (hcall.mono ?_)
          rintro e w' ⟨E1, rfl, ⟨c, rfl, hcv⟩, S1, X1, _⟩
          obtain ⟨X, S'⟩ := S.behindM S.fmod X1
          obtain ⟨h1, h2⟩ := S1.frzN (M := E.mod) S.modsz hq hcv
          exact ⟨{ E with w := E1.w }, rfl, ⟨c, rfl, Rel.dress (E := bare E1.tab E1.w E.mod) (E' := { E with w := E1.w }) rfl rfl _ _ h2 h1⟩, S', X, Nat.le_refl _⟩
      split at h
      case h_2 => cases h
      rename_i ys hys
      have hr' : RelL E ys cargs := by
        unfold thinArgs at hys
        split at hys
        · obtain ⟨h1, h2⟩ := strip_sound depth hys hr
          exact RelL.dress (E := bare E.tab E.w E.mod) (E' := E) rfl rfl _ _ h2 h1
        · cases hys; exact hr
      obtain ⟨hbody, hall⟩ := cs.1 f ys H r H' h
      exact ok.invokes hbody (hall B F E cargs S htab hr')

def Marks (N : Nat) (w : World) (ds : List Deferred) : Prop :=
  ∃ rs : List Nat, ds = rs.map (fun r => ({ target := .collected r, args := #[] } : Deferred)) ∧ rs.Nodup ∧ ∀ r ∈ rs, N ≤ r ∧ w.heap[r]? = some (Obj.deferred (some []))
theorem Marks.nil {N : Nat} {w : World} : Marks N w [] := ⟨[], rfl, List.nodup_nil, fun _ h => by cases h⟩
theorem Marks.on {N k B : Nat} {E E' : Env} {ds : List Deferred} (h : Marks N E.w ds) (X : Ext k B E E') : Marks N E'.w ds := by
  obtain ⟨rs, h1, h2, h3⟩ := h
  exact ⟨rs, h1, h2, fun r hr => ⟨(h3 r hr).1, X.dfr r (h3 r hr).2⟩⟩
structure St (B : Nat) (F : Nat → Nat → Prop) (fr N : Nat) (E : Env) (H : Heap) (t : List V) (a : Act) : Prop where
  sim : Sim B F H E
  lt : fr < H.length
  rel : RelL E t a.tmps.toList
  defers : Marks N E.w a.defers
  nsz : N ≤ E.w.heap.size

def XPost (B : Nat) (F : Nat → Nat → Prop) (fr N : Nat) (E0 : Env) (ex : Ex) (t' : List V) (H' : Heap) : Exit → Act → World → Prop :=
  fun e a' w' => ∃ E', E'.w = w' ∧ Ext fr B E0 E' ∧ St B F fr N E' H' t' a' ∧ ExRel E' ex e

theorem St.ρ {E : Env} {H : Heap} {t : List V} {a : Act} (s : St B F fr N E H t a) (x : Operand) : Rel E (rho t x) (a.eval x) := by
  cases x with
  | tmp i =>
    simp only [rho, Act.eval]
    cases hx : t[i]? with
    | none => simp [List.getD, hx, Rel]
    | some x =>
      obtain ⟨v, hv, hr⟩ := s.rel.get hx
      have : a.tmps[i]? = some v := by simpa using hv
      simpa [List.getD, hx, Array.getD_eq_getD_getElem?, this] using hr
  | const v => exact rel_ofConst E v
  | global g => simp [rho, Rel]
  | func f => simp only [rho, Act.eval, Rel]; exact ⟨[], [], rfl, .nil, .nil⟩

theorem St.put {E : Env} {H : Heap} {t : List V} {a : Act} (s : St B F fr N E H t a) (dst : Option Nat) {v : V} {c : Value} (h : Rel E v c) : St B F fr N E H (putT t dst v) (a.put dst c) := by
  cases dst with
  | none => exact s
  | some d =>
    refine ⟨s.sim, s.lt, ?_, s.defers, s.nsz⟩
    simp only [putT, Act.put]
    have := s.rel.set d h
    simpa using this

theorem St.on {E E' : Env} {H H' : Heap} {t : List V} {a : Act} (s : St B F fr N E H t a) (X : Ext H.length B E E') (S' : Sim B F H' E') (hl : H.length ≤ H'.length) : St B F fr N E' H' t a :=
  ⟨S', Nat.lt_of_lt_of_le s.lt hl, RelL.mono X s.sim.lt _ _ s.rel, s.defers.on X, Nat.le_trans s.nsz X.size⟩

theorem evOp_nodefer {mt : Nat → Bool} {g : Get} {r : Operand → V} {o : Oper} {st : Step} (h : evOp P mt fr g r o = some st) : ∀ c, o.op ≠ .defer c := by
  intro c e
  simp only [evOp, e] at h
  cases h
theorem wpIn_of {o : Oper} {a : Act} {w : World} {next : Act → World → Prop} {Q : Exit → Act → World → Prop} (hd : ∀ c, o.op ≠ .defer c) (h : o.uponIn (G ro) dp P a next Q ((execOp a.eval o).run P w)) : o.wpIn (G ro) dp P a w next Q :=
  ⟨fun _ _ => trivial, by rw [Oper.semAt_eq _ _ _ hd]; exact h⟩
theorem no_depth {n : Nat} : (G ro).depth.isSome = true → 1 ≤ n := fun h => by cases h

theorem opOne_sound (ok : Okay P pol) (cs : CSound P C) {t t' : List V} {H H' : Heap} {o : Oper} {ex : Ex} {E0 E : Env} {a : Act} (h : opOne P pol C fn fr t H o = some (ex, t', H'))
    (X0 : Ext fr B E0 E) (htab : E0.tab = loopAt P) (s : St B F fr N E H t a) {next : Act → World → Prop} {Q : Exit → Act → World → Prop}
    (hn : ex = .normal → ∀ a' E', Ext fr B E0 E' → St B F fr N E' H' t' a' → next a' E'.w)
    (hq : ex ≠ .normal → ∀ e a' w', XPost B F fr N E0 ex t' H' e a' w' → Q e a' w') : o.wpIn (G ro) dp P a E.w next Q := by
  have htab1 : E.tab = loopAt P := X0.tab.trans htab
  unfold opOne at h
  split at h
  · cases h
  · rename_i v w hev
    cases h
    have := evOp_sound s.sim s.lt (ρc := a.eval) s.ρ hev
    obtain ⟨E', cv, X, S', hr, hrun⟩ := this
    have s' := (s.on X S' (by rw [wr_length]; exact Nat.le_refl _)).put o.dst hr
    have X' := X0.trans (X.less (Nat.le_of_lt s.lt) (Nat.le_refl _))
    refine wpIn_of (evOp_nodefer hev) ?_
    rcases hrun with hrun | ⟨hrun, rfl⟩
    · rw [hrun]; exact hn rfl _ _ X' s'
    · rw [hrun]; exact hn rfl _ _ X' s'
  · rename_i v hev
    cases h
    obtain ⟨cv, hr, hrun⟩ := evOp_sound s.sim s.lt (ρc := a.eval) s.ρ hev
    refine wpIn_of (evOp_nodefer hev) ?_
    rw [hrun]
    exact hq (fun e => by cases e) _ _ _ ⟨E, rfl, X0, s, cv, rfl, hr⟩
  · rename_i f args hev
    obtain ⟨cargs, hr, hrun⟩ := evOp_sound s.sim s.lt (ρc := a.eval) s.ρ hev
    have main : ∀ r, callOp pol C fn fr o.dst f args H = some (r, H') → (∀ e w', Answer B F H E r H' e w' → (match e with
        | .returned v => next (a.put o.dst v) w'
        | .panicked chain => Q (.panic chain) a w'
        | .outgrown => False)) → o.wpIn (G ro) dp P a E.w next Q := by
      intro r hc hall
      refine wpIn_of (evOp_nodefer hev) ?_
      rw [hrun]
      rcases callOp_sound ok cs hc s.sim htab1 s.lt hr with ⟨v, w', h1, h2⟩ | ⟨j, h1, h2⟩
      · rw [h1]; exact hall _ _ h2
      · rw [h1]
        refine ⟨no_depth, (callsIn_wide (n := dp - 1)).2 ?_⟩
        refine h2.mono ?_
        intro e w' hA
        have := hall e w' hA
        cases e with
        | returned v => exact this
        | panicked chain => exact this
        | outgrown => exact this.elim
    split at h
    · rename_i v H1 hc
      cases h
      refine main _ hc ?_
      rintro e w' ⟨E', rfl, ⟨c, rfl, hcr⟩, S', X, hl⟩
      exact hn rfl _ _ (X0.trans (X.less (Nat.le_of_lt s.lt) (Nat.le_refl _))) ((s.on X S' hl).put o.dst hcr)
    · rename_i v H1 hc
      cases h
      refine main _ hc ?_
      rintro e w' ⟨E', rfl, ⟨c, rfl, hcr⟩, S', X, hl⟩
      exact hq (fun e => by cases e) _ _ _ ⟨E', rfl, X0.trans (X.less (Nat.le_of_lt s.lt) (Nat.le_refl _)), s.on X S' hl, c, rfl, hcr⟩
    · cases h
  · rename_i fo so args hev
    obtain ⟨b, cargs, hb, hr, hrun⟩ := evOp_sound s.sim s.lt (ρc := a.eval) s.ρ hev
    split at h
    case h_2 => cases h
    rename_i v H1 hc
    cases h
    obtain ⟨rec, h1, h2, h3⟩ := cs.2 fo so args H _ _ hc B F E b cargs (dp - 1) s.sim htab1 hb hr
    refine wpIn_of (evOp_nodefer hev) ?_
    rw [hrun, run_yield h1 (by simpa using h2)]
    refine ⟨no_depth, RoundIn.mono (F := G ro) h3 ?_⟩
    rintro e w' ⟨E', rfl, ⟨c, rfl, hcr⟩, S', X, hl⟩
    exact hn rfl _ _ (X0.trans (X.less (Nat.le_of_lt s.lt) (Nat.le_refl _))) ((s.on X S' hl).put o.dst hcr)

theorem wanted_sound {E : Env} {H : Heap} {t : List V} {a : Act} (s : St B F fr N E H t a) {ops : Array Oper} {o : Oper} {b : Bool} (h : wantedV ops t o = some b) :
    Region.wanted o (yielded ops a.tmps) = b := by
  unfold wantedV at h
  unfold Region.wanted
  split at h
  · rename_i hg; cases h; simp [hg]
  · rename_i j want hg
    simp only [hg]
    split at h
    · rename_i c hb
      cases h
      unfold yielded
      cases hd : (ops[j]?).bind (·.dst) with
      | none => rw [hd] at hb; simp at hb
      | some d =>
        rw [hd] at hb
        simp only [Option.bind_some] at hb ⊢
        obtain ⟨v, hv, hr⟩ := s.rel.get hb
        simp only [Rel] at hr
        subst hr
        have : a.tmps[d]? = some (.bool c) := by simpa using hv
        rw [this]
        cases c <;> cases want <;> rfl
    · rename_i hb
      cases h
      unfold yielded
      cases hd : (ops[j]?).bind (·.dst) with
      | none => rw [hd] at hb; simp at hb
      | some d =>
        rw [hd] at hb
        simp only [Option.bind_some] at hb ⊢
        obtain ⟨v, hv, hr⟩ := s.rel.get hb
        simp only [Rel] at hr
        obtain ⟨vs, rfl, hl⟩ := hr
        have : a.tmps[d]? = some (.tuple ⟨vs⟩) := by simpa using hv
        rw [this]
        cases want <;> rfl
    · cases h

theorem runOps_sound (ok : Okay P pol) (cs : CSound P C) {ops : Array Oper} {E0 : Env} : ∀ (l pre : List Oper) (t : List V) (H : Heap) (ex : Ex) (t' : List V) (H' : Heap) (E : Env) (a : Act),
    ops.toList = pre ++ l → runOps P pol C fn fr ops l t H = some (ex, t', H') → Ext fr B E0 E → E0.tab = loopAt P → St B F fr N E H t a →
    wpOpsIn (G ro) dp P ops (XPost B F fr N E0 ex t' H') (List.range' pre.length l.length) a E.w
  | [], pre, t, H, ex, t', H', E, a, _, h, X0, htab, s => by
    cases h
    exact ⟨E, rfl, X0, s, rfl⟩
  | o :: l, pre, t, H, ex, t', H', E, a, he, h, X0, htab, s => by
    have ho : ops[pre.length]? = some o := by
      have : ops.toList[pre.length]? = some o := by rw [he]; simp
      simpa using this
    have he' : ops.toList = (pre ++ [o]) ++ l := by rw [he]; simp
    simp only [List.length_cons, List.range'_succ, wpOpsIn, ho]
    simp only [runOps] at h
    split at h
    · cases h
    · rename_i hw
      have := wanted_sound s hw
      rw [if_neg (by rw [this]; decide)]
      refine ⟨fun _ _ => trivial, ?_⟩
      have ih := runOps_sound ok cs l (pre ++ [o]) _ _ _ _ _ E _ he' h X0 htab (s.put o.dst (v := nov) (c := undef) (by simp [Rel, RelL, undef]))
      simpa using ih
    · rename_i hw
      have := wanted_sound s hw
      rw [if_pos this]
      split at h
      · rename_i t1 H1 hop
        refine opOne_sound ok cs hop X0 htab s ?_ (fun hne => absurd rfl hne)
        intro _ a' E' X' s'
        have ih := runOps_sound ok cs l (pre ++ [o]) _ _ _ _ _ E' a' he' h X' htab s'
        simpa using ih
      · rename_i x hne
        refine opOne_sound ok cs h X0 htab s ?_ (fun _ e a' w' hx => hx)
        intro hex
        subst hex
        exact absurd h (by
          intro h'
          exact hne _ _ (by exact h'))

theorem runT_sound (ok : Okay P pol) (cs : CSound P C) {ops : Array Oper} {T : List FP} {E0 : Env} : ∀ (l : List Nat) (t : List V) (H : Heap) (t' : List V) (H' : Heap) (E : Env) (a : Act),
    runT P pol C fn fr ops T l t H = some (t', H') → Ext fr B E0 E → E0.tab = loopAt P → St B F fr N E H t a → wpOpsIn (G ro) dp P ops (XPost B F fr N E0 .normal t' H') l a E.w
  | [], t, H, t', H', E, a, h, X0, htab, s => by
    cases h
    exact ⟨E, rfl, X0, s, rfl⟩
  | i :: l, t, H, t', H', E, a, h, X0, htab, s => by
    simp only [runT] at h
    split at h
    case h_2 => cases h
    rename_i t1 H1 hst
    unfold stepT at hst
    split at hst
    · cases hst
    rename_i o ho
    simp only [wpOpsIn, ho]
    split at hst
    · cases hst
    · rename_i hw
      have := wanted_sound s hw
      rw [if_neg (by rw [this]; decide)]
      refine ⟨fun _ _ => trivial, ?_⟩
      split at hst
      · cases hst
        exact runT_sound ok cs l _ _ _ _ E _ h X0 htab (s.put o.dst (v := nov) (c := undef) (by simp [Rel, RelL, undef]))
      · cases hst
    · rename_i hw
      have := wanted_sound s hw
      rw [if_pos this]
      split at hst
      case isFalse => cases hst
      split at hst
      case h_2 => cases hst
      rename_i t2 H2 hop
      cases hst
      refine opOne_sound ok cs hop X0 htab s ?_ (fun hne => absurd rfl hne)
      intro _ a' E' X' s'
      exact runT_sound ok cs l _ _ _ _ E' a' h X' htab s'

theorem St.drawn {E : Env} {H : Heap} {t : List V} {a : Act} (s : St B F fr N E H t a) : ∃ E', E'.w = { E.w with drawn := E.w.drawn + 1 } ∧ Ext fr B E E' ∧ St B F fr N E' H t a := by
  have X1 : Ext H.length E.w.heap.size (AM.bare E.tab E.w E.mod) { AM.bare E.tab E.w E.mod with w := { E.w with drawn := E.w.drawn + 1 } } :=
    ⟨Nat.le_refl _, fun _ _ _ h => h, fun _ _ _ _ h => h, fun _ _ _ _ h => h, fun _ _ _ _ h => h, fun f s n b lo hi _ _ h => ⟨n, b, lo, hi, h, .inr ⟨rfl, rfl, rfl, rfl⟩⟩, fun _ _ => rfl, ⟨rfl, rfl, rfl⟩, rfl, fun _ h => h⟩
  obtain ⟨X, S⟩ := s.sim.behind X1
  exact ⟨_, rfl, X.less (Nat.le_of_lt s.lt) (Nat.le_refl _), s.on X S (Nat.le_refl _)⟩

theorem draw_sound (ok : Okay P pol) (cs : CSound P C) {ops : Array Oper} {id : Nat} {E0 E : Env} {t t' : List V} {H H' : Heap} {T : List FP} {a : Act} (hd : drawOk ops = true)
    (h : runOpsT P pol C fn fr ops ops.toList t H = some (t', H', T)) (hok : okT (Region.before ops) (loud T) = true) (X : Ext fr B E0 E) (htab : E0.tab = loopAt P) (s : St B F fr N E H t a) :
    (Code.region id ops true).wpIn (G ro) dp P (XPost B F fr N E0 .normal t' H') a E.w := by
  refine wpIn_region_draw fun tp => ?_
  obtain ⟨E', hw, X', s'⟩ := s.drawn
  obtain ⟨h1, h2⟩ := runOpsT_runT ops.toList [] [] t H t' H' T (by simp) rfl h
  have h3 := linearise_runT (P := P) (pol := pol) (C := C) (fn := fn) (fr := fr) hd (by simpa using h1) hok (by simpa [List.range_eq_range'] using h2) ok.mixed tp
  rw [← hw]
  exact runT_sound ok cs _ _ _ _ _ E' a h3 (X.trans X') htab s'

end
end Go.AM
end
