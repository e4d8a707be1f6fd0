/- This file holds in one the texts Bx22, Bx16, Bx53; each says at its head what it proves. -/
import Derived.Test.YtafhcdagifopeaaGreatDoorT12
import Derived.Test.YtafhcdagifopeaaGreatDoorT22
import Derived.Test.YtafhcdagifopeaaGreatDoorT25
set_option linter.unusedSimpArgs false
set_option linter.unusedVariables false
section
/- The abstract machine, part 22: a region that draws its order, in whatever order. -/
namespace Go.AM.BM

def drawOk (ops : Array Oper) : Bool :=
  (List.range ops.size).all fun i =>
    ((ops.getD i default).after.all fun e => !Region.binds .any e || decide (e.on < i)) &&
    (List.range i).all fun j => ((Region.before ops).getD i 0).testBit j || apartO ops (ops.getD j default) (ops.getD i default)

section
variable {P : Program} {pol : Pol} {C : Call} {ops : Array Oper} {base lim : Nat} {T : List FP}

theorem okT_spec {bef : Array Nat} : ∀ {l : List (FP × Nat)}, okT bef l = true → ∀ {l1 l2 : List (FP × Nat)} {a b : FP} {i j : Nat}, l = l1 ++ (a, i) :: l2 → (b, j) ∈ l2 →
    (bef.getD j 0).testBit i = true ∨ a.indep b = true
  | [], _, l1, l2, a, b, i, j, h, _ => by simp at h
  | (c, k) :: r, h, l1, l2, a, b, i, j, he, hm => by
    simp only [okT, Bool.and_eq_true, List.all_eq_true] at h
    cases l1 with
    | nil =>
      simp only [List.nil_append, List.cons.injEq, Prod.mk.injEq] at he
      obtain ⟨⟨rfl, rfl⟩, rfl⟩ := he
      have := h.1 (b, j) hm
      simpa using this
    | cons x l1 =>
      simp only [List.cons_append, List.cons.injEq] at he
      exact okT_spec h.2 he.2 hm

theorem loud_spec {bef : Array Nat} (h : okT bef (loud T) = true) {i j : Nat} (hij : i < j) (hj : j < T.length) :
    (bef.getD j 0).testBit i = true ∨ (T.getD i .all).indep (T.getD j .all) = true := by
  have hi : i < T.length := Nat.lt_trans hij hj
  have ei : T.getD i .all = T[i] := by simp [List.getD, hi]
  have ej : T.getD j .all = T[j] := by simp [List.getD, hj]
  rw [ei, ej]
  by_cases qi : T[i] = .quiet
  · right; rw [qi]; cases T[j] <;> rfl
  by_cases qj : T[j] = .quiet
  · right; rw [qj]; cases T[i] <;> rfl
  have hsplit : T.zipIdx = (T.zipIdx.take i) ++ (T[i], i) :: T.zipIdx.drop (i + 1) := by
    have hl : i < T.zipIdx.length := by simpa using hi
    have e : T.zipIdx[i] = (T[i], i) := by simp
    rw [← e, List.getElem_cons_drop]
    exact (List.take_append_drop _ _).symm
  have e : loud T = (T.zipIdx.take i).filter (fun x => x.1.loud) ++ (T[i], i) :: (T.zipIdx.drop (i + 1)).filter (fun x => x.1.loud) := by
    unfold loud
    conv => lhs; rw [hsplit]
    rw [List.filter_append, List.filter_cons]
    have : (T[i], i).1.loud = true := by
      simp only
      cases hq : T[i] <;> first | exact absurd hq qi | rfl
    rw [if_pos this]
  refine okT_spec h e ?_
  rw [List.mem_filter]
  constructor
  · rw [List.mem_iff_getElem?]
    refine ⟨j - (i + 1), ?_⟩
    rw [List.getElem?_drop]
    have : i + 1 + (j - (i + 1)) = j := by omega
    rw [this]
    simp [hj]
  · simp only
    cases hq : T[j] <;> first | exact absurd hq qj | rfl

theorem drawOk_spec (h : drawOk ops = true) : ∀ i, i < ops.size → (∀ e ∈ (ops.getD i default).after, Region.binds .any e = true → e.on < i) ∧
    ∀ j, j < i → ((Region.before ops).getD i 0).testBit j = true ∨ apartO ops (ops.getD j default) (ops.getD i default) = true := by
  simp only [drawOk, Bool.and_eq_true, List.all_eq_true, List.mem_range, Bool.or_eq_true] at h
  intro i hi
  obtain ⟨h1, h2⟩ := h i hi
  refine ⟨fun e he hbd => ?_, h2⟩
  have h3 := Array.all_eq_true_iff_forall_mem.1 h1 e he
  simpa [hbd] using h3

def todo (n : Nat) (listed : Array Bool) : List Nat := (List.range n).filter fun i => !listed.getD i true

theorem todo_set {n i : Nat} {listed : Array Bool} (hn : listed.size = n) (hi : i < n) (hu : listed.getD i true = false) :
    todo n listed = (List.range i).filter (fun k => !listed.getD k true) ++ i :: ((List.range' (i + 1) (n - (i + 1))).filter fun k => !listed.getD k true) ∧
    todo n (listed.setIfInBounds i true) = (List.range i).filter (fun k => !listed.getD k true) ++ ((List.range' (i + 1) (n - (i + 1))).filter fun k => !listed.getD k true) := by
  have hr : List.range n = List.range i ++ i :: List.range' (i + 1) (n - (i + 1)) := by
    have e : n = i + (n - i) := by omega
    have e2 : n - i = (n - (i + 1)) + 1 := by omega
    conv => lhs; rw [e, List.range_eq_range', ← List.range'_append_1]
    rw [← List.range_eq_range', Nat.zero_add, e2, List.range'_succ]
  have hset : ∀ k, k ≠ i → (listed.setIfInBounds i true).getD k true = listed.getD k true := by
    intro k hk
    simp only [Array.getD_eq_getD_getElem?]
    rw [Array.getElem?_setIfInBounds_ne (fun e => hk e.symm)]
  have hseti : (listed.setIfInBounds i true).getD i true = true := by
    simp [Array.getD_eq_getD_getElem?, hn, hi]
  constructor
  · unfold todo
    rw [hr, List.filter_append, List.filter_cons, hu]
    rfl
  · unfold todo
    rw [hr, List.filter_append, List.filter_cons, hseti]
    simp only [Bool.not_true, Bool.false_eq_true, if_false]
    congr 1
    · refine List.filter_congr fun k hk => ?_
      rw [hset k (by have := List.mem_range.1 hk; omega)]
    · refine List.filter_congr fun k hk => ?_
      rw [hset k (by have := (List.mem_range'_1.1 hk).1; omega)]

def Closed (ops : Array Oper) (listed : Array Bool) : Prop := ∀ i j, i < ops.size → listed.getD i false = true → ((Region.before ops).getD i 0).testBit j = true → listed.getD j false = true

theorem linearise_go (hC : CMono C) (tm : Tame pol) (hlim : base + ops.size ≤ lim) (h : drawOk ops = true) (hT : T.length = ops.size) (hok : okT (Region.before ops) (loud T) = true) {res : List V × Heap} :
    ∀ (fuel tp : Nat) (listed : Array Bool) (acc : List Nat) (t : List V) (H : Heap), listed.size = ops.size → Closed ops listed → (todo ops.size listed).length = fuel →
      runT P pol C ops base lim T (todo ops.size listed) t H = some res →
      ∃ L, Region.linearise.go .any ops fuel tp listed acc = acc.reverse ++ L ∧ runT P pol C ops base lim T L t H = some res := by
  have hsp := drawOk_spec h
  intro fuel
  induction fuel with
  | zero =>
    intro tp listed acc t H _ _ hl hr
    have : todo ops.size listed = [] := List.length_eq_zero_iff.1 hl
    rw [this] at hr
    exact ⟨[], by simp [Region.linearise.go], hr⟩
  | succ fuel ih =>
    intro tp listed acc t H hsz hcl hl hr
    simp only [Region.linearise.go]
    generalize hrs : (List.range ops.size).filter (fun i => !listed.getD i true && ((ops[i]?).map (·.after.all fun e => !Region.binds .any e || listed.getD e.on false)).getD false) = rs
    -- the first that is not listed is ready
    obtain ⟨m, hm, hmin⟩ : ∃ m, m ∈ todo ops.size listed ∧ ∀ k ∈ todo ops.size listed, m ≤ k := by
      cases htd : todo ops.size listed with
      | nil => rw [htd] at hl; cases hl
      | cons m r =>
        refine ⟨m, by simp, fun k hk => ?_⟩
        have hp : (todo ops.size listed).Pairwise (· < ·) := List.Pairwise.filter _ List.pairwise_lt_range
        rw [htd] at hp
        rcases List.mem_cons.1 hk with rfl | hk
        · exact Nat.le_refl _
        · exact Nat.le_of_lt ((List.pairwise_cons.1 hp).1 k hk)
    have hm' := hm
    simp only [todo, List.mem_filter, List.mem_range, Bool.not_eq_true'] at hm'
    have hrm : m ∈ rs := by
      rw [← hrs, List.mem_filter]
      refine ⟨List.mem_range.2 hm'.1, ?_⟩
      have eo : ops[m]? = some (ops.getD m default) := by simp [Array.getD, hm'.1]
      simp only [hm'.2, Bool.not_false, Bool.true_and, eo, Option.map_some, Option.getD_some]
      rw [Array.all_eq_true_iff_forall_mem]
      intro e he
      cases hbd : Region.binds .any e with
      | false => rfl
      | true =>
      have hlt := (hsp m hm'.1).1 e he hbd
      simp only [Bool.not_true, Bool.false_or]
      have hon : e.on < ops.size := Nat.lt_trans hlt hm'.1
      cases hb : listed.getD e.on false with
      | true => rfl
      | false =>
        have : e.on ∈ todo ops.size listed := by
          simp only [todo, List.mem_filter, List.mem_range, Bool.not_eq_true']
          refine ⟨hon, ?_⟩
          simp only [Array.getD, hsz, hon, dif_pos] at hb ⊢
          exact hb
        have := hmin _ this
        omega
    have hpos : 0 < rs.length := List.length_pos_of_mem hrm
    have hlt : tp % rs.length < rs.length := Nat.mod_lt _ hpos
    rw [List.getElem?_eq_getElem hlt]
    generalize hi : rs[tp % rs.length] = i
    have hir : i ∈ rs := by rw [← hi]; exact List.getElem_mem hlt
    rw [← hrs, List.mem_filter] at hir
    obtain ⟨hin, hir⟩ := hir
    have hin := List.mem_range.1 hin
    simp only [Bool.and_eq_true, Bool.not_eq_true'] at hir
    obtain ⟨hu, hir⟩ := hir
    have eo : ops[i]? = some (ops.getD i default) := by simp [Array.getD, hin]
    simp only [eo, Option.map_some, Option.getD_some] at hir
    rw [Array.all_eq_true_iff_forall_mem] at hir
    have hbefore : ∀ j, ((Region.before ops).getD i 0).testBit j = true → listed.getD j false = true := by
      intro j hb
      obtain ⟨e, he, hbd, hor⟩ := (before_spec ops).2 i _ j eo hb
      have := hir e he
      simp only [hbd, Bool.not_true, Bool.false_or] at this
      rcases hor with rfl | hor
      · exact this
      · exact hcl e.on j (Nat.lt_trans ((hsp i hin).1 e he hbd) hin) this hor
    obtain ⟨e1, e2⟩ := todo_set hsz hin hu
    rw [e1] at hr
    have hb := runT_bubble hC tm hlim hin _ t H (fun j hj => by
      rw [List.mem_filter] at hj
      have hjl := List.mem_range.1 hj.1
      have hjn : j < ops.size := Nat.lt_trans hjl hin
      have hnb : ((Region.before ops).getD i 0).testBit j ≠ true := by
        intro hb
        have := hbefore j hb
        have hj2 := hj.2
        simp only [Array.getD, hsz, hjn, dif_pos, Bool.not_eq_true'] at this hj2
        rw [this] at hj2; cases hj2
      refine ⟨hjn, ?_, ?_⟩
      · exact ((hsp i hin).2 j hjl).resolve_left hnb
      · exact (loud_spec hok hjl (by rw [hT]; exact hin)).resolve_left hnb) hr
    simp only [runT] at hb
    cases hst : stepT P pol C ops base lim T i t H with
    | none => rw [hst] at hb; cases hb
    | some x =>
      obtain ⟨t1, H1⟩ := x
      rw [hst] at hb
      simp only at hb
      rw [← e2] at hb
      have hgs : ∀ k, (listed.setIfInBounds i true).getD k false = true ↔ (k = i ∨ listed.getD k false = true) := by
        intro k
        by_cases hk : k = i
        · subst hk; simp [Array.getD_eq_getD_getElem?, hsz, hin]
        · simp only [hk, false_or, Array.getD_eq_getD_getElem?]
          rw [Array.getElem?_setIfInBounds_ne (fun e => hk e.symm)]
      obtain ⟨L, g1, g2⟩ := ih (tp / rs.length) (listed.setIfInBounds i true) (i :: acc) t1 H1 (by simpa using hsz) (by
        intro k j hk hkl hkb
        rw [hgs] at hkl ⊢
        rcases hkl with hki | hkl
        · rw [hki] at hkb; exact .inr (hbefore j hkb)
        · exact .inr (hcl k j hk hkl hkb)) (by
        have hl1 := hl
        rw [e1] at hl1
        rw [e2]
        simp only [List.length_append, List.length_cons] at hl1 ⊢
        omega) hb
      refine ⟨i :: L, ?_, ?_⟩
      · simpa using g1
      · simp only [runT, hst]; exact g2

theorem linearise_runT (hC : CMono C) (tm : Tame pol) (hlim : base + ops.size ≤ lim) (h : drawOk ops = true) (hT : T.length = ops.size) (hok : okT (Region.before ops) (loud T) = true) {res : List V × Heap} {t : List V} {H : Heap}
    (hr : runT P pol C ops base lim T (List.range ops.size) t H = some res) {m : Bool} (hm : m = true) (tp : Nat) : runT P pol C ops base lim T (Region.schedule m ops tp) t H = some res := by
  subst hm
  have e0 : todo ops.size (Array.replicate ops.size false) = List.range ops.size := by
    unfold todo
    rw [List.filter_eq_self]
    intro k hk
    have := List.mem_range.1 hk
    simp [Array.getD, this]
  obtain ⟨L, g1, g2⟩ := linearise_go hC tm hlim h hT hok ops.size tp (Array.replicate ops.size false) [] t H (by simp) (by
    intro i j hi hl
    simp [Array.getD] at hl) (by rw [e0]; simp) (by rw [e0]; exact hr)
  have : Region.schedule true ops tp = L := by
    simp only [Region.schedule, Bool.true_or, if_true, Region.linearise]
    simpa using g1
  rw [this]; exact g2

theorem runOpsT_runT : ∀ (l pre : List Oper) (T0 : List FP) (t : List V) (H : Heap) (t' : List V) (H' : Heap) (T1 : List FP), ops.toList = pre ++ l → T0.length = pre.length →
    runOpsT P pol C ops lim (base + pre.length) l t H = some (t', H', T1) → T1.length = l.length ∧ runT P pol C ops base lim (T0 ++ T1) (List.range' pre.length l.length) t H = some (t', H')
  | [], pre, T0, t, H, t', H', T1, _, _, h => by cases h; exact ⟨rfl, rfl⟩
  | o :: l, pre, T0, t, H, t', H', T1, he, hl, h => by
    have ho : ops[pre.length]? = some o := by
      have : ops.toList[pre.length]? = some o := by rw [he]; simp
      simpa using this
    have he' : ops.toList = (pre ++ [o]) ++ l := by rw [he]; simp
    have main : ∀ (fp : FP) (t1 : List V) (H1 : Heap), (∀ T2 : List FP, stepT P pol C ops base lim (T0 ++ fp :: T2) pre.length t H = some (t1, H1)) →
        (match runOpsT P pol C ops lim (base + pre.length + 1) l t1 H1 with
        | some (t', H', T) => some (t', H', fp :: T)
        | none => none) = some (t', H', T1) → T1.length = (o :: l).length ∧ runT P pol C ops base lim (T0 ++ T1) (List.range' pre.length (o :: l).length) t H = some (t', H') := by
      intro fp t1 H1 hst hm
      split at hm
      case h_2 => cases hm
      rename_i t2 H2 T2 hrun
      cases hm
      obtain ⟨g1, g2⟩ := runOpsT_runT l (pre ++ [o]) (T0 ++ [fp]) t1 H1 _ _ _ he' (by simp [hl]) (by rw [List.length_append]; exact hrun)
      refine ⟨by simp [g1], ?_⟩
      simp only [List.length_cons, List.range'_succ, runT, hst]
      simpa using g2
    have hget : ∀ (fp : FP) (T2 : List FP), (T0 ++ fp :: T2).getD pre.length .all = fp := by
      intro fp T2; simp [List.getD, ← hl]
    simp only [runOpsT] at h
    split at h
    · cases h
    · rename_i hw
      refine main .quiet (putT t o.dst nov) H (fun T2 => ?_) h
      simp only [stepT, ho, hw, hget, if_true]
    · rename_i hw
      split at h
      case h_2 => cases h
      rename_i t1 H1 hop
      refine main (fpOf P lim (base + pre.length) t H H1 o) t1 H1 (fun T2 => ?_) h
      simp only [stepT, ho, hw, hop]
      rw [if_pos]
      rw [hget]
      have hcall : ∀ k, fpOf P lim (base + pre.length) t H H1 o = .call k → k = keeps lim H H1 := by
        intro k e
        unfold fpOf at e
        (repeat' split at e) <;> first | (cases e; done) | (cases e; rfl)
      cases hx : fpOf P lim (base + pre.length) t H H1 o with
      | call k =>
        have := hcall k hx
        subst this
        refine ⟨rfl, fun f s hk => ?_⟩
        simp only [keeps, Bool.and_eq_true] at hk
        exact ⟨(eqbG_iff _ _).1 hk.2, Nat.le_of_ble_eq_true hk.1⟩
      | _ => rfl

end
end Go.AM.BM
end
section
/- The abstract machine, part 16: frames come and go. -/
namespace Go.AM.BM
variable {P : Program} {E : Env} {B : Nat} {F : Nat → Nat → Prop} {H : Heap}

abbrev frame0 : Frame := []
theorem hget_frame0 (f s : Nat) : hget [frame0] f s = none := by
  unfold hget
  cases f with
  | zero => rfl
  | succ f => rfl
theorem _root_.Go.AM.Sim.first (S : Sim B F [] E) : Sim B F [frame0] E where
  dom := fun f s => by rw [hget_frame0]; exact S.dom f s
  bsz := S.bsz
  fb := S.fb
  fmod := S.fmod
  modsz := S.modsz
  obj := fun f s o h => by rw [hget_frame0] at h; cases h
  nreg := fun f s n x h => by have := S.nreg f s n x h; cases this
  inj := fun f s o f' s' o' b h1 => by rw [hget_frame0] at h1; cases h1

theorem _root_.Go.AM.Sim.kill (S : Sim B F H E) {f0 s0 : Nat} {o : O} (ho : hget H f0 s0 = some o) (hg : ∀ n, o ≠ .grow n) : Sim B F (hset H f0 s0 .dead) E := by
  refine S.step f0 s0 .dead (hget_lt ho) (Ext.refl _ _ _) (fun f s e => rfl) ?_ (fun f s e => rfl) ?_ (fun f s o b e h1 h2 => ⟨rfl, fun i h => h⟩) S.fmod S.modsz trivial ?_
  · have := S.dom f0 s0
    rw [ho] at this
    exact this.symm
  · intro n x h
    have := S.nreg f0 s0 n x h
    rw [ho] at this; cases this
    exact absurd rfl (hg n)
  · intro f s o b e h1 h2 h3
    cases h3

theorem _root_.Go.AM.Sim.spend (S : Sim B F H E) {s0 : Nat} (hl : 0 < H.length) (hn : hget H 0 s0 = none) :
    Ext H.length B E { E with mu := upd E.mu 0 s0 (some 0) } ∧ Sim B F (hset H 0 s0 .dead) { E with mu := upd E.mu 0 s0 (some 0) } := by
  have hmn := S.mu_none hn
  have X : Ext H.length B E { E with mu := upd E.mu 0 s0 (some 0) } := by
    refine ⟨Nat.le_refl _, fun _ _ _ h => h, fun _ _ _ _ h => h, fun _ _ _ _ h => h, ?_, fun f s n b lo hi _ _ h => ⟨n, b, lo, hi, h, .inr ⟨rfl, rfl, rfl, rfl⟩⟩, fun _ _ => rfl, ⟨rfl, rfl, rfl⟩, rfl, fun _ h => h⟩
    intro f s b' _ h
    by_cases e : f = 0 ∧ s = s0
    · rw [e.1, e.2, hmn] at h; cases h
    · exact (upd_other _ _ e).trans h
  refine ⟨X, S.step 0 s0 .dead hl X (fun f s e => upd_other _ _ e) (by simp [upd_same]) (fun f s e => rfl) ?_ (fun f s o b e h1 h2 => ⟨rfl, fun i h => h⟩) S.fmod S.modsz trivial ?_⟩
  · intro n x h
    have := S.reg_none hn
    simp only at h
    rw [this] at h; cases h
  · intro f s o b e h1 h2 h3
    cases h3

theorem fix1_sound (S : Sim B F H E) {v v' : V} {w : Option (Nat × Nat × O)} {c : Value} (h : fix1 (hget H) v = some (v', w)) (hr : Rel E v c) :
    ∃ E', E'.w = E.w ∧ Ext H.length B E E' ∧ Sim B F (wr H w) E' ∧ Rel E' v' c := by
  unfold fix1 at h
  split at h
  · rename_i f s o len cap esz
    split at h
    case h_2 => cases h
    rename_i xs hg
    split at h
    case isFalse => cases h
    rename_i hc
    cases h
    simp only [Rel] at hr
    obtain ⟨b, c', T', n', hmu, rfl, h1, h2, h3, h4, _⟩ := hr
    obtain ⟨b', c, T, vs, rest, g1, g2, g3, g4, g5, g6, g7⟩ := S.obj f s _ hg
    rw [hmu] at g1; cases g1
    obtain ⟨X, S'⟩ := S.die hg hmu g3 g2 E.w rfl (fun _ _ => rfl) g3 ⟨rfl, rfl, rfl⟩
    refine ⟨{ E with w := E.w, mod := fun b' i => E.mod b' i ∧ b' ≠ b }, rfl, X, S', ?_⟩
    simp only [Rel]
    refine ⟨⟨b, o, none⟩, c', (vs.drop o).take (len * esz), rfl, h1, ?_, .inr ⟨rfl, fun i v hv => ⟨?_, fun hm => hm.2 rfl⟩⟩, ?_, ?_⟩
    · intro hcap
      exact h2 len (by simpa using hcap)
    · have hv2 : vs[o + i]? = some v := by
        rw [List.getElem?_take] at hv
        split at hv
        · rw [List.getElem?_drop] at hv; exact hv
        · cases hv
      have hcl : c[o + i]? = some v := by
        rw [← Array.getElem?_toList, g4, List.getElem?_append_left (List.getElem?_eq_some_iff.1 hv2).1]; exact hv2
      simp only [World.cell?, g3]
      simpa using hcl
    · exact RelL.mono X S.lt _ _ ((g5.drop o).take _)
    · have pd : ∀ (l : List V) (n : Nat), pureL l = true → pureL (l.drop n) = true := by
        intro l
        induction l with
        | nil => intro n _; simp [pureL]
        | cons x l ih => intro n h; cases n with
          | zero => exact h
          | succ n => simp only [pureL, Bool.and_eq_true] at h; exact ih n h.2
      have pt : ∀ (l : List V) (n : Nat), pureL l = true → pureL (l.take n) = true := by
        intro l
        induction l with
        | nil => intro n _; simp [pureL]
        | cons x l ih => intro n h; cases n with
          | zero => rfl
          | succ n => simp only [pureL, Bool.and_eq_true] at h; simp only [List.take_succ_cons, pureL, h.1, ih n h.2, Bool.and_self]
      exact pt _ _ (pd _ _ hc.2)
  · cases h; exact ⟨E, rfl, Ext.refl _ _ _, S, hr⟩
theorem fixV_sound (S : Sim B F H E) {v v' : V} {w : Option (Nat × Nat × O)} {c : Value} (h : fixV (hget H) v = some (v', w)) (hr : Rel E v c) :
    ∃ E', E'.w = E.w ∧ Ext H.length B E E' ∧ Sim B F (wr H w) E' ∧ Rel E' v' c := by
  unfold fixV at h
  split at h
  · rename_i x r
    cases hx : fix1 (hget H) x with
    | none => rw [hx] at h; cases h
    | some y =>
      rw [hx] at h; cases h
      simp only [Rel] at hr
      obtain ⟨vs, rfl, hl⟩ := hr
      obtain ⟨u, us, rfl, h1, h2⟩ := RelL.cons_iff.1 hl
      obtain ⟨E', e, X, S', h3⟩ := fix1_sound S hx h1
      exact ⟨E', e, X, S', by simp only [Rel]; exact ⟨_, rfl, .cons h3 (RelL.mono X S.lt _ _ h2)⟩⟩
  · exact fix1_sound S h hr

theorem fixAt_sound (S : Sim B F H E) {i : Option Nat} {args as : List V} {w : Option (Nat × Nat × O)} {cs : List Value} (h : fixAt (hget H) i args = some (as, w)) (hr : RelL E args cs) :
    ∃ E', E'.w = E.w ∧ Ext H.length B E E' ∧ Sim B F (wr H w) E' ∧ RelL E' as cs := by
  unfold fixAt at h
  split at h
  · cases h; exact ⟨E, rfl, Ext.refl _ _ _, S, hr⟩
  · rename_i i
    split at h
    case h_2 => cases h
    rename_i x hx
    split at h
    case h_2 => cases h
    rename_i y w' hy
    cases h
    obtain ⟨c, hc, hxc⟩ := hr.get hx
    obtain ⟨E', e, X, S', h1⟩ := fix1_sound S hy hxc
    refine ⟨E', e, X, S', ?_⟩
    have := (RelL.mono X S.lt _ _ hr).set i h1
    have e2 : cs.set i c = cs := by
      apply List.ext_getElem?
      intro j
      rw [List.getElem?_set]
      by_cases e : i = j
      · subst e
        rw [if_pos rfl, if_pos (List.getElem?_eq_some_iff.1 hc).1, hc]
      · rw [if_neg e]
    rwa [e2] at this

theorem wr_length (H : Heap) (w : Option (Nat × Nat × O)) : (wr H w).length = H.length := by
  cases w with
  | none => rfl
  | some x => obtain ⟨f, s, o⟩ := x; exact hset_length H f s o
theorem wrL_length : ∀ (ws : List (Nat × Nat × O)) (H : Heap), (wrL H ws).length = H.length
  | [], _ => rfl
  | (f, s, o) :: r, H => by rw [wrL, wrL_length r, hset_length]

end Go.AM.BM
end
section
/- The machine for closed laws: appends that take an object over, and elements that become noughts, keep the abstract heap true. -/
namespace Go.AM.BM
variable {P : Program} {E : Env} {B : Nat} {F : Nat → Nat → Prop} {H : Heap}

theorem _root_.Go.AM.Sim.adoptCells (S : Sim B F H E) {f0 s0 : Nat} (hf : f0 < H.length) (hn : hget H f0 s0 = none) {b : Nat} {c0 : Array Value} {T : TypeId} (hb : E.w.heap[b]? = some (.cells c0 T (0, 0))) (hB : B ≤ b) (hmod : ∀ i, E.mod b i)
    (hfree : ∀ f s o, hget H f s = some o → blk E f s o ≠ some b) {xs : List V} {vs rest : List Value} (hr : RelL E xs vs) (hx : xs.all V.scalar = true) (hl : (vs ++ rest).length = c0.size) :
    Ext H.length B E { E.setRow b (vs ++ rest) with mu := upd E.mu f0 s0 (some b) } ∧ Sim B F (hset H f0 s0 (.cells xs)) { E.setRow b (vs ++ rest) with mu := upd E.mu f0 s0 (some b) } := by
  have hmn := S.mu_none hn
  have X1 : Ext H.length B E (E.setRow b (vs ++ rest)) := ext_setRow hb hB _ hl (fun i h => absurd (hmod i) h)
  have X : Ext H.length B E { E.setRow b (vs ++ rest) with mu := upd E.mu f0 s0 (some b) } := by
    refine ⟨X1.size, X1.shape, X1.cell, X1.mod, ?_, X1.reg, X1.old, X1.rest, X1.tab, X1.dfr⟩
    intro f s b' _ h
    by_cases e : f = f0 ∧ s = s0
    · rw [e.1, e.2, hmn] at h; cases h
    · exact (upd_other _ _ e).trans h
  refine ⟨X, S.step f0 s0 _ hf X (fun f s e => upd_other _ _ e) (by simp [upd_same]) (fun f s e => rfl) ?_ ?_ ?_ ?_ ?_ ?_⟩
  · intro n x h
    have := S.reg_none hn
    simp only [Env.setRow] at h
    rw [this] at h; cases h
  · intro f s o b' e ho hb'
    refine ⟨?_, fun i h => h⟩
    have hne : b' ≠ b := fun e' => hfree f s o ho (e' ▸ hb')
    simp only [Env.setRow]
    exact setRow_other E.w b b' _ hne
  · exact fun b i h => S.fmod b i h
  · intro b' i h
    simp only [Env.setRow, setRow_size]
    exact S.modsz b' i h
  · exact ⟨b, ⟨vs ++ rest⟩, T, vs, rest, upd_same _ _ _ _, hB, setRow_heap E.w b c0 _ T (0, 0) hb, rfl, RelL.mono X S.lt _ _ hr, hmod, hx⟩
  · intro f s o b' e ho hb' h
    simp only [blk, upd_same, Option.some.injEq] at h
    subst h
    exact hfree f s o ho hb'

theorem hget_kill (hl : 0 < H.length) {f0 s0 : Nat} {o0 : O} (ho : hget H f0 s0 = some o0) : ∀ f s o, hget (hset H f0 s0 .dead) f s = some o → (f = f0 ∧ s = s0 ∧ o = .dead) ∨ (¬ (f = f0 ∧ s = s0) ∧ hget H f s = some o) := by
  intro f s o h
  rw [hget_hset _ _ _ _ (hget_lt ho)] at h
  by_cases e : f = f0 ∧ s = s0
  · rw [if_pos e] at h; cases h; exact .inl ⟨e.1, e.2, rfl⟩
  · rw [if_neg e] at h; exact .inr ⟨e, h⟩

theorem growV_sound (S : Sim B F H E) (hlt : 0 < H.length) {nm : Nat} {ts : Array TypeId} {t t2 : TypeId} (ty : TypeId) {s x : V} {cs cx : Value} {v : V} {ws : List (Nat × Nat × O)}
    (ht : ts[0]? = some t) (ht2 : ts[1]? = some t2) (h : growV P (hget H) nm t t2 s x = some (v, ws)) (rs : Rel E s cs) (rx : Rel E x cx) :
    ∃ E' cv, Ext H.length B E E' ∧ Sim B F (wrL H ws) E' ∧ Rel E' v cv ∧ (Builtin.append_ ts ty #[cs, cx]).run P E.w = .ok cv E'.w := by
  unfold growV at h
  split at h <;> try (cases h; done)
  rename_i e f sl len e' hu
  split at h <;> try (cases h; done)
  rename_i n by_ z hn hb hzc
  split at h <;> try (cases h; done)
  rename_i hcond
  obtain ⟨hzl, rfl, hn0⟩ := hcond
  split at h <;> try (cases h; done)
  rename_i xs new m hg hnn hsrc
  split at h <;> try (cases h; done)
  rename_i hh
  obtain ⟨hxl, hr, hsc⟩ := hh
  cases h
  obtain ⟨zv, zvs, hzrun, hzcells, hzrel, _⟩ := zeroCells_sound hzc E.w
  have hz : zer P e = some zv := by
    unfold zeroCells at hzc
    cases hq : zer P e with
    | none => rw [hq] at hzc; cases hzc
    | some q =>
      have := run_zer hq E.w
      rw [this] at hzrun
      simp only [Result.ok.injEq, and_true] at hzrun
      rw [hzrun]
  obtain ⟨news, hs, hrel, hl⟩ := appSrc_sound S hz hzc hzl hsrc rx
  replace hl : news.length = (m + 1) * e' := hl
  have hne : ¬ (f = 0 ∧ sl = nm) := by
    rintro ⟨rfl, rfl⟩
    rw [hg] at hnn; cases hnn
  have hzl2 : ∀ k, (zerosN zv.cells.toList k).length = k * e' := by
    intro k
    have : zv.cells.toList.length = e' := by rw [← hzl, hzcells]; exact ((hzrel E).length).symm
    induction k with
    | zero => simp [zerosN]
    | succ k ih => simp only [zerosN, List.length_append, ih, this, Nat.add_mul]; omega
  have rs' := rs
  simp only [Rel] at rs
  obtain ⟨b, c', T', n', hmu, rfl, g1, g2, g3, g4, g5⟩ := rs
  have q0 := S.lies hg
  obtain ⟨b2, c, T, vs, rest, q1, q2, q3, q4, q5, q6, q7, q8⟩ := S.lies hg
  rw [hmu] at q1; cases q1
  have hvl := q5.length
  have hcs : c.size = vs.length + rest.length := by
    have := congrArg List.length q4
    simpa using this
  have hn' : n' = c.size := by
    simp only [World.shape?, q3, Option.some.injEq, Prod.mk.injEq] at g3
    exact g3.2.symm
  have hend := g5 trivial
  have hadd : (len + (m + 1)) * e' = len * e' + (m + 1) * e' := by rw [Nat.add_mul]
  -- the old object is given up
  have S1 : Sim B F (hset H f sl .dead) E := S.kill hg (fun n h => by cases h)
  have hlen1 : (hset H f sl .dead).length = H.length := hset_length _ _ _ _
  have hn1 : hget (hset H f sl .dead) 0 nm = none := by
    rw [hget_hset _ _ _ _ (hget_lt hg), if_neg (fun e => hne ⟨e.1.symm, e.2.symm⟩)]; exact hnn
  by_cases hfit : len + (m + 1) ≤ c'
  · -- in place
    have hle : (len + (m + 1)) * e' ≤ c' * e' := Nat.mul_le_mul_right _ hfit
    have hnl : 0 + len * e' + news.length ≤ c.size := by rw [hl]; omega
    have hrun := run_append_room (ty := ty) ht ht2 hu hn hb hs hfit q3 hnl (scalar_mem hrel hsc)
    have hsp : splice c.toList (0 + len * e') news = (vs ++ news) ++ rest.drop news.length := by
      have e1 : vs.length = len * e' := by omega
      unfold splice
      rw [q4, Nat.zero_add, ← e1, List.take_left', List.drop_append, List.drop_eq_nil_of_le (by omega)]
      · simp
      · rfl
    have hlen2 : ((vs ++ news) ++ rest.drop news.length).length = c.size := by
      simp only [List.length_append, List.length_drop]; omega
    obtain ⟨X, S2⟩ := S1.adoptCells (f0 := 0) (s0 := nm) (by rw [hlen1]; exact hlt) hn1 q3 q2 q6 (fun f' s' o' ho' hb' => by
      rcases hget_kill hlt hg f' s' o' ho' with ⟨_, _, rfl⟩ | ⟨h1, h2⟩
      · cases hb'
      · exact h1 (S.inj f' s' o' f sl _ b h2 hg hb' hmu)) (q5.append hrel) (by simp only [List.all_append, q7, hsc, Bool.and_true]) hlen2
    rw [hlen1] at X
    refine ⟨_, .slice (some ⟨b, 0, none⟩) (len + (m + 1)) c', X, S2, ?_, ?_⟩
    · simp only [Rel]
      exact ⟨b, c', T', n', upd_same _ _ _ _, rfl, hfit, (fun k hk => by cases hk), X.shape _ _ _ g3, g4, fun _ => hend⟩
    · rw [hrun]
      simp only [Env.setRow]
      rw [hsp]
  · have hxs : (xs.drop 0).take (len * e') = xs := by rw [List.drop_zero, ← hxl, List.take_length]
    obtain ⟨_, _, vs', he, _, k3, k4, k5⟩ := sliceCells_sound (P := P) (esz := e') (n := len) (cs := xs) S (by
      have : 0 + len * e' ≤ xs.length := by omega
      simp only [sliceCells, hg, true_and, this, if_true, hxs]) rs'
    have hold : ∀ w' : World, w'.heap = E.w.heap → (Builtin.firstCells e' len (.slice (some ⟨b, 0, none⟩) len c')).run P w' = .ok ⟨vs'⟩ w' := by
      intro w' hw
      have := k5 w' len hw (Nat.le_refl _)
      rw [← k4, List.take_length] at this
      exact this
    obtain ⟨newCap, hcap, hrun⟩ := run_append_grow (ty := ty) ht ht2 hu hn hb hz rfl hs hold (by omega) hr
    have hrl := hzl2 (newCap - (len + (m + 1)))
    have htot : newCap * e' = (len + (m + 1)) * e' + (newCap - (len + (m + 1))) * e' := by rw [← Nat.add_mul]; congr 1; omega
    obtain ⟨X, S2⟩ := S1.newCells (f0 := 0) (s0 := nm) (by rw [hlen1]; exact hlt) hn1 (xs ++ new) (vs' ++ news) (zerosN zv.cells.toList (newCap - (len + (m + 1)))) e (E.w.drawn + 1) (k3.append hrel) (by simp only [List.all_append, q7, hsc, Bool.and_true])
    rw [hlen1] at X
    refine ⟨_, .slice (some ⟨E.w.heap.size, 0, none⟩) (len + (m + 1)) newCap, X, S2, ?_, hrun⟩
    have htl : (vs' ++ news ++ zerosN zv.cells.toList (newCap - (len + (m + 1)))).length = newCap * e' := by
      simp only [List.length_append, hrl, k4, hl]; omega
    simp only [Rel]
    refine ⟨E.w.heap.size, newCap, e, newCap * e', upd_same _ _ _ _, rfl, hcap, (fun k hk => by cases hk), ?_, ?_, ?_⟩
    · have := push_new E (.cells ⟨vs' ++ news ++ zerosN zv.cells.toList (newCap - (len + (m + 1)))⟩ e) (E.w.drawn + 1)
      simp only [Env.newCells, World.shape?, this]
      simpa using htl
    · omega
    · intro _; omega

theorem clearV_sound (S : Sim B F H E) {ts : Array TypeId} {t : TypeId} (ty : TypeId) {s : V} {cs : Value} {v : V} {ws : List (Nat × Nat × O)}
    (ht : ts[0]? = some t) (h : clearV P (hget H) t s = some (v, ws)) (rs : Rel E s cs) :
    ∃ E' cv, Ext H.length B E E' ∧ Sim B F (wrL H ws) E' ∧ Rel E' v cv ∧ (Builtin.clear_ ts ty #[cs]).run P E.w = .ok cv E'.w := by
  unfold clearV at h
  split at h <;> try (cases h; done)
  rename_i e hu
  split at h <;> try (cases h; done)
  · cases h
    simp only [Rel] at rs
    subst rs
    refine ⟨E, .tuple #[], Ext.refl _ _ _, S, by simp only [Rel]; exact ⟨[], rfl, .nil⟩, ?_⟩
    simp [Builtin.clear_, ht, run_und hu]
  · rename_i n z f sl o len cap e' hn hzc
    split at h
    · rename_i h0
      subst h0
      cases h
      simp only [Rel] at rs
      obtain ⟨b, c', T', n', hmu, rfl, _⟩ := rs
      refine ⟨E, .tuple #[], Ext.refl _ _ _, S, by simp only [Rel]; exact ⟨[], rfl, .nil⟩, ?_⟩
      simp [Builtin.clear_, ht, run_und hu]
    rename_i h0
    split at h <;> try (cases h; done)
    rename_i xs hg
    split at h <;> try (cases h; done)
    rename_i hh
    obtain ⟨rfl, hzl, hle, hn0⟩ := hh
    cases h
    simp only [Rel] at rs
    obtain ⟨b, c', T', n', hmu, rfl, g1, g2, g3, g4, g5⟩ := rs
    obtain ⟨b2, c, T, vs, rest, q1, q2, q3, q4, q5, q6, q7, q8⟩ := S.lies hg
    rw [hmu] at q1; cases q1
    obtain ⟨zv, zvs, hzrun, hzcells, hzrel, hzsc⟩ := zeroCells_sound hzc E.w
    have hvl := q5.length
    have hcs : c.size = vs.length + rest.length := by
      have := congrArg List.length q4
      simpa using this
    have hzvl : zvs.length = e' := by rw [← (hzrel E).length]; exact hzl
    have z1 : RelL E (zerosN z len) (zerosN zvs len) := (hzrel E).zerosN _
    have z2 : (zerosN zvs len).length = len * e' := by rw [zerosN_length, hzvl]
    have z3 : (zerosN z len).all V.scalar = true := zerosN_all hzsc len
    have hfit : o + (zerosN zvs len).length ≤ vs.length := by omega
    have hst := run_storeCells_at P b o T (zerosN zvs len) 0 c E.w q3 (by simp only [Nat.add_zero]; omega) (scalar_mem z1 z3)
    simp only [Nat.add_zero] at hst
    obtain ⟨X, S'⟩ := S.setCells hg hmu q3 q4 q6 q2 (splice xs o (zerosN z len)) (splice vs o (zerosN zvs len)) (q5.splice z1 _) (splice_all _ q7 z3) (splice_length _ _ _ hfit)
    refine ⟨_, .tuple #[], X, S', by simp only [Rel]; exact ⟨[], rfl, .nil⟩, ?_⟩
    have hcl : (Builtin.clear_ ts ty #[.slice (some ⟨b, o, none⟩) len c']).run P E.w = ((storeCells ⟨b, o, none⟩ (Builtin.zeroCells zv.cells len).toList).run P E.w).andThen fun _ w => .ok (.tuple #[]) w := by
      cases len with
      | zero => exact absurd rfl h0
      | succ l => simp [Builtin.clear_, ht, run_und hu, hzrun]
    rw [hcl, zeroCells_fold, hzcells]
    simp only [hst, Result.andThen_ok, Env.setRow]
    rw [← splice_append _ _ _ _ hfit, ← q4]
    rfl

end Go.AM.BM
end
