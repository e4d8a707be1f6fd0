/- This file holds in one the texts An21, An22; each says at its head what it proves. -/
import Derived.Test.YtjakoidjbcnhbaaGreatDoorT14
set_option linter.unusedSimpArgs false
set_option linter.unusedVariables false
section
/- The abstract machine, part 21: every order that a region may draw comes to what the order of the text comes to. -/
namespace Go.AM

section
variable {P : Program} {pol : Pol} {C : Call} {fn fr : Nat} {ops : Array Oper} {T : List FP}

def Agree (ops : Array Oper) (o : Oper) (t' t : List V) : Prop := (∀ x ∈ o.op.operands, rho t' x = rho t x) ∧ wantedV ops t' o = wantedV ops t o

theorem apart_agree {a b : Oper} (h : apartO ops a b = true) (v : V) (t : List V) : Agree ops b (putT t a.dst v) t := ⟨apart_operand h t, apart_wanted h t⟩

theorem Agree.symm {o : Oper} {t t' : List V} (h : Agree ops o t t') : Agree ops o t' t := ⟨fun x hx => (h.1 x hx).symm, h.2.symm⟩

theorem step_cases {i : Nat} {o : Oper} {t t1 : List V} {H H1 : Heap} (ho : ops[i]? = some o) (h : stepT P pol C fn fr ops T i t H = some (t1, H1)) :
    (T.getD i .all = .quiet ∧ ∃ v, t1 = putT t o.dst v ∧ H1 = H ∧ ∀ t' H', Agree ops o t' t → stepT P pol C fn fr ops T i t' H' = some (putT t' o.dst v, H')) ∨
    (∃ w v r, T.getD i .all = .ids r (widOf w) ∧ t1 = putT t o.dst v ∧ H1 = wr H w ∧
      ∀ t' H', Agree ops o t' t → (∀ f s, (f, s) ∈ r → hget H' f s = hget H f s) → stepT P pol C fn fr ops T i t' H' = some (putT t' o.dst v, wr H' w)) ∨
    (T.getD i .all = .all ∧ ∃ v, t1 = putT t o.dst v ∧ ∀ t', Agree ops o t' t → stepT P pol C fn fr ops T i t' H = some (putT t' o.dst v, H1)) := by
  simp only [stepT, ho] at h ⊢
  split at h
  · cases h
  · rename_i hw
    split at h
    · rename_i hT
      cases h
      left
      refine ⟨hT, nov, rfl, rfl, fun t' H' ha => ?_⟩
      rw [ha.2, hw]
      simp only [hT, if_true]
    · cases h
  · rename_i hw
    split at h
    case isFalse => cases h
    rename_i hT
    split at h
    case h_2 => cases h
    rename_i t2 H2 hop
    cases h
    rcases fp_cases t H o hop with ⟨h1, v, h2, h3, h4⟩ | ⟨w, v, h1, h2, h3, h4⟩ | ⟨h1, v, h2, h3⟩
    · left
      refine ⟨hT.symm.trans h1, v, h2, h3, fun t' H' ha => ?_⟩
      obtain ⟨g1, g2⟩ := h4 t' H' ha.1
      rw [ha.2, hw]
      simp only [g1, g2, ← hT, h1, if_true]
    · right; left
      refine ⟨w, v, _, hT.symm.trans h1, h2, h3, fun t' H' ha hg => ?_⟩
      obtain ⟨g1, g2⟩ := h4 t' H' ha.1 hg
      rw [ha.2, hw]
      simp only [g1, g2, ← hT, h1, if_true]
    · right; right
      refine ⟨hT.symm.trans h1, v, h2, fun t' ha => ?_⟩
      obtain ⟨g1, g2⟩ := h3 t' ha.1
      rw [ha.2, hw]
      simp only [g1, g2, ← hT, h1, if_true]

theorem meets_no {a b : List (Nat × Nat)} (h : (!meets a b) = true) {x : Nat × Nat} (hx : x ∈ a) : x ∉ b := by
  intro hb
  simp only [meets, Bool.not_eq_true', List.any_eq_false] at h
  exact h x hx (by simpa using hb)

theorem wr_get {H : Heap} {w : Option (Nat × Nat × O)} {f s : Nat} (h : (f, s) ∉ widOf w) : hget (wr H w) f s = hget H f s := by
  cases w with
  | none => rfl
  | some x =>
    obtain ⟨f', s', q⟩ := x
    simp only [wr]
    refine hget_hset_ne H q ?_
    rintro ⟨rfl, rfl⟩
    exact h (by simp [widOf])

theorem wr_comm {H : Heap} {w w' : Option (Nat × Nat × O)} (h : (!meets (widOf w) (widOf w')) = true) : wr (wr H w) w' = wr (wr H w') w := by
  cases w with
  | none => rfl
  | some x =>
    cases w' with
    | none => rfl
    | some y =>
      obtain ⟨f, s, q⟩ := x
      obtain ⟨f', s', q'⟩ := y
      simp only [wr]
      refine hset_comm H q q' ?_
      rintro ⟨rfl, rfl⟩
      exact meets_no h (x := (f, s)) (by simp [widOf]) (by simp [widOf])

theorem step_swap {i j : Nat} {oi oj : Oper} (hi : ops[i]? = some oi) (hj : ops[j]? = some oj) (ha : apartO ops oi oj = true) (hI : (T.getD i .all).indep (T.getD j .all) = true)
    {t t1 t2 : List V} {H H1 H2 : Heap} (h1 : stepT P pol C fn fr ops T i t H = some (t1, H1)) (h2 : stepT P pol C fn fr ops T j t1 H1 = some (t2, H2)) :
    ∃ t1' H1', stepT P pol C fn fr ops T j t H = some (t1', H1') ∧ stepT P pol C fn fr ops T i t1' H1' = some (t2, H2) := by
  have hs := apart_symm ha
  rcases step_cases hi h1 with ⟨q1, v, rfl, rfl, g1⟩ | ⟨w, v, r, q1, rfl, rfl, g1⟩ | ⟨q1, v, rfl, g1⟩
  · rcases step_cases hj h2 with ⟨q2, u, rfl, rfl, g2⟩ | ⟨w', u, r', q2, rfl, rfl, g2⟩ | ⟨q2, u, rfl, g2⟩
    · refine ⟨_, _, g2 t H2 (apart_agree ha v t).symm, ?_⟩
      rw [g1 _ _ (apart_agree hs u t), put_comm ha]
    · refine ⟨_, _, g2 t H1 (apart_agree ha v t).symm (fun _ _ _ => rfl), ?_⟩
      rw [g1 _ _ (apart_agree hs u t), put_comm ha]
    · refine ⟨_, _, g2 t (apart_agree ha v t).symm, ?_⟩
      rw [g1 _ _ (apart_agree hs u t), put_comm ha]
  · rcases step_cases hj h2 with ⟨q2, u, rfl, rfl, g2⟩ | ⟨w', u, r', q2, rfl, rfl, g2⟩ | ⟨q2, u, rfl, g2⟩
    · refine ⟨_, _, g2 t H (apart_agree ha v t).symm, ?_⟩
      rw [g1 _ _ (apart_agree hs u t) (fun _ _ _ => rfl), put_comm ha]
    · rw [q1, q2] at hI
      simp only [FP.indep, Bool.and_eq_true] at hI
      obtain ⟨⟨i1, i2⟩, i3⟩ := hI
      refine ⟨_, _, g2 t H (apart_agree ha v t).symm (fun f s hm => ?_), ?_⟩
      · exact (wr_get (fun hw => meets_no i1 hw hm)).symm
      · rw [g1 _ _ (apart_agree hs u t) (fun f s hm => wr_get (fun hw => meets_no i3 hw hm)), put_comm ha, wr_comm i2]
    · rw [q1, q2] at hI; cases hI
  · rcases step_cases hj h2 with ⟨q2, u, rfl, rfl, g2⟩ | ⟨w', u, r', q2, rfl, rfl, g2⟩ | ⟨q2, u, rfl, g2⟩
    · refine ⟨_, _, g2 t H (apart_agree ha v t).symm, ?_⟩
      rw [g1 _ (apart_agree hs u t), put_comm ha]
    · rw [q1, q2] at hI; cases hI
    · rw [q1, q2] at hI; cases hI

theorem runT_append (l l' : List Nat) (t : List V) (H : Heap) : runT P pol C fn fr ops T (l ++ l') t H = (runT P pol C fn fr ops T l t H).bind fun x => runT P pol C fn fr ops T l' x.1 x.2 := by
  induction l generalizing t H with
  | nil => rfl
  | cons i l ih =>
    simp only [List.cons_append, runT]
    cases stepT P pol C fn fr ops T i t H with
    | none => rfl
    | some x => exact ih _ _

theorem runT_bubble {i : Nat} {l2 : List Nat} {res : List V × Heap} (hi : i < ops.size) : ∀ (l1 : List Nat) (t : List V) (H : Heap),
    (∀ j ∈ l1, j < ops.size ∧ apartO ops (ops.getD j default) (ops.getD i default) = true ∧ (T.getD j .all).indep (T.getD i .all) = true) →
    runT P pol C fn fr ops T (l1 ++ i :: l2) t H = some res → runT P pol C fn fr ops T (i :: (l1 ++ l2)) t H = some res
  | [], t, H, _, h => h
  | j :: l1, t, H, hl, h => by
    obtain ⟨hj, ha, hI⟩ := hl j (by simp)
    simp only [List.cons_append, runT] at h
    cases h1 : stepT P pol C fn fr ops T j t H with
    | none => rw [h1] at h; cases h
    | some x =>
      obtain ⟨t1, H1⟩ := x
      rw [h1] at h
      have ih := runT_bubble hi l1 t1 H1 (fun k hk => hl k (by simp [hk])) h
      simp only [runT] at ih
      cases h2 : stepT P pol C fn fr ops T i t1 H1 with
      | none => rw [h2] at ih; cases ih
      | some y =>
        obtain ⟨t2, H2⟩ := y
        rw [h2] at ih
        have e1 : ops[j]? = some (ops.getD j default) := by simp [Array.getD, hj]
        have e2 : ops[i]? = some (ops.getD i default) := by simp [Array.getD, hi]
        obtain ⟨t1', H1', g1, g2⟩ := step_swap e1 e2 ha hI h1 h2
        simp only [List.cons_append, runT, g1, g2]
        exact ih

end

/-! ### What is ordered -/

theorem before_spec (ops : Array Oper) : (Region.before ops).size = ops.size ∧ ∀ i o j, ops[i]? = some o → ((Region.before ops).getD i 0).testBit j = true →
    ∃ e ∈ o.after, Region.binds .any e = true ∧ (e.on = j ∨ ((Region.before ops).getD e.on 0).testBit j = true) := by
  have key : ∀ (l : List Oper) (acc : Array Nat) (pre : List Oper), acc.size = pre.length →
      (∀ i o j, pre[i]? = some o → (acc.getD i 0).testBit j = true → ∃ e ∈ o.after, Region.binds .any e = true ∧ (e.on = j ∨ (acc.getD e.on 0).testBit j = true)) →
      (l.foldl (fun acc o => acc.push (o.after.foldl (fun s e => if Region.binds .any e then s ||| 2 ^ e.on ||| acc.getD e.on 0 else s) 0)) acc).size = pre.length + l.length ∧
      ∀ i o j, (pre ++ l)[i]? = some o → ((l.foldl (fun acc o => acc.push (o.after.foldl (fun s e => if Region.binds .any e then s ||| 2 ^ e.on ||| acc.getD e.on 0 else s) 0)) acc).getD i 0).testBit j = true →
        ∃ e ∈ o.after, Region.binds .any e = true ∧ (e.on = j ∨ ((l.foldl (fun acc o => acc.push (o.after.foldl (fun s e => if Region.binds .any e then s ||| 2 ^ e.on ||| acc.getD e.on 0 else s) 0)) acc).getD e.on 0).testBit j = true) := by
    intro l
    induction l with
    | nil => intro acc pre hs h; simpa [hs] using h
    | cons o l ih =>
      intro acc pre hs h
      simp only [List.foldl_cons]
      generalize hn : o.after.foldl (fun s e => if Region.binds .any e then s ||| 2 ^ e.on ||| acc.getD e.on 0 else s) 0 = n
      have hgrow : ∀ k j, (acc.getD k 0).testBit j = true → ((acc.push n).getD k 0).testBit j = true := by
        intro k j hb
        have hk : k < acc.size := by
          rcases Nat.lt_or_ge k acc.size with hk | hk
          · exact hk
          · simp [Array.getD, Nat.not_lt.2 hk] at hb
        have : (acc.push n).getD k 0 = acc.getD k 0 := by
          simp only [Array.getD, hk, Array.size_push, Nat.lt_succ_of_lt hk, dif_pos, Array.getInternal_eq_getElem]
          exact Array.getElem_push_lt hk
        rw [this]; exact hb
      have hfold : ∀ (es : List Edge) (s j : Nat), ((es.foldl (fun s e => if Region.binds .any e then s ||| 2 ^ e.on ||| acc.getD e.on 0 else s) s)).testBit j = true →
          s.testBit j = true ∨ ∃ e ∈ es, Region.binds .any e = true ∧ (e.on = j ∨ (acc.getD e.on 0).testBit j = true) := by
        intro es
        induction es with
        | nil => intro s j hb; exact .inl hb
        | cons e es ihe =>
          intro s j hb
          simp only [List.foldl_cons] at hb
          rcases ihe _ j hb with g | ⟨e', he', g⟩
          · by_cases hbd : Region.binds .any e = true
            · rw [if_pos hbd] at g
              simp only [Nat.testBit_or, Bool.or_eq_true, Nat.testBit_two_pow, decide_eq_true_eq] at g
              rcases g with (g | g) | g
              · exact .inl g
              · exact .inr ⟨e, by simp, hbd, .inl g⟩
              · exact .inr ⟨e, by simp, hbd, .inr g⟩
            · rw [if_neg hbd] at g
              exact .inl g
          · exact .inr ⟨e', by simp [he'], g⟩
      have := ih (acc.push n) (pre ++ [o]) (by simp [hs]) (by
        intro i o' j hi hb
        rcases Nat.lt_or_ge i pre.length with hlt | hge
        · have hi' : pre[i]? = some o' := by rw [List.getElem?_append_left hlt] at hi; exact hi
          have : (acc.push n).getD i 0 = acc.getD i 0 := by
            have hk : i < acc.size := by omega
            simp only [Array.getD, hk, Array.size_push, Nat.lt_succ_of_lt hk, dif_pos, Array.getInternal_eq_getElem]
            exact Array.getElem_push_lt hk
          rw [this] at hb
          obtain ⟨e, h1, h2, h3⟩ := h i o' j hi' hb
          exact ⟨e, h1, h2, h3.imp_right (hgrow _ _)⟩
        · have hieq : i = pre.length := by
            rcases Nat.lt_or_ge i (pre ++ [o]).length with g | g
            · simp at g; omega
            · rw [List.getElem?_eq_none g] at hi; cases hi
          subst hieq
          have ho : o' = o := by simpa using hi.symm
          subst ho
          have hnv : (acc.push n).getD pre.length 0 = n := by rw [← hs]; simp [Array.getD]
          rw [hnv, ← hn, ← Array.foldl_toList] at hb
          rcases hfold _ _ _ hb with g | ⟨e, h1, h2, h3⟩
          · simp at g
          · exact ⟨e, by simpa using h1, h2, h3.imp_right (hgrow _ _)⟩)
      simpa [Nat.add_assoc, Nat.add_comm 1] using this
  have := key ops.toList #[] [] rfl (by intro i o j hi; simp at hi)
  simp only [List.length_nil, Nat.zero_add, List.nil_append, Array.length_toList] at this
  have e : Region.before ops = ops.toList.foldl (fun acc o => acc.push (o.after.foldl (fun s e => if Region.binds .any e then s ||| 2 ^ e.on ||| acc.getD e.on 0 else s) 0)) #[] := by
    unfold Region.before; rw [← Array.foldl_toList]
  rw [e]
  refine ⟨this.1, fun i o j hi hb => this.2 i o j (by simpa using hi) hb⟩

end Go.AM
end
section
/- The abstract machine, part 22: a region that draws its order, in whatever order. -/
namespace Go.AM

def drawOk (ops : Array Oper) : Bool :=
  (List.range ops.size).all fun i =>
    ((ops.getD i default).after.all fun e => !Region.binds .any e || decide (e.on < i)) &&
    (List.range i).all fun j => ((Region.before ops).getD i 0).testBit j || apartO ops (ops.getD j default) (ops.getD i default)

section
variable {P : Program} {pol : Pol} {C : Call} {fn fr : Nat} {ops : Array Oper} {T : List FP}

theorem okT_spec {bef : Array Nat} : ∀ {l : List (FP × Nat)}, okT bef l = true → ∀ {l1 l2 : List (FP × Nat)} {a b : FP} {i j : Nat}, l = l1 ++ (a, i) :: l2 → (b, j) ∈ l2 →
    (bef.getD j 0).testBit i = true ∨ a.indep b = true
  | [], _, l1, l2, a, b, i, j, h, _ => by simp at h
  | (c, k) :: r, h, l1, l2, a, b, i, j, he, hm => by
    simp only [okT, Bool.and_eq_true, List.all_eq_true] at h
    cases l1 with
    | nil =>
      simp only [List.nil_append, List.cons.injEq, Prod.mk.injEq] at he
      obtain ⟨⟨rfl, rfl⟩, rfl⟩ := he
      have := h.1 (b, j) hm
      simpa using this
    | cons x l1 =>
      simp only [List.cons_append, List.cons.injEq] at he
      exact okT_spec h.2 he.2 hm

theorem loud_spec {bef : Array Nat} (h : okT bef (loud T) = true) {i j : Nat} (hij : i < j) (hj : j < T.length) :
    (bef.getD j 0).testBit i = true ∨ (T.getD i .all).indep (T.getD j .all) = true := by
  have hi : i < T.length := Nat.lt_trans hij hj
  have ei : T.getD i .all = T[i] := by simp [List.getD, hi]
  have ej : T.getD j .all = T[j] := by simp [List.getD, hj]
  rw [ei, ej]
  by_cases qi : T[i] = .quiet
  · right; rw [qi]; cases T[j] <;> rfl
  by_cases qj : T[j] = .quiet
  · right; rw [qj]; cases T[i] <;> rfl
  have hsplit : T.zipIdx = (T.zipIdx.take i) ++ (T[i], i) :: T.zipIdx.drop (i + 1) := by
    have hl : i < T.zipIdx.length := by simpa using hi
    have e : T.zipIdx[i] = (T[i], i) := by simp
    rw [← e, List.getElem_cons_drop]
    exact (List.take_append_drop _ _).symm
  have e : loud T = (T.zipIdx.take i).filter (fun x => x.1.loud) ++ (T[i], i) :: (T.zipIdx.drop (i + 1)).filter (fun x => x.1.loud) := by
    unfold loud
    conv => lhs; rw [hsplit]
    rw [List.filter_append, List.filter_cons]
    have : (T[i], i).1.loud = true := by
      simp only
      cases hq : T[i] <;> first | exact absurd hq qi | rfl
    rw [if_pos this]
  refine okT_spec h e ?_
  rw [List.mem_filter]
  constructor
  · rw [List.mem_iff_getElem?]
    refine ⟨j - (i + 1), ?_⟩
    rw [List.getElem?_drop]
    have : i + 1 + (j - (i + 1)) = j := by omega
    rw [this]
    simp [hj]
  · simp only
    cases hq : T[j] <;> first | exact absurd hq qj | rfl

theorem drawOk_spec (h : drawOk ops = true) : ∀ i, i < ops.size → (∀ e ∈ (ops.getD i default).after, Region.binds .any e = true → e.on < i) ∧
    ∀ j, j < i → ((Region.before ops).getD i 0).testBit j = true ∨ apartO ops (ops.getD j default) (ops.getD i default) = true := by
  simp only [drawOk, Bool.and_eq_true, List.all_eq_true, List.mem_range, Bool.or_eq_true] at h
  intro i hi
  obtain ⟨h1, h2⟩ := h i hi
  refine ⟨fun e he hbd => ?_, h2⟩
  have h3 := Array.all_eq_true_iff_forall_mem.1 h1 e he
  simpa [hbd] using h3

def todo (n : Nat) (listed : Array Bool) : List Nat := (List.range n).filter fun i => !listed.getD i true

theorem todo_set {n i : Nat} {listed : Array Bool} (hn : listed.size = n) (hi : i < n) (hu : listed.getD i true = false) :
    todo n listed = (List.range i).filter (fun k => !listed.getD k true) ++ i :: ((List.range' (i + 1) (n - (i + 1))).filter fun k => !listed.getD k true) ∧
    todo n (listed.setIfInBounds i true) = (List.range i).filter (fun k => !listed.getD k true) ++ ((List.range' (i + 1) (n - (i + 1))).filter fun k => !listed.getD k true) := by
  have hr : List.range n = List.range i ++ i :: List.range' (i + 1) (n - (i + 1)) := by
    have e : n = i + (n - i) := by omega
    have e2 : n - i = (n - (i + 1)) + 1 := by omega
    conv => lhs; rw [e, List.range_eq_range', ← List.range'_append_1]
    rw [← List.range_eq_range', Nat.zero_add, e2, List.range'_succ]
  have hset : ∀ k, k ≠ i → (listed.setIfInBounds i true).getD k true = listed.getD k true := by
    intro k hk
    simp only [Array.getD_eq_getD_getElem?]
    rw [Array.getElem?_setIfInBounds_ne (fun e => hk e.symm)]
  have hseti : (listed.setIfInBounds i true).getD i true = true := by
    simp [Array.getD_eq_getD_getElem?, hn, hi]
  constructor
  · unfold todo
    rw [hr, List.filter_append, List.filter_cons, hu]
    rfl
  · unfold todo
    rw [hr, List.filter_append, List.filter_cons, hseti]
    simp only [Bool.not_true, Bool.false_eq_true, if_false]
    congr 1
    · refine List.filter_congr fun k hk => ?_
      rw [hset k (by have := List.mem_range.1 hk; omega)]
    · refine List.filter_congr fun k hk => ?_
      rw [hset k (by have := (List.mem_range'_1.1 hk).1; omega)]

def Closed (ops : Array Oper) (listed : Array Bool) : Prop := ∀ i j, i < ops.size → listed.getD i false = true → ((Region.before ops).getD i 0).testBit j = true → listed.getD j false = true

theorem linearise_go (h : drawOk ops = true) (hT : T.length = ops.size) (hok : okT (Region.before ops) (loud T) = true) {res : List V × Heap} :
    ∀ (fuel tp : Nat) (listed : Array Bool) (acc : List Nat) (t : List V) (H : Heap), listed.size = ops.size → Closed ops listed → (todo ops.size listed).length = fuel →
      runT P pol C fn fr ops T (todo ops.size listed) t H = some res →
      ∃ L, Region.linearise.go .any ops fuel tp listed acc = acc.reverse ++ L ∧ runT P pol C fn fr ops T L t H = some res := by
  have hsp := drawOk_spec h
  intro fuel
  induction fuel with
  | zero =>
    intro tp listed acc t H _ _ hl hr
    have : todo ops.size listed = [] := List.length_eq_zero_iff.1 hl
    rw [this] at hr
    exact ⟨[], by simp [Region.linearise.go], hr⟩
  | succ fuel ih =>
    intro tp listed acc t H hsz hcl hl hr
    simp only [Region.linearise.go]
    generalize hrs : (List.range ops.size).filter (fun i => !listed.getD i true && ((ops[i]?).map (·.after.all fun e => !Region.binds .any e || listed.getD e.on false)).getD false) = rs
    -- the first that is not listed is ready
    obtain ⟨m, hm, hmin⟩ : ∃ m, m ∈ todo ops.size listed ∧ ∀ k ∈ todo ops.size listed, m ≤ k := by
      cases htd : todo ops.size listed with
      | nil => rw [htd] at hl; cases hl
      | cons m r =>
        refine ⟨m, by simp, fun k hk => ?_⟩
        have hp : (todo ops.size listed).Pairwise (· < ·) := List.Pairwise.filter _ List.pairwise_lt_range
        rw [htd] at hp
        rcases List.mem_cons.1 hk with rfl | hk
        · exact Nat.le_refl _
        · exact Nat.le_of_lt ((List.pairwise_cons.1 hp).1 k hk)
    have hm' := hm
    simp only [todo, List.mem_filter, List.mem_range, Bool.not_eq_true'] at hm'
    have hrm : m ∈ rs := by
      rw [← hrs, List.mem_filter]
      refine ⟨List.mem_range.2 hm'.1, ?_⟩
      have eo : ops[m]? = some (ops.getD m default) := by simp [Array.getD, hm'.1]
      simp only [hm'.2, Bool.not_false, Bool.true_and, eo, Option.map_some, Option.getD_some]
      rw [Array.all_eq_true_iff_forall_mem]
      intro e he
      cases hbd : Region.binds .any e with
      | false => rfl
      | true =>
      have hlt := (hsp m hm'.1).1 e he hbd
      simp only [Bool.not_true, Bool.false_or]
      have hon : e.on < ops.size := Nat.lt_trans hlt hm'.1
      cases hb : listed.getD e.on false with
      | true => rfl
      | false =>
        have : e.on ∈ todo ops.size listed := by
          simp only [todo, List.mem_filter, List.mem_range, Bool.not_eq_true']
          refine ⟨hon, ?_⟩
          simp only [Array.getD, hsz, hon, dif_pos] at hb ⊢
          exact hb
        have := hmin _ this
        omega
    have hpos : 0 < rs.length := List.length_pos_of_mem hrm
    have hlt : tp % rs.length < rs.length := Nat.mod_lt _ hpos
    rw [List.getElem?_eq_getElem hlt]
    generalize hi : rs[tp % rs.length] = i
    have hir : i ∈ rs := by rw [← hi]; exact List.getElem_mem hlt
    rw [← hrs, List.mem_filter] at hir
    obtain ⟨hin, hir⟩ := hir
    have hin := List.mem_range.1 hin
    simp only [Bool.and_eq_true, Bool.not_eq_true'] at hir
    obtain ⟨hu, hir⟩ := hir
    have eo : ops[i]? = some (ops.getD i default) := by simp [Array.getD, hin]
    simp only [eo, Option.map_some, Option.getD_some] at hir
    rw [Array.all_eq_true_iff_forall_mem] at hir
    have hbefore : ∀ j, ((Region.before ops).getD i 0).testBit j = true → listed.getD j false = true := by
      intro j hb
      obtain ⟨e, he, hbd, hor⟩ := (before_spec ops).2 i _ j eo hb
      have := hir e he
      simp only [hbd, Bool.not_true, Bool.false_or] at this
      rcases hor with rfl | hor
      · exact this
      · exact hcl e.on j (Nat.lt_trans ((hsp i hin).1 e he hbd) hin) this hor
    obtain ⟨e1, e2⟩ := todo_set hsz hin hu
    rw [e1] at hr
    have hb := runT_bubble hin _ t H (fun j hj => by
      rw [List.mem_filter] at hj
      have hjl := List.mem_range.1 hj.1
      have hjn : j < ops.size := Nat.lt_trans hjl hin
      have hnb : ((Region.before ops).getD i 0).testBit j ≠ true := by
        intro hb
        have := hbefore j hb
        have hj2 := hj.2
        simp only [Array.getD, hsz, hjn, dif_pos, Bool.not_eq_true'] at this hj2
        rw [this] at hj2; cases hj2
      refine ⟨hjn, ?_, ?_⟩
      · exact ((hsp i hin).2 j hjl).resolve_left hnb
      · exact (loud_spec hok hjl (by rw [hT]; exact hin)).resolve_left hnb) hr
    simp only [runT] at hb
    cases hst : stepT P pol C fn fr ops T i t H with
    | none => rw [hst] at hb; cases hb
    | some x =>
      obtain ⟨t1, H1⟩ := x
      rw [hst] at hb
      simp only at hb
      rw [← e2] at hb
      have hgs : ∀ k, (listed.setIfInBounds i true).getD k false = true ↔ (k = i ∨ listed.getD k false = true) := by
        intro k
        by_cases hk : k = i
        · subst hk; simp [Array.getD_eq_getD_getElem?, hsz, hin]
        · simp only [hk, false_or, Array.getD_eq_getD_getElem?]
          rw [Array.getElem?_setIfInBounds_ne (fun e => hk e.symm)]
      obtain ⟨L, g1, g2⟩ := ih (tp / rs.length) (listed.setIfInBounds i true) (i :: acc) t1 H1 (by simpa using hsz) (by
        intro k j hk hkl hkb
        rw [hgs] at hkl ⊢
        rcases hkl with hki | hkl
        · rw [hki] at hkb; exact .inr (hbefore j hkb)
        · exact .inr (hcl k j hk hkl hkb)) (by
        have hl1 := hl
        rw [e1] at hl1
        rw [e2]
        simp only [List.length_append, List.length_cons] at hl1 ⊢
        omega) hb
      refine ⟨i :: L, ?_, ?_⟩
      · simpa using g1
      · simp only [runT, hst]; exact g2

theorem linearise_runT (h : drawOk ops = true) (hT : T.length = ops.size) (hok : okT (Region.before ops) (loud T) = true) {res : List V × Heap} {t : List V} {H : Heap}
    (hr : runT P pol C fn fr ops T (List.range ops.size) t H = some res) {m : Bool} (hm : m = true) (tp : Nat) : runT P pol C fn fr ops T (Region.schedule m ops tp) t H = some res := by
  subst hm
  have e0 : todo ops.size (Array.replicate ops.size false) = List.range ops.size := by
    unfold todo
    rw [List.filter_eq_self]
    intro k hk
    have := List.mem_range.1 hk
    simp [Array.getD, this]
  obtain ⟨L, g1, g2⟩ := linearise_go (P := P) (pol := pol) (C := C) (fn := fn) (fr := fr) h hT hok ops.size tp (Array.replicate ops.size false) [] t H (by simp) (by
    intro i j hi hl
    simp [Array.getD] at hl) (by rw [e0]; simp) (by rw [e0]; exact hr)
  have : Region.schedule true ops tp = L := by
    simp only [Region.schedule, Bool.true_or, if_true, Region.linearise]
    simpa using g1
  rw [this]; exact g2

theorem runOpsT_runT : ∀ (l pre : List Oper) (T0 : List FP) (t : List V) (H : Heap) (t' : List V) (H' : Heap) (T1 : List FP), ops.toList = pre ++ l → T0.length = pre.length →
    runOpsT P pol C fn fr ops l t H = some (t', H', T1) → T1.length = l.length ∧ runT P pol C fn fr ops (T0 ++ T1) (List.range' pre.length l.length) t H = some (t', H')
  | [], pre, T0, t, H, t', H', T1, _, _, h => by cases h; exact ⟨rfl, rfl⟩
  | o :: l, pre, T0, t, H, t', H', T1, he, hl, h => by
    have ho : ops[pre.length]? = some o := by
      have : ops.toList[pre.length]? = some o := by rw [he]; simp
      simpa using this
    have he' : ops.toList = (pre ++ [o]) ++ l := by rw [he]; simp
    have main : ∀ (fp : FP) (t1 : List V) (H1 : Heap), (∀ T2 : List FP, stepT P pol C fn fr ops (T0 ++ fp :: T2) pre.length t H = some (t1, H1)) →
        (match runOpsT P pol C fn fr ops l t1 H1 with
        | some (t', H', T) => some (t', H', fp :: T)
        | none => none) = some (t', H', T1) → T1.length = (o :: l).length ∧ runT P pol C fn fr ops (T0 ++ T1) (List.range' pre.length (o :: l).length) t H = some (t', H') := by
      intro fp t1 H1 hst hm
      split at hm
      case h_2 => cases hm
      rename_i t2 H2 T2 hrun
      cases hm
      obtain ⟨g1, g2⟩ := runOpsT_runT l (pre ++ [o]) (T0 ++ [fp]) t1 H1 _ _ _ he' (by simp [hl]) hrun
      refine ⟨by simp [g1], ?_⟩
      simp only [List.length_cons, List.range'_succ, runT, hst]
      simpa using g2
    have hget : ∀ (fp : FP) (T2 : List FP), (T0 ++ fp :: T2).getD pre.length .all = fp := by
      intro fp T2; simp [List.getD, ← hl]
    simp only [runOpsT] at h
    split at h
    · cases h
    · rename_i hw
      refine main .quiet (putT t o.dst nov) H (fun T2 => ?_) h
      simp only [stepT, ho, hw, hget, if_true]
    · rename_i hw
      split at h
      case h_2 => cases h
      rename_i t1 H1 hop
      refine main (fpOf P pol fn fr t H o) t1 H1 (fun T2 => ?_) h
      simp only [stepT, ho, hw, hget, if_true, hop]

end
end Go.AM
end
