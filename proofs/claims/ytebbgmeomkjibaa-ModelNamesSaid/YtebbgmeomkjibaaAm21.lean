/- The abstract machine, part 21: every order that a region may draw comes to what the order of the text comes to. -/
import Derived.Test.YtebbgmeomkjibaaAm20
set_option linter.unusedSimpArgs false
set_option linter.unusedVariables false
namespace Go.AM

section
variable {P : Program} {pol : Pol} {C : Call} {fn fr : Nat} {ops : Array Oper} {T : List FP}

/-- Two states that one operation cannot tell apart. -/
def Agree (ops : Array Oper) (o : Oper) (t' t : List V) : Prop := (∀ x ∈ o.op.operands, rho t' x = rho t x) ∧ wantedV ops t' o = wantedV ops t o

theorem apart_agree {a b : Oper} (h : apartO ops a b = true) (v : V) (t : List V) : Agree ops b (putT t a.dst v) t := ⟨apart_operand h t, apart_wanted h t⟩

theorem Agree.symm {o : Oper} {t t' : List V} (h : Agree ops o t t') : Agree ops o t' t := ⟨fun x hx => (h.1 x hx).symm, h.2.symm⟩

theorem step_cases {i : Nat} {o : Oper} {t t1 : List V} {H H1 : Heap} (ho : ops[i]? = some o) (h : stepT P pol C fn fr ops T i t H = some (t1, H1)) :
    (T.getD i .all = .quiet ∧ ∃ v, t1 = putT t o.dst v ∧ H1 = H ∧ ∀ t' H', Agree ops o t' t → stepT P pol C fn fr ops T i t' H' = some (putT t' o.dst v, H')) ∨
    (∃ w v r, T.getD i .all = .ids r (widOf w) ∧ t1 = putT t o.dst v ∧ H1 = wr H w ∧
      ∀ t' H', Agree ops o t' t → (∀ f s, (f, s) ∈ r → hget H' f s = hget H f s) → stepT P pol C fn fr ops T i t' H' = some (putT t' o.dst v, wr H' w)) ∨
    (T.getD i .all = .all ∧ ∃ v, t1 = putT t o.dst v ∧ ∀ t', Agree ops o t' t → stepT P pol C fn fr ops T i t' H = some (putT t' o.dst v, H1)) := by
  simp only [stepT, ho] at h ⊢
  split at h
  · cases h
  · rename_i hw
    split at h
    · rename_i hT
      cases h
      left
      refine ⟨hT, nov, rfl, rfl, fun t' H' ha => ?_⟩
      rw [ha.2, hw]
      simp only [hT, if_true]
    · cases h
  · rename_i hw
    split at h
    case isFalse => cases h
    rename_i hT
    split at h
    case h_2 => cases h
    rename_i t2 H2 hop
    cases h
    rcases fp_cases t H o hop with ⟨h1, v, h2, h3, h4⟩ | ⟨w, v, h1, h2, h3, h4⟩ | ⟨h1, v, h2, h3⟩
    · left
      refine ⟨hT.symm.trans h1, v, h2, h3, fun t' H' ha => ?_⟩
      obtain ⟨g1, g2⟩ := h4 t' H' ha.1
      rw [ha.2, hw]
      simp only [g1, g2, ← hT, h1, if_true]
    · right; left
      refine ⟨w, v, _, hT.symm.trans h1, h2, h3, fun t' H' ha hg => ?_⟩
      obtain ⟨g1, g2⟩ := h4 t' H' ha.1 hg
      rw [ha.2, hw]
      simp only [g1, g2, ← hT, h1, if_true]
    · right; right
      refine ⟨hT.symm.trans h1, v, h2, fun t' ha => ?_⟩
      obtain ⟨g1, g2⟩ := h3 t' ha.1
      rw [ha.2, hw]
      simp only [g1, g2, ← hT, h1, if_true]

theorem meets_no {a b : List (Nat × Nat)} (h : (!meets a b) = true) {x : Nat × Nat} (hx : x ∈ a) : x ∉ b := by
  intro hb
  simp only [meets, Bool.not_eq_true', List.any_eq_false] at h
  exact h x hx (by simpa using hb)

theorem wr_get {H : Heap} {w : Option (Nat × Nat × O)} {f s : Nat} (h : (f, s) ∉ widOf w) : hget (wr H w) f s = hget H f s := by
  cases w with
  | none => rfl
  | some x =>
    obtain ⟨f', s', q⟩ := x
    simp only [wr]
    refine hget_hset_ne H q ?_
    rintro ⟨rfl, rfl⟩
    exact h (by simp [widOf])

theorem wr_comm {H : Heap} {w w' : Option (Nat × Nat × O)} (h : (!meets (widOf w) (widOf w')) = true) : wr (wr H w) w' = wr (wr H w') w := by
  cases w with
  | none => rfl
  | some x =>
    cases w' with
    | none => rfl
    | some y =>
      obtain ⟨f, s, q⟩ := x
      obtain ⟨f', s', q'⟩ := y
      simp only [wr]
      refine hset_comm H q q' ?_
      rintro ⟨rfl, rfl⟩
      exact meets_no h (x := (f, s)) (by simp [widOf]) (by simp [widOf])

theorem step_swap {i j : Nat} {oi oj : Oper} (hi : ops[i]? = some oi) (hj : ops[j]? = some oj) (ha : apartO ops oi oj = true) (hI : (T.getD i .all).indep (T.getD j .all) = true)
    {t t1 t2 : List V} {H H1 H2 : Heap} (h1 : stepT P pol C fn fr ops T i t H = some (t1, H1)) (h2 : stepT P pol C fn fr ops T j t1 H1 = some (t2, H2)) :
    ∃ t1' H1', stepT P pol C fn fr ops T j t H = some (t1', H1') ∧ stepT P pol C fn fr ops T i t1' H1' = some (t2, H2) := by
  have hs := apart_symm ha
  rcases step_cases hi h1 with ⟨q1, v, rfl, rfl, g1⟩ | ⟨w, v, r, q1, rfl, rfl, g1⟩ | ⟨q1, v, rfl, g1⟩
  · rcases step_cases hj h2 with ⟨q2, u, rfl, rfl, g2⟩ | ⟨w', u, r', q2, rfl, rfl, g2⟩ | ⟨q2, u, rfl, g2⟩
    · refine ⟨_, _, g2 t H2 (apart_agree ha v t).symm, ?_⟩
      rw [g1 _ _ (apart_agree hs u t), put_comm ha]
    · refine ⟨_, _, g2 t H1 (apart_agree ha v t).symm (fun _ _ _ => rfl), ?_⟩
      rw [g1 _ _ (apart_agree hs u t), put_comm ha]
    · refine ⟨_, _, g2 t (apart_agree ha v t).symm, ?_⟩
      rw [g1 _ _ (apart_agree hs u t), put_comm ha]
  · rcases step_cases hj h2 with ⟨q2, u, rfl, rfl, g2⟩ | ⟨w', u, r', q2, rfl, rfl, g2⟩ | ⟨q2, u, rfl, g2⟩
    · refine ⟨_, _, g2 t H (apart_agree ha v t).symm, ?_⟩
      rw [g1 _ _ (apart_agree hs u t) (fun _ _ _ => rfl), put_comm ha]
    · rw [q1, q2] at hI
      simp only [FP.indep, Bool.and_eq_true] at hI
      obtain ⟨⟨i1, i2⟩, i3⟩ := hI
      refine ⟨_, _, g2 t H (apart_agree ha v t).symm (fun f s hm => ?_), ?_⟩
      · exact (wr_get (fun hw => meets_no i1 hw hm)).symm
      · rw [g1 _ _ (apart_agree hs u t) (fun f s hm => wr_get (fun hw => meets_no i3 hw hm)), put_comm ha, wr_comm i2]
    · rw [q1, q2] at hI; cases hI
  · rcases step_cases hj h2 with ⟨q2, u, rfl, rfl, g2⟩ | ⟨w', u, r', q2, rfl, rfl, g2⟩ | ⟨q2, u, rfl, g2⟩
    · refine ⟨_, _, g2 t H (apart_agree ha v t).symm, ?_⟩
      rw [g1 _ (apart_agree hs u t), put_comm ha]
    · rw [q1, q2] at hI; cases hI
    · rw [q1, q2] at hI; cases hI

theorem runT_append (l l' : List Nat) (t : List V) (H : Heap) : runT P pol C fn fr ops T (l ++ l') t H = (runT P pol C fn fr ops T l t H).bind fun x => runT P pol C fn fr ops T l' x.1 x.2 := by
  induction l generalizing t H with
  | nil => rfl
  | cons i l ih =>
    simp only [List.cons_append, runT]
    cases stepT P pol C fn fr ops T i t H with
    | none => rfl
    | some x => exact ih _ _

theorem runT_bubble {i : Nat} {l2 : List Nat} {res : List V × Heap} (hi : i < ops.size) : ∀ (l1 : List Nat) (t : List V) (H : Heap),
    (∀ j ∈ l1, j < ops.size ∧ apartO ops (ops.getD j default) (ops.getD i default) = true ∧ (T.getD j .all).indep (T.getD i .all) = true) →
    runT P pol C fn fr ops T (l1 ++ i :: l2) t H = some res → runT P pol C fn fr ops T (i :: (l1 ++ l2)) t H = some res
  | [], t, H, _, h => h
  | j :: l1, t, H, hl, h => by
    obtain ⟨hj, ha, hI⟩ := hl j (by simp)
    simp only [List.cons_append, runT] at h
    cases h1 : stepT P pol C fn fr ops T j t H with
    | none => rw [h1] at h; cases h
    | some x =>
      obtain ⟨t1, H1⟩ := x
      rw [h1] at h
      have ih := runT_bubble hi l1 t1 H1 (fun k hk => hl k (by simp [hk])) h
      simp only [runT] at ih
      cases h2 : stepT P pol C fn fr ops T i t1 H1 with
      | none => rw [h2] at ih; cases ih
      | some y =>
        obtain ⟨t2, H2⟩ := y
        rw [h2] at ih
        have e1 : ops[j]? = some (ops.getD j default) := by simp [Array.getD, hj]
        have e2 : ops[i]? = some (ops.getD i default) := by simp [Array.getD, hi]
        obtain ⟨t1', H1', g1, g2⟩ := step_swap e1 e2 ha hI h1 h2
        simp only [List.cons_append, runT, g1, g2]
        exact ih

end

/-! ### What is ordered -/

/-- What `Region.before` says rests on what is ordered directly. -/
theorem before_spec (ops : Array Oper) : (Region.before ops).size = ops.size ∧ ∀ i o j, ops[i]? = some o → ((Region.before ops).getD i 0).testBit j = true →
    ∃ e ∈ o.after, Region.binds .any e = true ∧ (e.on = j ∨ ((Region.before ops).getD e.on 0).testBit j = true) := by
  have key : ∀ (l : List Oper) (acc : Array Nat) (pre : List Oper), acc.size = pre.length →
      (∀ i o j, pre[i]? = some o → (acc.getD i 0).testBit j = true → ∃ e ∈ o.after, Region.binds .any e = true ∧ (e.on = j ∨ (acc.getD e.on 0).testBit j = true)) →
      (l.foldl (fun acc o => acc.push (o.after.foldl (fun s e => if Region.binds .any e then s ||| 2 ^ e.on ||| acc.getD e.on 0 else s) 0)) acc).size = pre.length + l.length ∧
      ∀ i o j, (pre ++ l)[i]? = some o → ((l.foldl (fun acc o => acc.push (o.after.foldl (fun s e => if Region.binds .any e then s ||| 2 ^ e.on ||| acc.getD e.on 0 else s) 0)) acc).getD i 0).testBit j = true →
        ∃ e ∈ o.after, Region.binds .any e = true ∧ (e.on = j ∨ ((l.foldl (fun acc o => acc.push (o.after.foldl (fun s e => if Region.binds .any e then s ||| 2 ^ e.on ||| acc.getD e.on 0 else s) 0)) acc).getD e.on 0).testBit j = true) := by
    intro l
    induction l with
    | nil => intro acc pre hs h; simpa [hs] using h
    | cons o l ih =>
      intro acc pre hs h
      simp only [List.foldl_cons]
      generalize hn : o.after.foldl (fun s e => if Region.binds .any e then s ||| 2 ^ e.on ||| acc.getD e.on 0 else s) 0 = n
      have hgrow : ∀ k j, (acc.getD k 0).testBit j = true → ((acc.push n).getD k 0).testBit j = true := by
        intro k j hb
        have hk : k < acc.size := by
          rcases Nat.lt_or_ge k acc.size with hk | hk
          · exact hk
          · simp [Array.getD, Nat.not_lt.2 hk] at hb
        have : (acc.push n).getD k 0 = acc.getD k 0 := by
          simp only [Array.getD, hk, Array.size_push, Nat.lt_succ_of_lt hk, dif_pos, Array.getInternal_eq_getElem]
          exact Array.getElem_push_lt hk
        rw [this]; exact hb
      have hfold : ∀ (es : List Edge) (s j : Nat), ((es.foldl (fun s e => if Region.binds .any e then s ||| 2 ^ e.on ||| acc.getD e.on 0 else s) s)).testBit j = true →
          s.testBit j = true ∨ ∃ e ∈ es, Region.binds .any e = true ∧ (e.on = j ∨ (acc.getD e.on 0).testBit j = true) := by
        intro es
        induction es with
        | nil => intro s j hb; exact .inl hb
        | cons e es ihe =>
          intro s j hb
          simp only [List.foldl_cons] at hb
          rcases ihe _ j hb with g | ⟨e', he', g⟩
          · by_cases hbd : Region.binds .any e = true
            · rw [if_pos hbd] at g
              simp only [Nat.testBit_or, Bool.or_eq_true, Nat.testBit_two_pow, decide_eq_true_eq] at g
              rcases g with (g | g) | g
              · exact .inl g
              · exact .inr ⟨e, by simp, hbd, .inl g⟩
              · exact .inr ⟨e, by simp, hbd, .inr g⟩
            · rw [if_neg hbd] at g
              exact .inl g
          · exact .inr ⟨e', by simp [he'], g⟩
      have := ih (acc.push n) (pre ++ [o]) (by simp [hs]) (by
        intro i o' j hi hb
        rcases Nat.lt_or_ge i pre.length with hlt | hge
        · have hi' : pre[i]? = some o' := by rw [List.getElem?_append_left hlt] at hi; exact hi
          have : (acc.push n).getD i 0 = acc.getD i 0 := by
            have hk : i < acc.size := by omega
            simp only [Array.getD, hk, Array.size_push, Nat.lt_succ_of_lt hk, dif_pos, Array.getInternal_eq_getElem]
            exact Array.getElem_push_lt hk
          rw [this] at hb
          obtain ⟨e, h1, h2, h3⟩ := h i o' j hi' hb
          exact ⟨e, h1, h2, h3.imp_right (hgrow _ _)⟩
        · have hieq : i = pre.length := by
            rcases Nat.lt_or_ge i (pre ++ [o]).length with g | g
            · simp at g; omega
            · rw [List.getElem?_eq_none g] at hi; cases hi
          subst hieq
          have ho : o' = o := by simpa using hi.symm
          subst ho
          have hnv : (acc.push n).getD pre.length 0 = n := by rw [← hs]; simp [Array.getD]
          rw [hnv, ← hn, ← Array.foldl_toList] at hb
          rcases hfold _ _ _ hb with g | ⟨e, h1, h2, h3⟩
          · simp at g
          · exact ⟨e, by simpa using h1, h2, h3.imp_right (hgrow _ _)⟩)
      simpa [Nat.add_assoc, Nat.add_comm 1] using this
  have := key ops.toList #[] [] rfl (by intro i o j hi; simp at hi)
  simp only [List.length_nil, Nat.zero_add, List.nil_append, Array.length_toList] at this
  have e : Region.before ops = ops.toList.foldl (fun acc o => acc.push (o.after.foldl (fun s e => if Region.binds .any e then s ||| 2 ^ e.on ||| acc.getD e.on 0 else s) 0)) #[] := by
    unfold Region.before; rw [← Array.foldl_toList]
  rw [e]
  refine ⟨this.1, fun i o j hi hb => this.2 i o j (by simpa using hi) hb⟩

end Go.AM
