/- This file holds in one the texts An4, An5; each says at its head what it proves. -/
import Derived.Test.YtafhcdagifopeaaGreatDoorT3
import Derived.Laws.Entries
import Derived.Laws.Strings
import Derived.Laws.Strings2
set_option linter.unusedSimpArgs false
set_option linter.unusedVariables false
section
/- The abstract machine, part 4: the helpers of an operation do what the model's do (values alone). -/
namespace Go.AM
variable {P : Program} {E : Env}

theorem run_und {t : TypeId} {d : TypeDesc} (h : P.underlying t = some d) (w : World) : (underlying t).run P w = .ok d w := run_underlying h w
theorem run_sz {t : TypeId} {n : Nat} (h : sz P t = some n) (w : World) : (sizeOf t).run P w = .ok n w := by
  unfold sz at h
  cases hq : P.info? t with
  | none => rw [hq] at h; cases h
  | some i =>
    rw [hq] at h
    simp only [Option.map_some, Option.some.injEq] at h
    simp [sizeOf, typeInfo, hq, h]
theorem run_zer {t : TypeId} {z : Value} (h : zer P t = some z) (w : World) : (zeroValue t).run P w = .ok z w := by
  unfold zer at h
  cases hq : P.info? t with
  | none => rw [hq] at h; cases h
  | some i =>
    rw [hq] at h
    simp only [Option.bind_some] at h
    simp [zeroValue, typeInfo, hq, h]
theorem run_byt {t : TypeId} {n : Nat} (h : byt P t = some n) (w : World) : ∃ i, (typeInfo t).run P w = .ok i w ∧ i.bytes = n := by
  unfold byt at h
  cases hq : P.info? t with
  | none => rw [hq] at h; cases h
  | some i =>
    rw [hq] at h
    simp only [Option.map_some, Option.some.injEq] at h
    exact ⟨i, by simp [typeInfo, hq], h⟩
theorem run_isAgg {t : TypeId} {d : TypeDesc} (h : P.underlying t = some d) (w : World) : (isAgg t).run P w = .ok (aggD d) w := by
  simp only [isAgg, Sem.run_bind, run_und h, Result.andThen_ok]
  cases d <;> rfl

theorem rel_ofScalar (E : Env) (v : Value) : Rel E (ofScalar v) v := by
  unfold ofScalar
  split <;> simp [Rel]

theorem relL_ofScalar (E : Env) : ∀ (l : List Value), RelL E (l.map ofScalar) l
  | [] => .nil
  | v :: l => .cons (rel_ofScalar E v) (relL_ofScalar E l)

theorem rel_ofConst (E : Env) (v : Value) : Rel E (ofConst v) v := by
  cases v with
  | agg cs => simp only [ofConst, Rel]; exact ⟨cs.toList, by simp, relL_ofScalar E _⟩
  | iface t v => simp only [ofConst, Rel]; exact ⟨v, rfl, rel_ofScalar E v⟩
  | tuple cs => simp only [ofConst, Rel]; exact ⟨cs.toList, by simp, relL_ofScalar E _⟩
  | _ => first | exact rel_ofScalar E _ | simpa only [ofConst] using rel_ofScalar E _

theorem cells_oneCell {v : Value} (h : v.oneCell' = true) : v.cells = #[v] := by
  cases v <;> first | rfl | (simp [Value.oneCell'] at h)

theorem Rel.cells {x : V} {v : Value} {cs : List V} (h : Rel E x v) (hc : x.cells = some cs) : ∃ vs, v.cells = ⟨vs⟩ ∧ RelL E cs vs ∧ cs.all V.scalar = true := by
  have one : x.scalar = true → x.cells = some [x] → ∃ vs, v.cells = ⟨vs⟩ ∧ RelL E cs vs ∧ cs.all V.scalar = true := by
    intro hs hx
    rw [hx] at hc
    cases hc
    exact ⟨[v], cells_oneCell (h.oneCell hs), .cons h .nil, by simp [hs]⟩
  cases x with
  | agg xs =>
    simp only [V.cells] at hc
    split at hc
    · rename_i ha
      cases hc
      simp only [Rel] at h
      obtain ⟨vs, rfl, hl⟩ := h
      exact ⟨vs, rfl, hl, ha⟩
    · cases hc
  | bad => cases hc
  | tuple => cases hc
  | _ => exact one rfl rfl

theorem scalar_mem {E : Env} {xs : List V} : ∀ {vs : List Value}, RelL E xs vs → xs.all V.scalar = true → ∀ v ∈ vs, v.oneCell' = true := by
  induction xs with
  | nil => intro vs h _ v hv; rw [RelL.nil_iff] at h; subst h; cases hv
  | cons x xs ih =>
    intro vs h ha v hv
    obtain ⟨u, r, rfl, hu, hr⟩ := RelL.cons_iff.1 h
    simp only [List.all_cons, Bool.and_eq_true] at ha
    rcases List.mem_cons.1 hv with rfl | hv
    · exact hu.oneCell ha.1
    · exact ih hr ha.2 v hv

theorem RelL.splice {xs cs : List V} {vs us : List Value} (h : RelL E xs vs) (g : RelL E cs us) (o : Nat) : RelL E (splice xs o cs) (AM.splice vs o us) := by
  unfold AM.splice
  rw [g.length]
  exact ((h.take o).append g).append (h.drop _)

theorem splice_length {α : Type} (xs cs : List α) (o : Nat) (h : o + cs.length ≤ xs.length) : (splice xs o cs).length = xs.length := by
  simp [splice]; omega

theorem splice_all {xs cs : List V} (o : Nat) (h : xs.all V.scalar = true) (g : cs.all V.scalar = true) : (splice xs o cs).all V.scalar = true := by
  simp only [splice, List.all_append, Bool.and_eq_true]
  refine ⟨⟨?_, g⟩, ?_⟩
  · rw [List.all_eq_true] at h ⊢; exact fun x hx => h x (List.mem_of_mem_take hx)
  · rw [List.all_eq_true] at h ⊢; exact fun x hx => h x (List.mem_of_mem_drop hx)

def Lies (w : World) (b off : Nat) (vs : List Value) : Prop := ∀ i v, vs[i]? = some v → w.cell? ⟨b, off + i, none⟩ = some v

theorem Row.lies {b off : Nat} {vs : List Value} (h : Row E b off vs) : Lies E.w b off vs := fun i v hv => (h i v hv).1

theorem addr_add (b o n : Nat) : (⟨b, o, none⟩ : Addr).add n = ⟨b, o + n, none⟩ := by unfold Addr.add; split <;> simp_all

theorem Lies.take {w : World} {b off : Nat} {vs : List Value} (h : Lies w b off vs) (o n : Nat) : Lies w b (off + o) ((vs.drop o).take n) := by
  intro i v hv
  rw [List.getElem?_take] at hv
  split at hv
  · rw [List.getElem?_drop] at hv
    have := h (o + i) v hv
    rwa [← Nat.add_assoc] at this
  · cases hv

theorem run_loadCells_lies {w : World} {b off : Nat} {vs : List Value} (h : Lies w b off vs) : (loadCells ⟨b, off, none⟩ vs.length).run P w = .ok ⟨vs⟩ w :=
  run_loadCells_list w _ vs (fun j v hv => by rw [addr_add]; exact h j v hv)

theorem readAt_sound {w : World} {t : TypeId} {xs : List V} {o : Nat} {x : V} {b off : Nat} {vs : List Value} (h : readAt P t xs o = some x) (hr : RelL E xs vs) (hl : Lies w b off vs) :
    ∃ v, (loadVar t ⟨b, off + o, none⟩).run P w = .ok v w ∧ Rel E x v := by
  unfold readAt at h
  split at h
  · rename_i d n hd hn
    simp only [loadVar, Sem.run_bind, run_isAgg hd, Result.andThen_ok]
    cases ha : aggD d with
    | true =>
      simp only [ha, if_true] at h ⊢
      split at h
      · rename_i hle
        cases h
        have hlen : ((vs.drop o).take n).length = n := by
          have := hr.length
          simp; omega
        have := run_loadCells_lies (P := P) (hl.take o n)
        rw [hlen] at this
        refine ⟨.agg ⟨(vs.drop o).take n⟩, ?_, ?_⟩
        · simp only [Sem.run_bind, run_sz hn, Result.andThen_ok, this, Sem.run_pure]
        · simp only [Rel]
          exact ⟨_, rfl, (hr.drop o).take n⟩
      · cases h
    | false =>
      simp only [ha, Bool.false_eq_true, if_false] at h ⊢
      obtain ⟨v, hv, hrel⟩ := hr.get h
      refine ⟨v, ?_, hrel⟩
      rw [run_load, hl o v hv]
  · cases h

theorem partV_sound {w : World} {t : TypeId} {xs : List V} {o : Nat} {x : V} {vs : List Value} (h : partV P t xs o = some x) (hr : RelL E xs vs) :
    ∃ v, (part t ⟨vs⟩ o).run P w = .ok v w ∧ Rel E x v := by
  unfold partV at h
  split at h
  · rename_i d n hd hn
    simp only [part, Sem.run_bind, run_isAgg hd, Result.andThen_ok]
    cases ha : aggD d with
    | true =>
      simp only [ha, if_true] at h ⊢
      cases h
      refine ⟨.agg ⟨(vs.drop o).take n⟩, ?_, ?_⟩
      · simp only [Sem.run_bind, run_sz hn, Result.andThen_ok, Sem.run_pure]
        refine congrArg (fun a => Result.ok (Value.agg a) w) ?_
        apply Array.ext'
        simp [List.extract_eq_take_drop]
      · simp only [Rel]
        exact ⟨_, rfl, (hr.drop o).take n⟩
    | false =>
      simp only [ha, Bool.false_eq_true, if_false] at h ⊢
      obtain ⟨v, hv, hrel⟩ := hr.get h
      refine ⟨v, ?_, hrel⟩
      have : (⟨vs⟩ : Array Value)[o]? = some v := by simpa using hv
      simp [this]
  · cases h

theorem binI_sound {w : World} {op : BinOp} {k : IntKind} {a b : Int} {x : V} (t : TypeId) (h : binI op k a b = some x) :
    ∃ v, (binOp op t (.int k a) (.int k b)).run P w = .ok v w ∧ Rel E x v := by
  cases op <;> simp only [binI] at h
  case add => cases h; exact ⟨_, by simp [binOp, Op.intArith]; rfl, by simp [Rel]⟩
  case sub => cases h; exact ⟨_, by simp [binOp, Op.intArith]; rfl, by simp [Rel]⟩
  case mul => cases h; exact ⟨_, by simp [binOp, Op.intArith]; rfl, by simp [Rel]⟩
  case quo =>
    split at h
    · cases h
    · rename_i hb; cases h; exact ⟨_, by simp [binOp, Op.intDiv, hb]; rfl, by simp [Rel]⟩
  case rem =>
    split at h
    · cases h
    · rename_i hb; cases h; exact ⟨_, by simp [binOp, Op.intDiv, hb]; rfl, by simp [Rel]⟩
  case and => cases h; exact ⟨_, by simp only [binOp, ne_eq, not_true, if_false, Op.intBits, Sem.run_pure]; rfl, by simp [Rel]⟩
  case or => cases h; exact ⟨_, by simp only [binOp, ne_eq, not_true, if_false, Op.intBits, Sem.run_pure]; rfl, by simp [Rel]⟩
  case xor => cases h; exact ⟨_, by simp only [binOp, ne_eq, not_true, if_false, Op.intBits, Sem.run_pure]; rfl, by simp [Rel]⟩
  case andNot => cases h; exact ⟨_, by simp only [binOp, ne_eq, not_true, if_false, Op.intBits, Sem.run_pure]; rfl, by simp [Rel]⟩
  case eql => cases h; exact ⟨_, by simp [binOp, Op.intCmp]; rfl, by simp [Rel]⟩
  case neq => cases h; exact ⟨_, by simp [binOp, Op.intCmp]; rfl, by simp [Rel]⟩
  case lss => cases h; exact ⟨_, by simp [binOp, Op.intCmp]; rfl, by simp [Rel]⟩
  case leq => cases h; exact ⟨_, by simp [binOp, Op.intCmp]; rfl, by simp [Rel]⟩
  case gtr => cases h; exact ⟨_, by simp [binOp, Op.intCmp]; rfl, by simp [Rel]⟩
  case geq => cases h; exact ⟨_, by simp [binOp, Op.intCmp]; rfl, by simp [Rel]⟩
  case shl => cases h
  case shr => cases h

theorem shiftI_sound {w : World} {op : BinOp} {k k' : IntKind} {a b : Int} {x : V} (h : shiftI op k a b = some x) :
    ∃ v, (Op.shift op k a k' b).run P w = .ok v w ∧ Rel E x v := by
  unfold shiftI at h
  split at h
  · cases h
  · rename_i hb
    cases op <;> simp only [reduceCtorEq] at h
    case shl => cases h; exact ⟨_, by simp only [Op.shift, hb, if_false, Sem.run_pure]; rfl, by simp [Rel]⟩
    case shr => cases h; exact ⟨_, by simp only [Op.shift, hb, if_false, Sem.run_pure]; rfl, by simp [Rel]⟩

theorem binS_sound {w : World} {op : BinOp} {a b : List UInt8} {x : V} (h : binS op a b = some x) :
    ∃ v, (Op.stringOp op ⟨⟨a⟩⟩ ⟨⟨b⟩⟩).run P w = .ok v w ∧ Rel E x v := by
  have e1 : (⟨⟨a⟩⟩ : ByteArray).toList = a := ByteArray.toList_mk a
  have e2 : (⟨⟨b⟩⟩ : ByteArray).toList = b := ByteArray.toList_mk b
  cases op <;> simp only [binS, reduceCtorEq] at h
  case add =>
    split at h
    · rename_i hle
      cases h
      have h1 : (⟨⟨a⟩⟩ : ByteArray).size = a.length := rfl
      have h2 : (⟨⟨b⟩⟩ : ByteArray).size = b.length := rfl
      have hm : IntKind.i64.max = 9223372036854775807 := by decide
      have h3 : ¬ ((((⟨⟨a⟩⟩ : ByteArray).size + (⟨⟨b⟩⟩ : ByteArray).size : Nat) : Int) > IntKind.i64.max) := by rw [h1, h2, hm]; omega
      refine ⟨.string (⟨⟨a⟩⟩ ++ ⟨⟨b⟩⟩), by simp only [Op.stringOp, h3, if_false, Sem.run_pure], ?_⟩
      simp only [Rel, Value.string.injEq]
      apply ByteArray.ext
      simp
    · cases h
  case eql => cases h; exact ⟨_, by simp only [Op.stringOp, e1, e2, Sem.run_pure]; rfl, by simp [Rel]⟩
  case neq => cases h; exact ⟨_, by simp only [Op.stringOp, e1, e2, Sem.run_pure]; rfl, by simp [Rel]⟩
  case lss => cases h; exact ⟨_, by simp only [Op.stringOp, e1, e2, Sem.run_pure]; rfl, by simp [Rel]⟩
  case leq => cases h; exact ⟨_, by simp only [Op.stringOp, e1, e2, Sem.run_pure]; rfl, by simp [Rel]⟩
  case gtr => cases h; exact ⟨_, by simp only [Op.stringOp, e1, e2, Sem.run_pure]; rfl, by simp [Rel]⟩
  case geq => cases h; exact ⟨_, by simp only [Op.stringOp, e1, e2, Sem.run_pure]; rfl, by simp [Rel]⟩

theorem unV_sound {w : World} {op : UnOp} {a : V} {x : V} {c : Value} (h : unV op a = some x) (hr : Rel E a c) :
    ∃ v, (Op.unary op c).run P w = .ok v w ∧ Rel E x v := by
  unfold unV at h
  split at h
  · cases h; simp only [Rel] at hr; subst hr; exact ⟨_, by simp only [Op.unary, Op.intArith, Sem.run_pure]; rfl, by simp [Rel]⟩
  · cases h; simp only [Rel] at hr; subst hr; exact ⟨_, by simp only [Op.unary, Op.intBits, Sem.run_pure]; rfl, by simp [Rel]⟩
  · cases h; simp only [Rel] at hr; subst hr; exact ⟨_, by simp only [Op.unary, Sem.run_pure]; rfl, by simp [Rel]⟩
  · cases h

end Go.AM
end
section
/- The abstract machine, part 5: building, slicing, indexing, comparing: as the model does. -/
namespace Go.AM
variable {P : Program} {E : Env}

theorem fold_splice (off : Nat) : ∀ (us vs : List Value) (k : Nat), off + k + us.length ≤ vs.length →
    (us.zipIdx k).foldl (fun (cs : Array Value) (x : Value × Nat) => cs.setIfInBounds (off + x.2) x.1) ⟨vs⟩ = ⟨vs.take (off + k) ++ us ++ vs.drop (off + k + us.length)⟩
  | [], vs, k, _ => by simp
  | u :: us, vs, k, h => by
    simp only [List.zipIdx_cons, List.foldl_cons]
    have e : (⟨vs⟩ : Array Value).setIfInBounds (off + k) u = ⟨vs.set (off + k) u⟩ := by simp
    rw [e, fold_splice off us (vs.set (off + k) u) (k + 1) (by simp at h ⊢; omega)]
    congr 1
    have := list_seg_step vs (off + k) u us (by simp at h; omega)
    simpa [Nat.add_assoc, Nat.add_comm 1] using this

theorem fold_splice' (off : Nat) (us vs : List Value) (h : off + us.length ≤ vs.length) :
    (⟨us⟩ : Array Value).zipIdx.foldl (fun (cs : Array Value) (x : Value × Nat) => cs.setIfInBounds (off + x.2) x.1) ⟨vs⟩ = ⟨splice vs off us⟩ := by
  rw [← Array.foldl_toList]
  have := fold_splice off us vs 0 (by simpa using h)
  simpa [splice] using this

theorem fillV_sound (place : Nat → Option (Nat × Nat)) : ∀ (parts : List (Nat × V)) (xs : List V) (vs : List Value) (cparts : List (Nat × Value)) (ys : List V),
    RelL E xs vs → xs.all V.scalar = true → parts.length = cparts.length → (∀ (i : Nat) (p : Nat × V) (c : Nat × Value), parts[i]? = some p → cparts[i]? = some c → p.1 = c.1 ∧ Rel E p.2 c.2) → fillV place xs parts = some ys →
    ∃ us, Instr.fill place ⟨vs⟩ cparts = some ⟨us⟩ ∧ RelL E ys us ∧ ys.all V.scalar = true
  | [], xs, vs, cparts, ys, hr, ha, hl, _, h => by
    cases cparts with
    | cons => simp at hl
    | nil => cases h; exact ⟨vs, rfl, hr, ha⟩
  | (i, v) :: parts, xs, vs, cparts, ys, hr, ha, hl, hp, h => by
    cases cparts with
    | nil => simp at hl
    | cons c cparts =>
      obtain ⟨j, cv⟩ := c
      obtain ⟨h1, h2⟩ := hp 0 _ _ rfl rfl
      simp only at h1 h2
      subst h1
      simp only [fillV] at h
      split at h
      · rename_i off size cs hpl hcs
        split at h
        · rename_i hle
          obtain ⟨us, hus, hrel, hsc⟩ := h2.cells hcs
          have hlen : us.length = size := by rw [← hrel.length]; exact hle.1
          have hxl := hr.length
          have hle2 : off + us.length ≤ vs.length := by rw [← hrel.length, ← hxl]; exact hle.2
          obtain ⟨ws, hws, hr', ha'⟩ := fillV_sound place parts (splice xs off cs) (splice vs off us) cparts ys (hr.splice hrel off) (splice_all off ha hsc) (by simpa using hl)
            (fun i p c a b => hp (i + 1) p c (by simpa using a) (by simpa using b)) h
          refine ⟨ws, ?_, hr', ha'⟩
          simp only [Instr.fill, hpl, hus]
          have hfold := fold_splice' off us vs hle2
          rw [if_neg]
          · rw [hfold]; exact hws
          · simp [hlen]; omega
        · cases h
      · cases h

theorem places_sound (w : World) : ∀ (fs : List Field) (ps : List (Nat × Nat)), places P fs = some ps →
    (fs.mapM (m := Sem) fun f => do pure (f.offset, ← sizeOf f.type)).run P w = .ok ps w
  | [], ps, h => by cases h; rfl
  | f :: fs, ps, h => by
    simp only [places] at h
    split at h
    · rename_i n r h1 h2
      cases h
      simp only [List.mapM_cons, Sem.run_bind, run_sz h1, Result.andThen_ok, Sem.run_pure, places_sound w fs r h2]
    · cases h

theorem zeroCells_sound {t : TypeId} {z : List V} (h : zeroCells P t = some z) (w : World) :
    ∃ zv vs, (zeroValue t).run P w = .ok zv w ∧ zv.cells = ⟨vs⟩ ∧ (∀ E : Env, RelL E z vs) ∧ z.all V.scalar = true := by
  unfold zeroCells at h
  cases hz : zer P t with
  | none => rw [hz] at h; cases h
  | some zv =>
    rw [hz] at h
    simp only [Option.bind_some] at h
    have key : ∀ E : Env, ∃ vs, zv.cells = ⟨vs⟩ ∧ RelL E z vs ∧ z.all V.scalar = true := fun E => (rel_ofConst E zv).cells h
    refine ⟨zv, zv.cells.toList, run_zer hz w, by simp, fun E => ?_, ?_⟩
    · obtain ⟨vs, h1, h2, _⟩ := key E
      rw [h1]; exact h2
    · obtain ⟨vs, _, _, h3⟩ := key { w := w, mu := fun _ _ => none, reg := fun _ _ => none, mod := fun _ _ => False, tab := fun _ _ => none }
      exact h3

theorem buildV_sound {t : TypeId} {parts : List (Nat × V)} {x : V} (w : World) (h : buildV P t parts = some x) (cparts : Array (Nat × Value)) (hl : parts.length = cparts.size)
    (hp : ∀ (i : Nat) (p : Nat × V) (c : Nat × Value), parts[i]? = some p → cparts[i]? = some c → p.1 = c.1 ∧ Rel E p.2 c.2) :
    ∃ v, (Instr.build t cparts).run P w = .ok v w ∧ Rel E x v := by
  unfold buildV at h
  have hp' : ∀ (i : Nat) (p : Nat × V) (c : Nat × Value), parts[i]? = some p → cparts.toList[i]? = some c → p.1 = c.1 ∧ Rel E p.2 c.2 :=
    fun i p c a b => hp i p c a (by simpa using b)
  split at h
  · rename_i z fs hz hu
    obtain ⟨zv, vs, h1, h2, h3, h4⟩ := zeroCells_sound hz w
    split at h
    · rename_i ps hps
      cases hf : fillV (fun i => ps[i]?) z parts with
      | none => rw [hf] at h; cases h
      | some ys =>
        rw [hf] at h; cases h
        obtain ⟨us, hus, hr, _⟩ := fillV_sound (fun i => ps[i]?) parts z vs cparts.toList ys (h3 E) h4 (by simpa using hl) hp' hf
        refine ⟨.agg ⟨us⟩, ?_, by simp only [Rel]; exact ⟨us, rfl, hr⟩⟩
        have hm : (fs.mapM (m := Sem) fun f => do pure (f.offset, ← sizeOf f.type)).run P w = .ok ⟨ps⟩ w := by
          rw [Array.mapM_eq_mapM_toList]
          simp only [Sem.run_map, places_sound w fs.toList ps hps, Result.andThen_ok]
        have hus' : Instr.fill (fun i => (⟨ps⟩ : Array (Nat × Nat))[i]?) ⟨vs⟩ cparts.toList = some ⟨us⟩ := by simpa using hus
        simp only [Instr.build, Sem.run_bind, h1, Result.andThen_ok, run_und hu, hm, h2, hus', Sem.run_pure]
    · cases h
  · rename_i z n e hz hu
    obtain ⟨zv, vs, h1, h2, h3, h4⟩ := zeroCells_sound hz w
    split at h
    · rename_i k hk
      cases hf : fillV (fun i => some (i * k, k)) z parts with
      | none => rw [hf] at h; cases h
      | some ys =>
        rw [hf] at h; cases h
        obtain ⟨us, hus, hr, _⟩ := fillV_sound (fun i => some (i * k, k)) parts z vs cparts.toList ys (h3 E) h4 (by simpa using hl) hp' hf
        refine ⟨.agg ⟨us⟩, ?_, by simp only [Rel]; exact ⟨us, rfl, hr⟩⟩
        simp only [Instr.build, Sem.run_bind, h1, Result.andThen_ok, run_und hu, run_sz hk, h2, hus, Sem.run_pure]
    · cases h
  · cases h

theorem RelL.zerosN {xs : List V} {vs : List Value} (h : RelL E xs vs) : ∀ n, RelL E (zerosN xs n) (zerosN vs n)
  | 0 => .nil
  | n + 1 => h.append (RelL.zerosN h n)

theorem zerosN_length {α : Type} (z : List α) : ∀ n, (zerosN z n).length = n * z.length
  | 0 => by simp [zerosN]
  | n + 1 => by simp [zerosN, zerosN_length z n, Nat.add_mul, Nat.add_comm]

theorem zerosN_all {z : List V} (h : z.all V.scalar = true) : ∀ n, (zerosN z n).all V.scalar = true
  | 0 => rfl
  | n + 1 => by rw [zerosN, List.all_append, h, zerosN_all h n]; rfl

theorem range_zeros (zs : List Value) : ∀ n, ((Array.range (n * zs.length)).map fun i => (⟨zs⟩ : Array Value)[i % (⟨zs⟩ : Array Value).size]!) = ⟨zerosN zs n⟩ := by
  intro n
  apply Array.ext'
  simp only [Array.toList_map, Array.toList_range]
  induction n with
  | zero => simp [AM.zerosN]
  | succ n ih =>
    rw [show (n + 1) * zs.length = zs.length + n * zs.length by rw [Nat.add_mul, Nat.one_mul, Nat.add_comm], List.range_add, List.map_append, AM.zerosN]
    congr 1
    · apply List.ext_getElem?
      intro i
      simp only [List.getElem?_map]
      by_cases hi : i < zs.length
      · simp [hi, Nat.mod_eq_of_lt hi]
      · simp [hi]
    · rw [List.map_map, ← ih]
      apply List.map_congr_left
      intro i _
      simp

theorem cuts_sound {len cap : Nat} {lo hi mx : Option Int} {l h m : Nat} (hc : cuts len cap lo hi mx = some (l, h, m)) :
    (lo.getD 0 = l) ∧ (hi.getD len = h) ∧ (mx.getD cap = m) ∧ l ≤ h ∧ h ≤ m ∧ m ≤ cap ∧ (mx.isSome = true → hi.isSome = true) := by
  unfold cuts at hc
  split at hc
  · rename_i hh
    simp only [Option.some.injEq, Prod.mk.injEq] at hc
    obtain ⟨rfl, rfl, rfl⟩ := hc
    obtain ⟨a, b, c, d, e, f, g⟩ := hh
    refine ⟨?_, ?_, ?_, ?_, ?_, ?_, g⟩ <;> omega
  · cases hc

def RelO (E : Env) : Option V → Option Value → Prop
  | none, none => True
  | some x, some v => Rel E x v
  | _, _ => False

theorem optInt_sound {x : Option V} {v : Option Value} {i : Option Int} (h : optInt x = some i) (hr : RelO E x v) :
    (i = none ∧ v = none) ∨ ∃ k n, i = some n ∧ v = some (.int k n) := by
  unfold optInt at h
  split at h
  · cases h; cases v with | none => exact .inl ⟨rfl, rfl⟩ | some => exact hr.elim
  · cases h
    cases v with
    | none => exact hr.elim
    | some v => simp only [RelO, Rel] at hr; subst hr; exact .inr ⟨_, _, rfl, rfl⟩
  · cases h

theorem run_sliceBound {k : IntKind} {n : Int} {y m : Nat} {code : BoundsCode} (w : World) (h : n = m) (hy : m ≤ y) :
    (Instr.sliceBound (.int k n) y code).run P w = .ok m w := by
  subst h
  have : (0 : Int) ≤ (m : Int) ∧ (m : Int) ≤ (y : Int) := by omega
  simp [Instr.sliceBound, asIntOf, this]

theorem run_sliceBounds {len cap : Nat} {lo hi mx : Option Int} {l h m : Nat} {vlo vhi vmx : Option Value} (w : World) (b : Bool) (hc : cuts len cap lo hi mx = some (l, h, m))
    (h1 : (lo = none ∧ vlo = none) ∨ ∃ k n, lo = some n ∧ vlo = some (.int k n)) (h2 : (hi = none ∧ vhi = none) ∨ ∃ k n, hi = some n ∧ vhi = some (.int k n))
    (h3 : (mx = none ∧ vmx = none) ∨ ∃ k n, mx = some n ∧ vmx = some (.int k n)) :
    (Instr.sliceBounds b len cap vlo vhi vmx).run P w = .ok (l, h, m) w := by
  obtain ⟨e1, e2, e3, g1, g2, g3, g4⟩ := cuts_sound hc
  rcases h3 with ⟨rfl, rfl⟩ | ⟨k3, n3, rfl, rfl⟩
  · simp only [Option.getD_none, Int.natCast_inj] at e3
    subst e3
    rcases h2 with ⟨rfl, rfl⟩ | ⟨k2, n2, rfl, rfl⟩
    · simp only [Option.getD_none, Int.natCast_inj] at e2
      subst e2
      rcases h1 with ⟨rfl, rfl⟩ | ⟨k1, n1, rfl, rfl⟩
      · simp only [Option.getD_none] at e1
        obtain rfl : l = 0 := by omega
        simp [Instr.sliceBounds]
      · simp only [Option.getD_some] at e1
        simp [Instr.sliceBounds, run_sliceBound w e1 g1]
    · simp only [Option.getD_some] at e2
      rcases h1 with ⟨rfl, rfl⟩ | ⟨k1, n1, rfl, rfl⟩
      · simp only [Option.getD_none] at e1
        obtain rfl : l = 0 := by omega
        simp [Instr.sliceBounds, run_sliceBound w e2 g2]
      · simp only [Option.getD_some] at e1
        simp [Instr.sliceBounds, run_sliceBound w e2 g2, run_sliceBound w e1 g1]
  · simp only [Option.getD_some] at e3
    rcases h2 with ⟨rfl, rfl⟩ | ⟨k2, n2, rfl, rfl⟩
    · simp at g4
    · simp only [Option.getD_some] at e2
      rcases h1 with ⟨rfl, rfl⟩ | ⟨k1, n1, rfl, rfl⟩
      · simp only [Option.getD_none] at e1
        obtain rfl : l = 0 := by omega
        simp [Instr.sliceBounds, run_sliceBound w e3 g3, run_sliceBound w e2 g2]
      · simp only [Option.getD_some] at e1
        simp [Instr.sliceBounds, run_sliceBound w e3 g3, run_sliceBound w e2 g2, run_sliceBound w e1 g1]

end Go.AM
end
