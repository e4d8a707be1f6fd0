/- The abstract machine, part 4: the helpers of an operation do what the model's do (values alone). -/
import Derived.Test.YtebbgmeomkjibaaAm3
import Derived.Laws.Entries
import Derived.Laws.Strings
import Derived.Laws.Strings2
set_option linter.unusedSimpArgs false
set_option linter.unusedVariables false
namespace Go.AM
variable {P : Program} {E : Env}

theorem run_und {t : TypeId} {d : TypeDesc} (h : P.underlying t = some d) (w : World) : (underlying t).run P w = .ok d w := run_underlying h w
theorem run_sz {t : TypeId} {n : Nat} (h : sz P t = some n) (w : World) : (sizeOf t).run P w = .ok n w := by
  unfold sz at h
  cases hq : P.info? t with
  | none => rw [hq] at h; cases h
  | some i =>
    rw [hq] at h
    simp only [Option.map_some, Option.some.injEq] at h
    simp [sizeOf, typeInfo, hq, h]
theorem run_zer {t : TypeId} {z : Value} (h : zer P t = some z) (w : World) : (zeroValue t).run P w = .ok z w := by
  unfold zer at h
  cases hq : P.info? t with
  | none => rw [hq] at h; cases h
  | some i =>
    rw [hq] at h
    simp only [Option.bind_some] at h
    simp [zeroValue, typeInfo, hq, h]
theorem run_byt {t : TypeId} {n : Nat} (h : byt P t = some n) (w : World) : ∃ i, (typeInfo t).run P w = .ok i w ∧ i.bytes = n := by
  unfold byt at h
  cases hq : P.info? t with
  | none => rw [hq] at h; cases h
  | some i =>
    rw [hq] at h
    simp only [Option.map_some, Option.some.injEq] at h
    exact ⟨i, by simp [typeInfo, hq], h⟩
theorem run_isAgg {t : TypeId} {d : TypeDesc} (h : P.underlying t = some d) (w : World) : (isAgg t).run P w = .ok (aggD d) w := by
  simp only [isAgg, Sem.run_bind, run_und h, Result.andThen_ok]
  cases d <;> rfl

theorem rel_ofScalar (E : Env) (v : Value) : Rel E (ofScalar v) v := by
  unfold ofScalar
  split <;> simp [Rel]

theorem relL_ofScalar (E : Env) : ∀ (l : List Value), RelL E (l.map ofScalar) l
  | [] => .nil
  | v :: l => .cons (rel_ofScalar E v) (relL_ofScalar E l)

theorem rel_ofConst (E : Env) (v : Value) : Rel E (ofConst v) v := by
  cases v with
  | agg cs => simp only [ofConst, Rel]; exact ⟨cs.toList, by simp, relL_ofScalar E _⟩
  | iface t v => simp only [ofConst, Rel]; exact ⟨v, rfl, rel_ofScalar E v⟩
  | tuple cs => simp only [ofConst, Rel]; exact ⟨cs.toList, by simp, relL_ofScalar E _⟩
  | _ => first | exact rel_ofScalar E _ | simpa only [ofConst] using rel_ofScalar E _

theorem cells_oneCell {v : Value} (h : v.oneCell' = true) : v.cells = #[v] := by
  cases v <;> first | rfl | (simp [Value.oneCell'] at h)

/-- The cells of a value. -/
theorem Rel.cells {x : V} {v : Value} {cs : List V} (h : Rel E x v) (hc : x.cells = some cs) : ∃ vs, v.cells = ⟨vs⟩ ∧ RelL E cs vs ∧ cs.all V.scalar = true := by
  have one : x.scalar = true → x.cells = some [x] → ∃ vs, v.cells = ⟨vs⟩ ∧ RelL E cs vs ∧ cs.all V.scalar = true := by
    intro hs hx
    rw [hx] at hc
    cases hc
    exact ⟨[v], cells_oneCell (h.oneCell hs), .cons h .nil, by simp [hs]⟩
  cases x with
  | agg xs =>
    simp only [V.cells] at hc
    split at hc
    · rename_i ha
      cases hc
      simp only [Rel] at h
      obtain ⟨vs, rfl, hl⟩ := h
      exact ⟨vs, rfl, hl, ha⟩
    · cases hc
  | bad => cases hc
  | tuple => cases hc
  | _ => exact one rfl rfl

theorem scalar_mem {E : Env} {xs : List V} : ∀ {vs : List Value}, RelL E xs vs → xs.all V.scalar = true → ∀ v ∈ vs, v.oneCell' = true := by
  induction xs with
  | nil => intro vs h _ v hv; rw [RelL.nil_iff] at h; subst h; cases hv
  | cons x xs ih =>
    intro vs h ha v hv
    obtain ⟨u, r, rfl, hu, hr⟩ := RelL.cons_iff.1 h
    simp only [List.all_cons, Bool.and_eq_true] at ha
    rcases List.mem_cons.1 hv with rfl | hv
    · exact hu.oneCell ha.1
    · exact ih hr ha.2 v hv

theorem RelL.splice {xs cs : List V} {vs us : List Value} (h : RelL E xs vs) (g : RelL E cs us) (o : Nat) : RelL E (splice xs o cs) (AM.splice vs o us) := by
  unfold AM.splice
  rw [g.length]
  exact ((h.take o).append g).append (h.drop _)

theorem splice_length {α : Type} (xs cs : List α) (o : Nat) (h : o + cs.length ≤ xs.length) : (splice xs o cs).length = xs.length := by
  simp [splice]; omega

theorem splice_all {xs cs : List V} (o : Nat) (h : xs.all V.scalar = true) (g : cs.all V.scalar = true) : (splice xs o cs).all V.scalar = true := by
  simp only [splice, List.all_append, Bool.and_eq_true]
  refine ⟨⟨?_, g⟩, ?_⟩
  · rw [List.all_eq_true] at h ⊢; exact fun x hx => h x (List.mem_of_mem_take hx)
  · rw [List.all_eq_true] at h ⊢; exact fun x hx => h x (List.mem_of_mem_drop hx)

/-- Cells that lie in a block. -/
def Lies (w : World) (b off : Nat) (vs : List Value) : Prop := ∀ i v, vs[i]? = some v → w.cell? ⟨b, off + i, none⟩ = some v

theorem Row.lies {b off : Nat} {vs : List Value} (h : Row E b off vs) : Lies E.w b off vs := fun i v hv => (h i v hv).1

theorem addr_add (b o n : Nat) : (⟨b, o, none⟩ : Addr).add n = ⟨b, o + n, none⟩ := by unfold Addr.add; split <;> simp_all

theorem Lies.take {w : World} {b off : Nat} {vs : List Value} (h : Lies w b off vs) (o n : Nat) : Lies w b (off + o) ((vs.drop o).take n) := by
  intro i v hv
  rw [List.getElem?_take] at hv
  split at hv
  · rw [List.getElem?_drop] at hv
    have := h (o + i) v hv
    rwa [← Nat.add_assoc] at this
  · cases hv

theorem run_loadCells_lies {w : World} {b off : Nat} {vs : List Value} (h : Lies w b off vs) : (loadCells ⟨b, off, none⟩ vs.length).run P w = .ok ⟨vs⟩ w :=
  run_loadCells_list w _ vs (fun j v hv => by rw [addr_add]; exact h j v hv)

theorem readAt_sound {w : World} {t : TypeId} {xs : List V} {o : Nat} {x : V} {b off : Nat} {vs : List Value} (h : readAt P t xs o = some x) (hr : RelL E xs vs) (hl : Lies w b off vs) :
    ∃ v, (loadVar t ⟨b, off + o, none⟩).run P w = .ok v w ∧ Rel E x v := by
  unfold readAt at h
  split at h
  · rename_i d n hd hn
    simp only [loadVar, Sem.run_bind, run_isAgg hd, Result.andThen_ok]
    cases ha : aggD d with
    | true =>
      simp only [ha, if_true] at h ⊢
      split at h
      · rename_i hle
        cases h
        have hlen : ((vs.drop o).take n).length = n := by
          have := hr.length
          simp; omega
        have := run_loadCells_lies (P := P) (hl.take o n)
        rw [hlen] at this
        refine ⟨.agg ⟨(vs.drop o).take n⟩, ?_, ?_⟩
        · simp only [Sem.run_bind, run_sz hn, Result.andThen_ok, this, Sem.run_pure]
        · simp only [Rel]
          exact ⟨_, rfl, (hr.drop o).take n⟩
      · cases h
    | false =>
      simp only [ha, Bool.false_eq_true, if_false] at h ⊢
      obtain ⟨v, hv, hrel⟩ := hr.get h
      refine ⟨v, ?_, hrel⟩
      rw [run_load, hl o v hv]
  · cases h

theorem partV_sound {w : World} {t : TypeId} {xs : List V} {o : Nat} {x : V} {vs : List Value} (h : partV P t xs o = some x) (hr : RelL E xs vs) :
    ∃ v, (part t ⟨vs⟩ o).run P w = .ok v w ∧ Rel E x v := by
  unfold partV at h
  split at h
  · rename_i d n hd hn
    simp only [part, Sem.run_bind, run_isAgg hd, Result.andThen_ok]
    cases ha : aggD d with
    | true =>
      simp only [ha, if_true] at h ⊢
      cases h
      refine ⟨.agg ⟨(vs.drop o).take n⟩, ?_, ?_⟩
      · simp only [Sem.run_bind, run_sz hn, Result.andThen_ok, Sem.run_pure]
        refine congrArg (fun a => Result.ok (Value.agg a) w) ?_
        apply Array.ext'
        simp [List.extract_eq_take_drop]
      · simp only [Rel]
        exact ⟨_, rfl, (hr.drop o).take n⟩
    | false =>
      simp only [ha, Bool.false_eq_true, if_false] at h ⊢
      obtain ⟨v, hv, hrel⟩ := hr.get h
      refine ⟨v, ?_, hrel⟩
      have : (⟨vs⟩ : Array Value)[o]? = some v := by simpa using hv
      simp [this]
  · cases h

theorem binI_sound {w : World} {op : BinOp} {k : IntKind} {a b : Int} {x : V} (t : TypeId) (h : binI op k a b = some x) :
    ∃ v, (binOp op t (.int k a) (.int k b)).run P w = .ok v w ∧ Rel E x v := by
  cases op <;> simp only [binI] at h
  case add => cases h; exact ⟨_, by simp [binOp, Op.intArith]; rfl, by simp [Rel]⟩
  case sub => cases h; exact ⟨_, by simp [binOp, Op.intArith]; rfl, by simp [Rel]⟩
  case mul => cases h; exact ⟨_, by simp [binOp, Op.intArith]; rfl, by simp [Rel]⟩
  case quo =>
    split at h
    · cases h
    · rename_i hb; cases h; exact ⟨_, by simp [binOp, Op.intDiv, hb]; rfl, by simp [Rel]⟩
  case rem =>
    split at h
    · cases h
    · rename_i hb; cases h; exact ⟨_, by simp [binOp, Op.intDiv, hb]; rfl, by simp [Rel]⟩
  case and => cases h; exact ⟨_, by simp only [binOp, ne_eq, not_true, if_false, Op.intBits, Sem.run_pure]; rfl, by simp [Rel]⟩
  case or => cases h; exact ⟨_, by simp only [binOp, ne_eq, not_true, if_false, Op.intBits, Sem.run_pure]; rfl, by simp [Rel]⟩
  case xor => cases h; exact ⟨_, by simp only [binOp, ne_eq, not_true, if_false, Op.intBits, Sem.run_pure]; rfl, by simp [Rel]⟩
  case andNot => cases h; exact ⟨_, by simp only [binOp, ne_eq, not_true, if_false, Op.intBits, Sem.run_pure]; rfl, by simp [Rel]⟩
  case eql => cases h; exact ⟨_, by simp [binOp, Op.intCmp]; rfl, by simp [Rel]⟩
  case neq => cases h; exact ⟨_, by simp [binOp, Op.intCmp]; rfl, by simp [Rel]⟩
  case lss => cases h; exact ⟨_, by simp [binOp, Op.intCmp]; rfl, by simp [Rel]⟩
  case leq => cases h; exact ⟨_, by simp [binOp, Op.intCmp]; rfl, by simp [Rel]⟩
  case gtr => cases h; exact ⟨_, by simp [binOp, Op.intCmp]; rfl, by simp [Rel]⟩
  case geq => cases h; exact ⟨_, by simp [binOp, Op.intCmp]; rfl, by simp [Rel]⟩
  case shl => cases h
  case shr => cases h

theorem shiftI_sound {w : World} {op : BinOp} {k k' : IntKind} {a b : Int} {x : V} (h : shiftI op k a b = some x) :
    ∃ v, (Op.shift op k a k' b).run P w = .ok v w ∧ Rel E x v := by
  unfold shiftI at h
  split at h
  · cases h
  · rename_i hb
    cases op <;> simp only [reduceCtorEq] at h
    case shl => cases h; exact ⟨_, by simp only [Op.shift, hb, if_false, Sem.run_pure]; rfl, by simp [Rel]⟩
    case shr => cases h; exact ⟨_, by simp only [Op.shift, hb, if_false, Sem.run_pure]; rfl, by simp [Rel]⟩

theorem binS_sound {w : World} {op : BinOp} {a b : List UInt8} {x : V} (h : binS op a b = some x) :
    ∃ v, (Op.stringOp op ⟨⟨a⟩⟩ ⟨⟨b⟩⟩).run P w = .ok v w ∧ Rel E x v := by
  have e1 : (⟨⟨a⟩⟩ : ByteArray).toList = a := ByteArray.toList_mk a
  have e2 : (⟨⟨b⟩⟩ : ByteArray).toList = b := ByteArray.toList_mk b
  cases op <;> simp only [binS, reduceCtorEq] at h
  case add =>
    split at h
    · rename_i hle
      cases h
      have h1 : (⟨⟨a⟩⟩ : ByteArray).size = a.length := rfl
      have h2 : (⟨⟨b⟩⟩ : ByteArray).size = b.length := rfl
      have hm : IntKind.i64.max = 9223372036854775807 := by decide
      have h3 : ¬ ((((⟨⟨a⟩⟩ : ByteArray).size + (⟨⟨b⟩⟩ : ByteArray).size : Nat) : Int) > IntKind.i64.max) := by rw [h1, h2, hm]; omega
      refine ⟨.string (⟨⟨a⟩⟩ ++ ⟨⟨b⟩⟩), by simp only [Op.stringOp, h3, if_false, Sem.run_pure], ?_⟩
      simp only [Rel, Value.string.injEq]
      apply ByteArray.ext
      simp
    · cases h
  case eql => cases h; exact ⟨_, by simp only [Op.stringOp, e1, e2, Sem.run_pure]; rfl, by simp [Rel]⟩
  case neq => cases h; exact ⟨_, by simp only [Op.stringOp, e1, e2, Sem.run_pure]; rfl, by simp [Rel]⟩
  case lss => cases h; exact ⟨_, by simp only [Op.stringOp, e1, e2, Sem.run_pure]; rfl, by simp [Rel]⟩
  case leq => cases h; exact ⟨_, by simp only [Op.stringOp, e1, e2, Sem.run_pure]; rfl, by simp [Rel]⟩
  case gtr => cases h; exact ⟨_, by simp only [Op.stringOp, e1, e2, Sem.run_pure]; rfl, by simp [Rel]⟩
  case geq => cases h; exact ⟨_, by simp only [Op.stringOp, e1, e2, Sem.run_pure]; rfl, by simp [Rel]⟩

theorem unV_sound {w : World} {op : UnOp} {a : V} {x : V} {c : Value} (h : unV op a = some x) (hr : Rel E a c) :
    ∃ v, (Op.unary op c).run P w = .ok v w ∧ Rel E x v := by
  unfold unV at h
  split at h
  · cases h; simp only [Rel] at hr; subst hr; exact ⟨_, by simp only [Op.unary, Op.intArith, Sem.run_pure]; rfl, by simp [Rel]⟩
  · cases h; simp only [Rel] at hr; subst hr; exact ⟨_, by simp only [Op.unary, Op.intBits, Sem.run_pure]; rfl, by simp [Rel]⟩
  · cases h; simp only [Rel] at hr; subst hr; exact ⟨_, by simp only [Op.unary, Sem.run_pure]; rfl, by simp [Rel]⟩
  · cases h

end Go.AM
