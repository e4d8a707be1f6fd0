/- This file holds in one the texts An19, An20; each says at its head what it proves. -/
import Derived.Test.YtjakoidjbcnhbaaGreatDoorT13
set_option linter.unusedSimpArgs false
set_option linter.unusedVariables false
section
/- The abstract machine, part 19: an operation hangs on its operands and on the objects that they name, and on nothing else. -/
namespace Go.AM

section
variable {P : Program} {mt : Nat → Bool} {fr : Nat}

theorem map_congr_mem {α β : Type} {f g : α → β} : ∀ {l : List α}, (∀ x ∈ l, f x = g x) → l.map f = l.map g
  | [], _ => rfl
  | x :: l, h => by simp only [List.map_cons]; rw [h x (by simp), map_congr_mem (fun y hy => h y (by simp [hy]))]

theorem evOp_quiet {g g' : Get} {ρ : Operand → V} {o : Oper} (h : quietOp o.op = true) : evOp P mt fr g ρ o = evOp P mt fr g' ρ o := by
  unfold evOp
  cases ho : o.op <;> rw [ho] at h <;> simp only [quietOp, Bool.false_eq_true] at h <;> rfl

theorem evOp_quiet_val {g : Get} {ρ : Operand → V} {o : Oper} (h : quietOp o.op = true) {st : Step} (he : evOp P mt fr g ρ o = some st) : ∃ v, st = .val v none := by
  have one : ∀ (x : Option V) , x.map (fun v => Step.val v none) = some st → ∃ v, st = .val v none := by
    intro x hx
    cases x with
    | none => cases hx
    | some v => cases hx; exact ⟨v, rfl⟩
  unfold evOp at he
  cases ho : o.op <;> rw [ho] at h he <;> simp only [quietOp, Bool.false_eq_true] at h <;> simp only at he
  case move => cases he; exact ⟨_, rfl⟩
  case assign => cases he; exact ⟨_, rfl⟩
  case pick => split at he <;> first | (cases he; exact ⟨_, rfl⟩) | cases he
  case build => exact one _ he
  case nilCheck => split at he <;> first | (cases he; exact ⟨_, rfl⟩) | cases he
  case binOp => exact one _ he
  case unOp => exact one _ he
  case makeInterface => split at he <;> first | (cases he; exact ⟨_, rfl⟩) | cases he
  case makeFunc => cases he; exact ⟨_, rfl⟩
  case fieldAddr => (repeat' split at he) <;> first | (cases he; exact ⟨_, rfl⟩) | cases he
  case field => (repeat' split at he) <;> first | exact one _ he | cases he
  case indexAddr => exact one _ he
  case index => exact one _ he
  case extract => split at he <;> first | exact one _ he | cases he
  case typeAssert => (repeat' split at he) <;> first | (cases he; exact ⟨_, rfl⟩) | cases he
  case sliceToArrayPointer => (repeat' split at he) <;> first | (cases he; exact ⟨_, rfl⟩) | cases he

theorem evOp_rho {g : Get} {ρ ρ' : Operand → V} {o : Oper} (h : ∀ x ∈ o.op.operands, ρ x = ρ' x) : evOp P mt fr g ρ o = evOp P mt fr g ρ' o := by
  unfold evOp
  cases ho : o.op <;> rw [ho] at h <;> simp only [Op.operands] at h <;> simp only
  case move x => rw [h x (by simp)]
  case assign x => rw [h x (by simp)]
  case pick c a b => rw [h c (by simp), h a (by simp), h b (by simp)]
  case box t x => rw [h x (by simp)]
  case build t ps =>
    have : (ps.toList.map fun p => (p.1, ρ p.2)) = ps.toList.map fun p => (p.1, ρ' p.2) :=
      map_congr_mem fun p hp => by rw [h p.2 (by simp; exact ⟨p.1, by simpa using hp⟩)]
    rw [this]
  case buildSlice t n ps =>
    have : (ps.toList.map fun p => (p.1, ρ p.2)) = ps.toList.map fun p => (p.1, ρ' p.2) :=
      map_congr_mem fun p hp => by rw [h p.2 (by simp; exact ⟨p.1, by simpa using hp⟩)]
    rw [this]
  case load t a => rw [h a (by simp)]
  case store t a x => rw [h a (by simp), h x (by simp)]
  case nilCheck x => rw [h x (by simp)]
  case binOp op t x y _ => rw [h x (by simp), h y (by simp)]
  case unOp op t x => rw [h x (by simp)]
  case convert s d x => rw [h x (by simp)]
  case sliceToArrayPointer t x => rw [h x (by simp)]
  case makeInterface t x => rw [h x (by simp)]
  case makeFunc fn a c =>
    have h1 : a.toList.map ρ = a.toList.map ρ' := map_congr_mem fun x hx => h x (by simp; exact .inl (by simpa using hx))
    have h2 : c.toList.map ρ = c.toList.map ρ' := map_congr_mem fun x hx => h x (by simp; exact .inr (by simpa using hx))
    rw [h1, h2]
  case range t x => rw [h x (by simp)]
  case entry x => rw [h x (by simp)]
  case mapEntry t m k => rw [h m (by simp), h k (by simp)]
  case entryStore t m s x => rw [h m (by simp), h s (by simp), h x (by simp)]
  case makeMap t r =>
    cases P.underlying t with
    | none => cases r <;> rfl
    | some d =>
      cases r with
      | none => cases d <;> rfl
      | some x => cases d <;> first | rfl | (simp only; rw [h x (by simp)])
  case makeSlice t l c => rw [h l (by simp), h c (by simp)]
  case slice t x lo hi mx =>
    have h1 : lo.map ρ = lo.map ρ' := by cases lo with | none => rfl | some y => simp only [Option.map_some]; rw [h y (by simp)]
    have h2 : hi.map ρ = hi.map ρ' := by cases hi with | none => rfl | some y => simp only [Option.map_some]; rw [h y (by simp)]
    have h3 : mx.map ρ = mx.map ρ' := by cases mx with | none => rfl | some y => simp only [Option.map_some]; rw [h y (by simp)]
    rw [h x (by simp), h1, h2, h3]
  case fieldAddr t x i => rw [h x (by simp)]
  case field t x i => rw [h x (by simp)]
  case indexAddr t x i => rw [h x (by simp), h i (by simp)]
  case index t x i => rw [h x (by simp), h i (by simp)]
  case lookup t m k ok => rw [h m (by simp), h k (by simp)]
  case mapUpdate t m k x => rw [h m (by simp), h k (by simp), h x (by simp)]
  case insert t m k x => rw [h m (by simp), h k (by simp), h x (by simp)]
  case extract t i => rw [h t (by simp)]
  case typeAssert x a b ok => rw [h x (by simp)]
  case panic x => rw [h x (by simp)]
  case call c =>
    have h1 : c.args.toList.map ρ = c.args.toList.map ρ' := map_congr_mem fun x hx => h x (by simp only [Call.operands]; cases c.callee <;> simp <;> (try right) <;> simpa using hx)
    cases hc : c.callee with
    | value f => simp only [h1]; rw [h f (by simp [Call.operands, hc])]
    | invoke r m => rfl
    | builtin b => simp only [h1]

theorem ids_mem {ρ : Operand → V} {o : Oper} {x : Operand} {f s : Nat} (hx : x ∈ o.op.operands) (h : (ρ x).id? = some (f, s)) : (f, s) ∈ idsOf fr ρ o := by
  simp only [idsOf, List.mem_append, List.mem_filterMap]
  exact .inr ⟨x, by simpa using hx, h⟩
theorem ids_own {ρ : Operand → V} {o : Oper} {d : Nat} (h : o.dst = some d) : (fr, d) ∈ idsOf fr ρ o := by
  simp [idsOf, h]

theorem sliceCells_congr {g g' : Get} {esz : Nat} {x : V} (h : ∀ f s, x.id? = some (f, s) → g f s = g' f s) : sliceCells g esz x = sliceCells g' esz x := by
  cases x <;> simp only [sliceCells]
  rw [h _ _ rfl]

theorem new_congr {g g' : Get} {dst : Option Nat} {o : O} {v : Nat → V} (h : ∀ d, dst = some d → g fr d = g' fr d) : new g fr dst o v = new g' fr dst o v := by
  cases dst with
  | none => rfl
  | some d => simp only [new]; rw [h d rfl]

theorem grown_congr {g g' : Get} {dst : Option Nat} {cs chk : List V} {n esz : Nat} (h : ∀ d, dst = some d → g fr d = g' fr d) : grown mt g fr dst cs chk n esz = grown mt g' fr dst cs chk n esz := by
  cases dst with
  | none => rfl
  | some d => simp only [grown]; rw [new_congr h, new_congr h]

theorem appendV_congr {g g' : Get} {dst : Option Nat} {t t2 : TypeId} {s x : V} (hd : ∀ d, dst = some d → g fr d = g' fr d) (hs : ∀ f i, s.id? = some (f, i) → g f i = g' f i) (hx : ∀ f i, x.id? = some (f, i) → g f i = g' f i) :
    appendV P mt fr g dst t t2 s x = appendV P mt fr g' dst t t2 s x := by
  have h1 : ∀ n b z, appSrc P g t2 n b z x = appSrc P g' t2 n b z x := by
    intro n b z
    unfold appSrc
    split
    · rfl
    · rfl
    · exact sliceCells_congr hx
    · rfl
  have h2 : ∀ n b new m, appendTo mt fr g dst n b s new m = appendTo mt fr g' dst n b s new m := by
    intro n b new m
    unfold appendTo
    cases s <;> try rfl
    case nilslice => simp only; rw [grown_congr hd]
    case islice cs len full =>
      cases full
      · rfl
      · simp only; rw [grown_congr hd]
    case gslice => simp only; rw [hs _ _ rfl]
    case mslice =>
      simp only
      rw [hs _ _ rfl]
      split
      · split
        · split
          · split
            · rfl
            · rw [grown_congr hd]
          · rfl
        · rfl
      · rfl
  unfold appendV
  simp only [h1, h2]

theorem evOp_get {g g' : Get} {ρ : Operand → V} {o : Oper} (hfar : farOp o.op = false) (h : ∀ f s, (f, s) ∈ idsOf fr ρ o → g f s = g' f s) : evOp P mt fr g ρ o = evOp P mt fr g' ρ o := by
  by_cases hq : quietOp o.op = true
  · exact evOp_quiet hq
  have own : ∀ d, o.dst = some d → g fr d = g' fr d := fun d hd => h _ _ (ids_own hd)
  have opd : ∀ x, x ∈ o.op.operands → ∀ f s, (ρ x).id? = some (f, s) → g f s = g' f s := fun x hx f s hi => h f s (ids_mem hx hi)
  unfold evOp
  cases ho : o.op <;> rw [ho] at hq opd hfar <;> simp only [Op.operands] at opd <;> simp only [quietOp] at hq <;> first | exact absurd rfl hq | skip
  all_goals try simp only
  case alloc t => cases zeroCells P t <;> simp only [Option.bind_none, Option.bind_some]; exact new_congr own
  case box t x => cases (ρ x).cells <;> simp only [Option.bind_none, Option.bind_some]; exact new_congr own
  case buildSlice t n ps =>
    split
    · split
      · split
        · split
          · split
            · rename_i d hd
              split
              · rw [hd]; exact new_congr (fun d' hd' => own d' (hd.trans hd'))
              · rfl
            · rfl
          · rfl
        · rfl
      · rfl
    · rfl
  case load t a =>
    have := opd a (by simp)
    cases hx : ρ a <;> try rfl
    simp only
    rw [this _ _ (by rw [hx]; rfl)]
  case store t a x =>
    have := opd a (by simp)
    cases hx : ρ a with
    | ptr f s q =>
      have e := this f s (by rw [hx]; rfl)
      cases (ρ x).cells <;> cases sz P t <;> first | rfl | (simp only; rw [e])
    | _ => first | rfl | (cases (ρ x).cells <;> cases sz P t <;> rfl)
  case convert s d x =>
    have := opd x (by simp)
    split
    · exact new_congr own
    unfold convertV
    split
    · rfl
    · rfl
    · rfl
    · simp only [sliceCells_congr this]
    · rename_i e0 e f s' n m hu1 hu2 hx
      rw [this f s' (by rw [hx]; rfl)]
    · rfl
  case entry x => cases hfar
  case range t x =>
    have := opd x (by simp)
    unfold rangeV
    split
    · exact new_congr own
    · rename_i f s hu hx
      rw [this f s (by rw [hx]; rfl)]
      split
      · exact new_congr own
      · rfl
    · rfl
  case mapEntry t m k =>
    have := opd m (by simp)
    unfold mapEntryV
    cases hx : ρ m <;> try rfl
    simp only
    rw [this _ _ (by rw [hx]; rfl)]
  case entryStore t m s x =>
    have := opd m (by simp)
    unfold entryStoreV
    split
    · rename_i f sl k b hx hs
      rw [this f sl (by rw [hx]; rfl)]
    · rfl
  case makeMap t r =>
    split
    · exact new_congr own
    · split
      · exact new_congr own
      · rfl
    · rfl
  case makeSlice t l c =>
    split
    · split
      · split
        · exact new_congr own
        · rfl
      · rfl
    · rfl
  case slice t x lo hi mx =>
    have := opd x (by simp)
    congr 1
    unfold sliceV
    cases hx : ρ x <;> try rfl
    simp only
    rw [this _ _ (by rw [hx]; rfl)]
  case lookup t m k ok =>
    have := opd m (by simp)
    congr 1
    unfold lookupV
    cases hx : ρ m <;> try rfl
    simp only
    rw [this _ _ (by rw [hx]; rfl)]
  case mapUpdate t m k x =>
    have := opd m (by simp)
    unfold updateV
    cases hx : ρ m <;> try rfl
    simp only
    rw [this _ _ (by rw [hx]; rfl)]
  case insert t m k x =>
    have := opd m (by simp)
    unfold updateV
    cases hx : ρ m <;> try rfl
    simp only
    rw [this _ _ (by rw [hx]; rfl)]
  case call c =>
    split
    · rename_i b hb
      have arg : ∀ x ∈ c.args.toList, ∀ f s, (ρ x).id? = some (f, s) → g f s = g' f s := fun x hx => opd x (by simp only [Call.operands, hb]; simpa using hx)
      have arg' : ∀ v ∈ c.args.toList.map ρ, ∀ f s, v.id? = some (f, s) → g f s = g' f s := by
        intro v hv
        obtain ⟨x, hx, rfl⟩ := List.mem_map.1 hv
        exact arg x hx
      generalize c.args.toList.map ρ = args at arg'
      unfold builtinV
      split
      · split
        · exact appendV_congr own (arg' _ (by simp)) (arg' _ (by simp))
        · rfl
      · split
        · congr 1
          rename_i x _ t _
          have := arg' x (by simp)
          unfold lenV
          cases x with
          | map f s =>
            have e := this f s rfl
            cases P.underlying t with
            | none => rfl
            | some d => cases d <;> first | rfl | (simp only; rw [e])
          | _ => cases P.underlying t with
            | none => rfl
            | some d => cases d <;> rfl
        · rfl
      · rfl
      · split
        · rename_i d s _ t _
          have hd := arg' d (by simp)
          have hs := arg' s (by simp)
          have e1 : ∀ n, copySrc g n s = copySrc g' n s := by
            intro n
            cases s <;> first | rfl | exact sliceCells_congr hs
          have e2 : ∀ n cs m, copyTo g n d cs m = copyTo g' n d cs m := by
            intro n cs m
            cases d <;> try rfl
            simp only [copyTo]
            rw [hd _ _ rfl]
          unfold copyV
          simp only [e1, e2]
        · rfl
      · split
        · rename_i m k _ t _
          have := arg' m (by simp)
          unfold deleteV
          cases m <;> try rfl
          simp only
          rw [this _ _ rfl]
        · rfl
      · rfl
      · rfl
      · rfl
    · rfl
    · rfl

def NC (x : Option Step) : Prop := ∀ f args, x ≠ some (.call f args)
theorem NC.no : NC none := fun _ _ h => by cases h
theorem NC.val (v : V) (w : Option (Nat × Nat × O)) : NC (some (.val v w)) := fun _ _ h => by cases h
theorem NC.panic (v : V) : NC (some (.panic v)) := fun _ _ h => by cases h
theorem NC.map {α : Type} (x : Option α) (k : α → V) : NC (x.map fun v => .val (k v) none) := by cases x <;> first | exact NC.no | exact NC.val _ _
theorem NC.new (g : Get) (dst : Option Nat) (o : O) (v : Nat → V) : NC (new g fr dst o v) := by
  unfold AM.new; (repeat' split) <;> first | exact NC.no | exact NC.val _ _
theorem NC.grown (g : Get) (dst : Option Nat) (cs chk : List V) (n esz : Nat) : NC (grown mt g fr dst cs chk n esz) := by
  unfold AM.grown; (repeat' split) <;> first | exact NC.no | exact NC.new _ _ _ _
theorem NC.appendTo (g : Get) (dst : Option Nat) (n b : Nat) (s : V) (nw : List V) (m : Nat) : NC (appendTo mt fr g dst n b s nw m) := by
  unfold AM.appendTo; (repeat' split) <;> first | exact NC.no | exact NC.val _ _ | exact NC.grown _ _ _ _ _ _
theorem NC.bind {α : Type} (x : Option α) (k : α → Option Step) (h : ∀ a, NC (k a)) : NC (x.bind k) := by cases x <;> first | exact NC.no | exact h _
theorem NC.convertV (g : Get) (s d : TypeId) (x : V) : NC (convertV P g s d x) := by
  unfold AM.convertV; (repeat' split) <;> first | exact NC.no | exact NC.val _ _ | exact NC.map _ _
theorem NC.updateV (g : Get) (t : TypeId) (m k x : V) : NC (updateV P g t m k x) := by
  unfold AM.updateV; (repeat' split) <;> first | exact NC.no | exact NC.val _ _
theorem NC.builtinV (g : Get) (dst : Option Nat) (b : Builtin) (ts : Array TypeId) (args : List V) : NC (builtinV P mt fr g dst b ts args) := by
  unfold AM.builtinV
  (repeat' split) <;> first | exact NC.no | exact NC.map _ _ | (unfold appendV; (repeat' split) <;> first | exact NC.no | exact NC.val _ _ | exact NC.appendTo _ _ _ _ _ _ _) |
    (unfold copyV copyTo; (repeat' split) <;> first | exact NC.no | exact NC.val _ _) | (unfold deleteV; (repeat' split) <;> first | exact NC.no | exact NC.val _ _)

theorem NC.rangeV (g : Get) (dst : Option Nat) (t : TypeId) (x : V) : NC (rangeV P g fr dst t x) := by
  unfold AM.rangeV; (repeat' split) <;> first | exact NC.no | exact NC.new _ _ _ _
theorem NC.mapEntryV (g : Get) (t : TypeId) (m k : V) : NC (mapEntryV P g t m k) := by
  unfold AM.mapEntryV; (repeat' split) <;> first | exact NC.no | exact NC.val _ _
theorem NC.mapB {α : Type} (x : Option α) (k : α → Option (Nat × Nat × O)) : NC (x.map fun v => .val .bad (k v)) := by cases x <;> first | exact NC.no | exact NC.val _ _
theorem NC.entryStoreV (g : Get) (m s x : V) : NC (entryStoreV g m s x) := by
  unfold AM.entryStoreV; (repeat' split) <;> first | exact NC.no | exact NC.mapB _ _

theorem evOp_call {g g' : Get} {ρ : Operand → V} {o : Oper} {f : FuncId} {args : List V} (h : evOp P mt fr g ρ o = some (.call f args)) : evOp P mt fr g' ρ o = some (.call f args) := by
  by_cases hc : ∃ c, o.op = .call c
  · obtain ⟨c, hc⟩ := hc
    unfold evOp at h ⊢
    rw [hc] at h ⊢
    simp only at h ⊢
    split at h
    · exact absurd h (NC.builtinV _ _ _ _ _ _ _)
    · exact h
    · cases h
  · have nc : NC (evOp P mt fr g ρ o) := ?_
    · exact absurd h (nc _ _)
    unfold evOp
    cases ho : o.op
    case call c => exact absurd ⟨c, ho⟩ hc
    all_goals simp only
    all_goals first
      | exact NC.no | exact NC.val _ _ | exact NC.map _ _ | exact NC.convertV _ _ _ _ | exact NC.updateV _ _ _ _ _
      | exact NC.bind _ _ fun _ => NC.new _ _ _ _ | exact NC.rangeV _ _ _ _ | exact NC.mapEntryV _ _ _ _ | exact NC.entryStoreV _ _ _ _
      | ((repeat' split) <;> first | exact NC.no | exact NC.val _ _ | exact NC.panic _ | exact NC.map _ _ | exact NC.new _ _ _ _ | exact NC.convertV _ _ _ _)

end
end Go.AM
end
section
/- The abstract machine, part 20: operations that are not ordered may change places. -/
namespace Go.AM

def opNames (ops : Array Oper) (o : Oper) : List Nat :=
  o.dst.toList ++ (o.op.operands.toList.filterMap fun | .tmp i => some i | _ => none) ++ (match o.guard with | some (j, _) => ((ops[j]?).bind (·.dst)).toList | none => [])

def apartO (ops : Array Oper) (a b : Oper) : Bool :=
  (match a.dst with | some d => !(opNames ops b).contains d | none => true) && (match b.dst with | some d => !(opNames ops a).contains d | none => true)

section
variable {P : Program} {pol : Pol} {C : Call} {fn fr : Nat} {ops : Array Oper}

theorem putT_get (t : List V) (dst : Option Nat) (v : V) (i : Nat) (h : dst ≠ some i) : (putT t dst v)[i]? = t[i]? := by
  cases dst with
  | none => rfl
  | some d =>
    simp only [putT]
    rw [List.getElem?_set_ne]
    exact fun e => h (by rw [e])

theorem rho_put (t : List V) (dst : Option Nat) (v : V) (x : Operand) (h : ∀ i, x = .tmp i → dst ≠ some i) : rho (putT t dst v) x = rho t x := by
  cases x with
  | tmp i => simp only [rho, List.getD, putT_get t dst v i (h i rfl)]
  | _ => rfl

theorem apart_operand {a b : Oper} (h : apartO ops a b = true) {v : V} (t : List V) : ∀ x ∈ b.op.operands, rho (putT t a.dst v) x = rho t x := by
  intro x hx
  refine rho_put t a.dst v x ?_
  intro i e hd
  simp only [apartO, hd, Bool.and_eq_true, Bool.not_eq_true'] at h
  have : i ∈ opNames ops b := by
    subst e
    simp only [opNames, List.mem_append, List.mem_filterMap]
    exact .inl (.inr ⟨.tmp i, by simpa using hx, rfl⟩)
  have h1 := h.1
  simp at h1
  exact h1 this

theorem apart_wanted {a b : Oper} (h : apartO ops a b = true) {v : V} (t : List V) : wantedV ops (putT t a.dst v) b = wantedV ops t b := by
  unfold wantedV
  cases hg : b.guard with
  | none => rfl
  | some jw =>
    obtain ⟨j, want⟩ := jw
    simp only
    cases hd : (ops[j]?).bind (·.dst) with
    | none => rfl
    | some d =>
      simp only [Option.bind_some]
      rw [putT_get]
      intro e
      simp only [apartO, e, Bool.and_eq_true, Bool.not_eq_true'] at h
      have : d ∈ opNames ops b := by
        simp only [opNames, List.mem_append, hg, hd]
        exact .inr (by simp)
      have h1 := h.1
      simp at h1
      exact h1 this

theorem apart_symm {a b : Oper} (h : apartO ops a b = true) : apartO ops b a = true := by
  simp only [apartO, Bool.and_eq_true] at h ⊢; exact ⟨h.2, h.1⟩

theorem put_comm {a b : Oper} (h : apartO ops a b = true) (t : List V) (v u : V) : putT (putT t a.dst v) b.dst u = putT (putT t b.dst u) a.dst v := by
  cases ha : a.dst with
  | none => rfl
  | some d =>
    cases hb : b.dst with
    | none => rfl
    | some e =>
      simp only [putT]
      rw [List.set_comm]
      intro he
      subst he
      simp only [apartO, ha, hb, Bool.and_eq_true, Bool.not_eq_true'] at h
      have : d ∈ opNames ops b := by simp [opNames, hb]
      have h1 := h.1
      simp at h1
      exact h1 this

theorem fset_comm (s s' : Nat) (o o' : O) (h : s ≠ s') : ∀ fr : Frame, fset (fset fr s o) s' o' = fset (fset fr s' o') s o
  | [] => by
    simp only [fset]
    by_cases h1 : s' < s
    · have h2 : ¬ s < s' := by omega
      simp only [h, h.symm, h1, h2, if_true, if_false]
    · have h2 : s < s' := by omega
      simp only [h, h.symm, h1, h2, if_true, if_false]
  | (k, p) :: r => by
    simp only [fset]
    by_cases e1 : s = k
    · subst e1
      simp only [if_true]
      by_cases e2 : s' < s
      · have : ¬ s < s' := by omega
        simp only [fset, h, h.symm, e2, this, if_true, if_false]
      · simp only [fset, h, h.symm, e2, if_true, if_false]
    · by_cases e2 : s' = k
      · subst e2
        simp only [if_true, e1, if_false]
        by_cases e3 : s < s'
        · have : ¬ s' < s := by omega
          simp only [fset, h, h.symm, e3, this, if_true, if_false]
        · simp only [fset, h, e3, if_true, if_false]
      · simp only [e1, e2, if_false]
        by_cases e3 : s < k
        · by_cases e4 : s' < k
          · simp only [e3, e4, if_true, fset, h, h.symm, if_false]
            by_cases e5 : s' < s
            · have : ¬ s < s' := by omega
              simp only [e5, this, e3, e1, if_true, if_false]
            · have : s < s' := by omega
              simp only [e5, this, e4, e2, if_true, if_false]
          · have : ¬ s' < s := by omega
            simp only [e3, e4, if_true, if_false, fset, h.symm, e1, e2, this]
        · by_cases e4 : s' < k
          · have : ¬ s < s' := by omega
            simp only [e3, e4, if_true, if_false, fset, h, e1, e2, this]
          · simp only [e3, e4, if_false, fset, e1, e2, fset_comm s s' o o' h r]

theorem hset_comm (H : Heap) {f s f' s' : Nat} (o o' : O) (h : ¬ (f = f' ∧ s = s')) : hset (hset H f s o) f' s' o' = hset (hset H f' s' o') f s o := by
  unfold hset
  apply List.ext_getElem?
  intro i
  simp only [List.getElem?_modify]
  by_cases e1 : f = i
  · by_cases e2 : f' = i
    · have hs : s ≠ s' := fun e => h ⟨e1.trans e2.symm, e⟩
      simp only [e1, e2, if_true]
      cases H[i]? with
      | none => rfl
      | some x => simp [fset_comm s s' o o' hs x]
    · simp only [e1, e2, if_true, if_false]
      cases H[i]? <;> rfl
  · by_cases e2 : f' = i
    · simp only [e1, e2, if_true, if_false]
      cases H[i]? <;> rfl
    · simp only [e1, e2, if_false]

theorem hget_hset_ne (H : Heap) {f s f' s' : Nat} (o : O) (h : ¬ (f' = f ∧ s' = s)) : hget (hset H f s o) f' s' = hget H f' s' := by
  unfold hget hset
  rw [List.getElem?_modify]
  by_cases e : f = f'
  · subst e
    cases H[f]? with
    | none => rfl
    | some x => simp [fget_fset]; exact fun h' => absurd ⟨rfl, h'⟩ h
  · simp only [e, if_false]
    cases H[f']? <;> rfl

def widOf : Option (Nat × Nat × O) → List (Nat × Nat)
  | none => []
  | some (f, s, _) => [(f, s)]

theorem fp_cases (t : List V) (H : Heap) (o : Oper) {t1 : List V} {H1 : Heap} (h : opOne P pol C fn fr t H o = some (.normal, t1, H1)) :
    (fpOf P pol fn fr t H o = .quiet ∧ ∃ v, t1 = putT t o.dst v ∧ H1 = H ∧ ∀ (t' : List V) (H' : Heap), (∀ x ∈ o.op.operands, rho t' x = rho t x) → opOne P pol C fn fr t' H' o = some (.normal, putT t' o.dst v, H') ∧ fpOf P pol fn fr t' H' o = .quiet) ∨
    (∃ w v, fpOf P pol fn fr t H o = .ids (idsOf fr (rho t) o) (widOf w) ∧ t1 = putT t o.dst v ∧ H1 = wr H w ∧
      ∀ (t' : List V) (H' : Heap), (∀ x ∈ o.op.operands, rho t' x = rho t x) → (∀ f s, (f, s) ∈ idsOf fr (rho t) o → hget H' f s = hget H f s) →
        opOne P pol C fn fr t' H' o = some (.normal, putT t' o.dst v, wr H' w) ∧ fpOf P pol fn fr t' H' o = .ids (idsOf fr (rho t) o) (widOf w)) ∨
    (fpOf P pol fn fr t H o = .all ∧ ∃ v, t1 = putT t o.dst v ∧
      ∀ (t' : List V), (∀ x ∈ o.op.operands, rho t' x = rho t x) → opOne P pol C fn fr t' H o = some (.normal, putT t' o.dst v, H1) ∧ fpOf P pol fn fr t' H o = .all) := by
  have hids : ∀ t' : List V, (∀ x ∈ o.op.operands, rho t' x = rho t x) → idsOf fr (rho t') o = idsOf fr (rho t) o := by
    intro t' ht
    simp only [idsOf]
    congr 1
    have : ∀ l : List Operand, (∀ x ∈ l, rho t' x = rho t x) → l.filterMap (fun x => (rho t' x).id?) = l.filterMap fun x => (rho t x).id? := by
      intro l
      induction l with
      | nil => intro _; rfl
      | cons x l ih => intro hl; simp only [List.filterMap_cons]; rw [hl x (by simp), ih (fun y hy => hl y (by simp [hy]))]
    exact this _ (fun x hx => ht x (by simpa using hx))
  unfold opOne at h
  by_cases hq : quietOp o.op = true
  · left
    split at h
    · cases h
    · rename_i v w hev
      obtain ⟨v', hv'⟩ := evOp_quiet_val hq hev
      cases hv'
      cases h
      refine ⟨by simp [fpOf, hq], v, rfl, rfl, fun t' H' ht => ⟨?_, by simp [fpOf, hq]⟩⟩
      have e : evOp P (pol.mt fn) fr (hget H') (rho t') o = some (.val v none) := by
        rw [evOp_rho ht, evOp_quiet (g' := hget H) hq, hev]
      simp only [opOne, e, wr]
    · rename_i v hev
      obtain ⟨v', hv'⟩ := evOp_quiet_val hq hev
      cases hv'
    · rename_i f args hev
      obtain ⟨v', hv'⟩ := evOp_quiet_val hq hev
      cases hv'
    · rename_i f s args hev
      obtain ⟨v', hv'⟩ := evOp_quiet_val hq hev
      cases hv'
  · split at h
    · cases h
    · rename_i v w hev
      by_cases hfar : farOp o.op = true
      · right; right
        cases h
        refine ⟨by simp [fpOf, hq, hfar], v, rfl, fun t' ht => ⟨?_, by simp [fpOf, hq, hfar]⟩⟩
        have e : evOp P (pol.mt fn) fr (hget H) (rho t') o = some (.val v w) := by rw [evOp_rho ht, hev]
        simp only [opOne, e]
      have hfar' : farOp o.op = false := by simpa using hfar
      right; left
      cases h
      have hfp : ∀ (t' : List V) (H' : Heap), evOp P (pol.mt fn) fr (hget H') (rho t') o = some (.val v w) → idsOf fr (rho t') o = idsOf fr (rho t) o → fpOf P pol fn fr t' H' o = .ids (idsOf fr (rho t) o) (widOf w) := by
        intro t' H' e hi
        simp only [fpOf, hq, hfar', Bool.false_eq_true, if_false, e]
        cases w with
        | none => simp only [widOf, hi]
        | some x => obtain ⟨f, s, q⟩ := x; simp only [widOf, hi]
      refine ⟨w, v, hfp t H hev rfl, rfl, rfl, fun t' H' ht hg => ?_⟩
      have e : evOp P (pol.mt fn) fr (hget H') (rho t') o = some (.val v w) := by
        rw [evOp_rho ht, evOp_get (g' := hget H) hfar' hg, hev]
      exact ⟨by simp only [opOne, e], hfp t' H' e (hids t' ht)⟩
    · cases h
    · rename_i f args hev
      have hfar' : farOp o.op = false := by
        cases ho : o.op <;> first | rfl | skip
        simp only [evOp, ho] at hev
        cases hx : entryV (hget H) (rho t _) with
        | none => rw [hx] at hev; cases hev
        | some y => rw [hx] at hev; cases hev
      have hcall : ∀ (t' : List V) (H' : Heap), (∀ x ∈ o.op.operands, rho t' x = rho t x) → evOp P (pol.mt fn) fr (hget H') (rho t') o = some (.call f args) := by
        intro t' H' ht
        rw [evOp_rho ht]
        exact evOp_call hev
      by_cases hp : ((pol.prim f).isNone && pol.pure fn f) = true
      · left
        have hp' := hp
        simp only [Bool.and_eq_true, Option.isNone_iff_eq_none] at hp'
        have pureCall : ∀ (H' : Heap), callOp pol C fn fr o.dst f args H' = (callOp pol C fn fr o.dst f args H).map fun x => (x.1, H') := by
          intro H'
          simp only [callOp, hp'.1, hp'.2, if_true]
          split
          · split
            · rename_i v1 H2 _; cases frz (hget H2) depth v1 <;> rfl
            · rename_i v1 H2 _; cases frz (hget H2) depth v1 <;> rfl
            · rfl
          · rfl
        split at h
        · rename_i v H2 hc
          cases h
          have hH : H1 = H := by
            have := pureCall H
            rw [hc] at this
            simp at this
            exact this
          subst hH
          refine ⟨by simp only [fpOf, hq, hfar', Bool.false_eq_true, if_false, hev, hp, if_true], v, rfl, rfl, fun t' H' ht => ⟨?_, ?_⟩⟩
          · have := pureCall H'
            rw [hc] at this
            simp only [opOne, hcall t' H' ht, this, Option.map_some]
          · simp only [fpOf, hq, hfar', Bool.false_eq_true, if_false, hcall t' H' ht, hp, if_true]
        · cases h
        · cases h
      · by_cases hl : ((pol.prim f).isNone && pol.lift fn f) = true
        · cases hd : o.dst with
          | none =>
            right; right
            split at h
            · rename_i v H2 hc
              cases h
              refine ⟨by simp only [fpOf, hq, hfar', Bool.false_eq_true, if_false, hev, hp, hl, if_true, hd], v, by rw [hd], fun t' ht => ⟨?_, ?_⟩⟩
              · rw [hd] at hc; simp only [opOne, hcall t' H ht, hc, hd]
              · simp only [fpOf, hq, hfar', Bool.false_eq_true, if_false, hcall t' H ht, hp, hl, if_true, hd]
            · cases h
            · cases h
          | some d =>
            right; left
            have hl' := hl
            simp only [Bool.and_eq_true, Option.isNone_iff_eq_none] at hl'
            have hpure : pol.pure fn f = false := by
              cases hx : pol.pure fn f with
              | false => rfl
              | true => exact absurd (by simp [hl'.1, hx]) hp
            have liftCall : ∀ (H' : Heap), (hget H' fr d = hget H fr d) → callOp pol C fn fr (some d) f args H' = (callOp pol C fn fr (some d) f args H).bind fun x => match x with
                | (.ret v, _) => (match callOp pol C fn fr (some d) f args H with
                  | some _ => (match frzL (frz (fun _ _ => none) depth) args with
                    | some args => (match C f args [] with
                      | some (.ret v, H2) => (liftV H2 fr (some d) H v).map fun x => (.ret x.1, wr H' (some (fr, x.2.1, x.2.2)))
                      | _ => none)
                    | none => none)
                  | none => none)
                | _ => none := by
              intro H' hg
              simp only [callOp, hl'.1, hl'.2, hpure, Bool.false_eq_true, if_false, if_true]
              cases frzL (frz (fun _ _ => none) depth) args with
              | none => rfl
              | some ys =>
                simp only
                cases C f ys [] with
                | none => rfl
                | some q =>
                  obtain ⟨q, H2⟩ := q
                  cases q with
                  | pan v => rfl
                  | ret v =>
                    simp only
                    have : liftV H2 fr (some d) H' v = liftV H2 fr (some d) H v := by
                      unfold liftV
                      cases v <;> simp only [hg]
                    rw [this]
                    cases liftV H2 fr (some d) H v <;> rfl
            have hshape : ∀ v H2, callOp pol C fn fr (some d) f args H = some (.ret v, H2) → ∃ o', H2 = wr H (some (fr, d, o')) ∧ ∀ H', hget H' fr d = hget H fr d → callOp pol C fn fr (some d) f args H' = some (.ret v, wr H' (some (fr, d, o'))) := by
              intro v H2 hc
              have hc0 := hc
              simp only [callOp, hl'.1, hl'.2, hpure, Bool.false_eq_true, if_false, if_true] at hc
              split at hc
              case h_2 => cases hc
              rename_i ys hys
              split at hc
              case h_2 => cases hc
              rename_i v1 H1' hC
              cases hL : liftV H1' fr (some d) H v1 with
              | none => rw [hL] at hc; cases hc
              | some x =>
                rw [hL] at hc; cases hc
                have hx : x.2.1 = d := by
                  unfold liftV at hL
                  split at hL
                  · rename_i hdd
                    split at hL
                    · rename_i es bs clk _ _
                      cases hz : frzM (frz (hget H1') depth) es with
                      | none => rw [hz] at hL; cases hL
                      | some es' => rw [hz] at hL; cases hL; cases hdd; rfl
                    · cases hL
                  · rename_i hdd
                    split at hL
                    · split at hL
                      · cases hL; cases hdd; rfl
                      · cases hL
                    · cases hL
                  · cases hL
                rw [hx]
                refine ⟨x.2.2, rfl, fun H' hg => ?_⟩
                rw [liftCall H' hg, hc0]
                simp only [Option.bind_some, hys, hC, hL, Option.map_some, hx]
            split at h
            · rename_i v H2 hc
              rw [hd] at hc
              cases h
              obtain ⟨o', rfl, hall⟩ := hshape v _ hc
              have hfp : ∀ (t' : List V) (H' : Heap), (∀ x ∈ o.op.operands, rho t' x = rho t x) → fpOf P pol fn fr t' H' o = .ids (idsOf fr (rho t) o) (widOf (some (fr, d, o'))) := by
                intro t' H' ht
                simp only [fpOf, hq, hfar', Bool.false_eq_true, if_false, hcall t' H' ht, hp, hl, if_true, hd, widOf, hids t' ht]
              refine ⟨some (fr, d, o'), v, hfp t H (fun _ _ => rfl), by rw [hd], rfl, fun t' H' ht hg => ⟨?_, hfp t' H' ht⟩⟩
              have hgd := hg fr d (ids_own hd)
              simp only [opOne, hcall t' H' ht, hd, hall H' hgd]
            · cases h
            · cases h
        · right; right
          split at h
          · rename_i v H2 hc
            cases h
            refine ⟨by simp only [fpOf, hq, hfar', Bool.false_eq_true, if_false, hev, hp, hl], v, rfl, fun t' ht => ⟨?_, ?_⟩⟩
            · simp only [opOne, hcall t' H ht, hc]
            · simp only [fpOf, hq, hfar', Bool.false_eq_true, if_false, hcall t' H ht, hp, hl]
          · cases h
          · cases h
    · rename_i f s args hev
      right; right
      have he : ∀ t' : List V, (∀ x ∈ o.op.operands, rho t' x = rho t x) → evOp P (pol.mt fn) fr (hget H) (rho t') o = some (.round f s args) := fun t' ht => by rw [evOp_rho ht, hev]
      have hall : ∀ t' : List V, (∀ x ∈ o.op.operands, rho t' x = rho t x) → fpOf P pol fn fr t' H o = .all := fun t' ht => by
        simp only [fpOf, hq, Bool.false_eq_true, if_false, he t' ht]
        split <;> rfl
      split at h
      · rename_i v H2 hc
        cases h
        refine ⟨hall t (fun _ _ => rfl), v, rfl, fun t' ht => ⟨?_, hall t' ht⟩⟩
        simp only [opOne, he t' ht, hc]
      · cases h

def stepT (P : Program) (pol : Pol) (C : Call) (fn fr : Nat) (ops : Array Oper) (T : List FP) (i : Nat) (t : List V) (H : Heap) : Option (List V × Heap) :=
  match ops[i]? with
  | none => none
  | some o => match wantedV ops t o with
    | none => none
    | some false => if T.getD i .all = .quiet then some (putT t o.dst nov, H) else none
    | some true => if fpOf P pol fn fr t H o = T.getD i .all then (match opOne P pol C fn fr t H o with
      | some (.normal, t1, H1) => some (t1, H1)
      | _ => none) else none

def runT (P : Program) (pol : Pol) (C : Call) (fn fr : Nat) (ops : Array Oper) (T : List FP) : List Nat → List V → Heap → Option (List V × Heap)
  | [], t, H => some (t, H)
  | i :: r, t, H => match stepT P pol C fn fr ops T i t H with
    | some (t1, H1) => runT P pol C fn fr ops T r t1 H1
    | none => none

end
end Go.AM
end
