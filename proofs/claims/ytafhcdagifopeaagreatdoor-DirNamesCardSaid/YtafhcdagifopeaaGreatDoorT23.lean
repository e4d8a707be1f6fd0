/- This file holds in one the texts Bx51; each says at its head what it proves. -/
import Derived.Test.YtafhcdagifopeaaGreatDoorT12
import Derived.Test.YtafhcdagifopeaaGreatDoorT22
set_option linter.unusedSimpArgs false
set_option linter.unusedVariables false
section
/- The machine for closed laws: what an operation comes to, it comes to beside more objects, too. -/
namespace Go.AM.BM

def GLe (g g' : Get) : Prop := ∀ f s x, g f s = some x → g' f s = some x

section
variable {P : Program} {mt : Nat → Bool} {fr : Nat} {g g' : Get}

theorem sliceCells_mono (hg : GLe g g') {esz : Nat} {x : V} {r : List V × Nat} (h : sliceCells g esz x = some r) : sliceCells g' esz x = some r := by
  unfold sliceCells at h ⊢
  cases x <;> try exact h
  rename_i f s o0 len cap e0
  cases hq : g f s with
  | none => exfalso; simp only [hq] at h; (repeat' split at h) <;> cases h
  | some o => simp only [hg _ _ _ hq]; simp only [hq] at h; exact h
theorem new_mono {dst : Option Nat} {o : O} {v : Nat → V} (hd : ∀ d, dst = some d → g' fr d = g fr d) : new g' fr dst o v = new g fr dst o v := new_congr fun d e => hd d e
theorem sliceV_mono (hg : GLe g g') {t : TypeId} {x : V} {lo hi mx : Option V} {r : V} (h : sliceV P g t x lo hi mx = some r) : sliceV P g' t x lo hi mx = some r := by
  unfold sliceV at h ⊢
  cases x <;> try exact h
  rename_i f s o0
  cases hq : g f s with
  | none => exfalso; simp only [hq] at h; (repeat' split at h) <;> first | (cases h; done) | (simp at h; done)
  | some o => simp only [hg _ _ _ hq]; simp only [hq] at h; exact h
theorem lookupV_mono (hg : GLe g g') {t : TypeId} {m k : V} {ok : Bool} {r : V} (h : lookupV P g t m k ok = some r) : lookupV P g' t m k ok = some r := by
  unfold lookupV at h ⊢
  cases m <;> try exact h
  rename_i f s
  cases hq : g f s with
  | none => exfalso; simp only [hq] at h; (repeat' split at h) <;> cases h
  | some o => simp only [hg _ _ _ hq]; simp only [hq] at h; exact h
theorem updateV_mono (hg : GLe g g') {t : TypeId} {m k x : V} {r : Step} (h : updateV P g t m k x = some r) : updateV P g' t m k x = some r := by
  unfold updateV at h ⊢
  cases m <;> try exact h
  rename_i f s
  cases hq : g f s with
  | none => exfalso; simp only [hq] at h; (repeat' split at h) <;> cases h
  | some o => simp only [hg _ _ _ hq]; simp only [hq] at h; exact h
theorem appSrc_mono (hg : GLe g g') {t2 : TypeId} {n b : Nat} {z : List V} {x : V} {r : List V × Nat} (h : appSrc P g t2 n b z x = some r) : appSrc P g' t2 n b z x = some r := by
  unfold appSrc at h ⊢
  split at h <;> try exact h
  exact sliceCells_mono hg h
theorem grown_mono {dst : Option Nat} {cs chk : List V} {n esz : Nat} (hd : ∀ d, dst = some d → g' fr d = g fr d) : grown mt g' fr dst cs chk n esz = grown mt g fr dst cs chk n esz := grown_congr fun d e => hd d e
theorem appendTo_mono (hg : GLe g g') {dst : Option Nat} (hd : ∀ d, dst = some d → g' fr d = g fr d) {n b m : Nat} {s : V} {nw : List V} {st : Step} (h : appendTo mt fr g dst n b s nw m = some st) : appendTo mt fr g' dst n b s nw m = some st := by
  unfold appendTo at h ⊢
  have e : ∀ cs chk n esz, grown mt g' fr dst cs chk n esz = grown mt g fr dst cs chk n esz := fun cs chk n esz => grown_mono hd
  simp only [e]
  cases s <;> try exact h
  case islice cs len full => cases full <;> exact h
  case gslice f s cs len e0 =>
    cases hq : g f s with
    | none => exfalso; simp only [hq] at h; (repeat' split at h) <;> cases h
    | some o => simp only [hg _ _ _ hq]; simp only [hq] at h; exact h
  rename_i f s o0 len cap e0
  cases hq : g f s with
  | none => exfalso; simp only [hq] at h; (repeat' split at h) <;> cases h
  | some o => simp only [hg _ _ _ hq]; simp only [hq] at h; exact h
theorem appendV_mono (hg : GLe g g') {dst : Option Nat} (hd : ∀ d, dst = some d → g' fr d = g fr d) {t t2 : TypeId} {s x : V} {st : Step} (h : appendV P mt fr g dst t t2 s x = some st) : appendV P mt fr g' dst t t2 s x = some st := by
  unfold appendV at h ⊢
  split at h <;> try (cases h; done)
  split at h <;> try (cases h; done)
  split at h <;> try (cases h; done)
  rename_i h5
  rw [if_pos h5]
  split at h
  · cases h
  · rename_i he; rw [appSrc_mono hg he]; exact h
  · rename_i he; rw [appSrc_mono hg he]; exact appendTo_mono hg hd h
theorem lenV_mono (hg : GLe g g') {t : TypeId} {x : V} {r : V} (h : lenV P g t x = some r) : lenV P g' t x = some r := by
  unfold lenV at h ⊢
  cases hu : P.underlying t with
  | none => rw [hu] at h; cases h
  | some d =>
    rw [hu] at h
    cases d <;> cases x <;> first | exact h | (cases h; done) | skip
    rename_i f s
    cases hq : g f s with
    | none => exfalso; simp only [hq] at h; cases h
    | some o => simp only [hg _ _ _ hq]; simp only [hq] at h; exact h
theorem copySrc_mono (hg : GLe g g') {n : Nat} {x : V} {r : List V × Nat} (h : copySrc g n x = some r) : copySrc g' n x = some r := by
  unfold copySrc at h ⊢
  split at h <;> try exact h
  exact sliceCells_mono hg h
theorem copyTo_mono (hg : GLe g g') {n m : Nat} {d : V} {cs : List V} {r : Step} (h : copyTo g n d cs m = some r) : copyTo g' n d cs m = some r := by
  unfold copyTo at h ⊢
  cases d <;> try exact h
  rename_i f s o0 len cap e0
  cases hq : g f s with
  | none => exfalso; simp only [hq] at h; (repeat' split at h) <;> cases h
  | some o => simp only [hg _ _ _ hq]; simp only [hq] at h; exact h
theorem copyV_mono (hg : GLe g g') {t : TypeId} {d s : V} {r : Step} (h : copyV P g t d s = some r) : copyV P g' t d s = some r := by
  unfold copyV at h ⊢
  split at h <;> try (cases h; done)
  split at h <;> try (cases h; done)
  split at h <;> try (cases h; done)
  rename_i he
  rw [copySrc_mono hg he]
  exact copyTo_mono hg h
theorem deleteV_mono (hg : GLe g g') {t : TypeId} {m k : V} {r : Step} (h : deleteV P g t m k = some r) : deleteV P g' t m k = some r := by
  unfold deleteV at h ⊢
  cases m <;> try exact h
  rename_i f s
  cases hq : g f s with
  | none => exfalso; simp only [hq] at h; (repeat' split at h) <;> cases h
  | some o => simp only [hg _ _ _ hq]; simp only [hq] at h; exact h
theorem convertV_mono (hg : GLe g g') {s d : TypeId} {x : V} {r : Step} (h : convertV P g s d x = some r) : convertV P g' s d x = some r := by
  unfold convertV at h ⊢
  split at h <;> try exact h
  · split at h <;> try (cases h; done)
    split at h <;> try (cases h; done)
    rename_i he
    rw [sliceCells_mono hg he]; exact h
  · split at h <;> try (cases h; done)
    rename_i h1
    rw [if_pos h1]
    split at h <;> try (cases h; done)
    rename_i h2 h3
    simp only [h2, hg _ _ _ h3]; exact h
theorem builtinV_mono (hg : GLe g g') {dst : Option Nat} (hd : ∀ d, dst = some d → g' fr d = g fr d) {b : Builtin} {ts : Array TypeId} {args : List V} {r : Step} (h : builtinV P mt fr g dst b ts args = some r) : builtinV P mt fr g' dst b ts args = some r := by
  unfold builtinV at h ⊢
  split at h <;> try exact h
  · split at h <;> try (cases h; done)
    exact appendV_mono hg hd h
  · split at h <;> try (cases h; done)
    obtain ⟨v, h2, h3⟩ := Option.map_eq_some_iff.1 h
    rw [lenV_mono hg h2, ← h3]; rfl
  · split at h <;> try (cases h; done)
    exact copyV_mono hg h
  · split at h <;> try (cases h; done)
    exact deleteV_mono hg h
theorem rangeV_mono (hg : GLe g g') {dst : Option Nat} (hd : ∀ d, dst = some d → g' fr d = g fr d) {t : TypeId} {x : V} {r : Step} (h : rangeV P g fr dst t x = some r) : rangeV P g' fr dst t x = some r := by
  unfold rangeV at h ⊢
  have nw : ∀ (ob : O) (v : Nat → V), new g' fr dst ob v = new g fr dst ob v := fun ob v => new_mono hd
  simp only [nw]
  cases hu : P.underlying t with
  | none => rw [hu] at h; cases h
  | some d =>
    rw [hu] at h
    cases d <;> cases x <;> first | exact h | (cases h; done) | skip
    rename_i f s
    cases hq : g f s with
    | none => exfalso; simp only [hq] at h; cases h
    | some o => simp only [hg _ _ _ hq]; simp only [hq] at h; exact h
theorem entryV_mono (hg : GLe g g') {x : V} {r : V} (h : entryV g x = some r) : entryV g' x = some r := by
  unfold entryV at h ⊢
  split at h <;> try (cases h; done)
  split at h <;> try (cases h; done)
  rename_i h1
  rw [hg _ _ _ h1]
  simp only
  split at h <;> try (cases h; done)
  rename_i h2 h3
  simp only [hg _ _ _ h2, h3]; exact h
theorem mapEntryV_mono (hg : GLe g g') {t : TypeId} {m k : V} {r : Step} (h : mapEntryV P g t m k = some r) : mapEntryV P g' t m k = some r := by
  unfold mapEntryV at h ⊢
  cases m <;> try exact h
  rename_i f s
  cases hq : g f s with
  | none => exfalso; simp only [hq] at h; (repeat' split at h) <;> cases h
  | some o => simp only [hg _ _ _ hq]; simp only [hq] at h; exact h
theorem entryStoreV_mono (hg : GLe g g') {m s x : V} {r : Step} (h : entryStoreV g m s x = some r) : entryStoreV g' m s x = some r := by
  unfold entryStoreV at h ⊢
  split at h <;> try (cases h; done)
  split at h <;> try (cases h; done)
  rename_i h1
  rw [hg _ _ _ h1]; exact h

theorem map_mono {α β : Type} {a b : Option α} {f : α → β} {r : β} (hab : ∀ x, a = some x → b = some x) (h : a.map f = some r) : b.map f = some r := by
  obtain ⟨v, h2, h3⟩ := Option.map_eq_some_iff.1 h
  rw [hab _ h2, ← h3]; rfl

theorem nextS_mono (hg : GLe g g') {x : V} {r : Step} (h : nextS g x = some r) : nextS g' x = some r := by
  unfold nextS at h ⊢
  split at h
  case h_2 => cases h
  split at h
  case h_2 => cases h
  rename_i hi
  rw [hg _ _ _ hi]; exact h
theorem evOp_mono (hg : GLe g g') {ρ : Operand → V} {o : Oper} (hd : ∀ d, o.dst = some d → g' fr d = g fr d) {st : Step} (h : evOp P mt fr g ρ o = some st) : evOp P mt fr g' ρ o = some st := by
  have nw : ∀ (ob : O) (v : Nat → V), new g' fr o.dst ob v = new g fr o.dst ob v := fun ob v => new_mono hd
  unfold evOp at h ⊢
  cases ho : o.op <;> rw [ho] at h <;> simp only [nw] at h ⊢ <;> try exact h
  case load =>
    split at h <;> try exact h
    split at h <;> try (cases h; done)
    rename_i he; rw [hg _ _ _ he]; exact h
  case store =>
    split at h <;> try (cases h; done)
    split at h <;> try (cases h; done)
    rename_i he; rw [hg _ _ _ he]; exact h
  case convert =>
    split at h
    · exact h
    · exact convertV_mono hg h
  case slice => exact map_mono (fun x hx => sliceV_mono hg hx) h
  case lookup => exact map_mono (fun x hx => lookupV_mono hg hx) h
  case mapUpdate => exact updateV_mono hg h
  case insert => exact updateV_mono hg h
  case call c =>
    cases hc : c.callee <;> rw [hc] at h <;> simp only at h ⊢ <;> try exact h
    exact builtinV_mono hg hd h
  case range => exact rangeV_mono hg hd h
  case entry => exact map_mono (fun x hx => entryV_mono hg hx) h
  case next =>
    split at h
    · rename_i hb; simp only [hb, if_true]; exact nextS_mono hg h
    · cases h
  case mapEntry => exact mapEntryV_mono hg h
  case entryStore => exact entryStoreV_mono hg h

def Tgt (g : Get) (fr : Nat) (dst : Option Nat) (st : Step) : Prop := ∀ v f s o, st = .val v (some (f, s, o)) → (∃ x, g f s = some x) ∨ (f = fr ∧ dst = some s)
theorem Tgt.none {dst : Option Nat} {v : V} : Tgt g fr dst (.val v none) := fun _ _ _ _ h => by cases h
theorem Tgt.of {dst : Option Nat} {v : V} {f s : Nat} {o x : O} (h : g f s = some x) : Tgt g fr dst (.val v (some (f, s, o))) := fun _ _ _ _ e => by cases e; exact .inl ⟨x, h⟩
theorem new_tgt {dst : Option Nat} {o : O} {v : Nat → V} {st : Step} (h : new g fr dst o v = some st) : Tgt g fr dst st := by
  unfold new at h
  (repeat' split at h) <;> cases h
  exact fun _ _ _ _ e => by cases e; exact .inr ⟨rfl, rfl⟩
theorem grown_tgt {dst : Option Nat} {cs chk : List V} {n esz : Nat} {st : Step} (h : grown mt g fr dst cs chk n esz = some st) : Tgt g fr dst st := by
  unfold grown at h
  (repeat' split at h) <;> first | (cases h; done) | exact new_tgt h
theorem updateV_tgt {dst : Option Nat} {t : TypeId} {m k x : V} {st : Step} (h : updateV P g t m k x = some st) : Tgt g fr dst st := by
  unfold updateV at h
  (repeat' split at h) <;> cases h <;> exact Tgt.of (by assumption)
theorem appendTo_tgt {dst : Option Nat} {n b m : Nat} {s : V} {nw : List V} {st : Step} (h : appendTo mt fr g dst n b s nw m = some st) : Tgt g fr dst st := by
  unfold appendTo at h
  (repeat' split at h) <;> first | (cases h; done) | exact grown_tgt h | (cases h; exact Tgt.of (by assumption))
theorem appendV_tgt {dst : Option Nat} {t t2 : TypeId} {s x : V} {st : Step} (h : appendV P mt fr g dst t t2 s x = some st) : Tgt g fr dst st := by
  unfold appendV at h
  (repeat' split at h) <;> first | (cases h; done) | exact appendTo_tgt h | (cases h; exact Tgt.none)
theorem copyV_tgt {dst : Option Nat} {t : TypeId} {d s : V} {st : Step} (h : copyV P g t d s = some st) : Tgt g fr dst st := by
  unfold copyV copyTo at h
  (repeat' split at h) <;> first | (cases h; done) | (cases h; exact Tgt.none) | (cases h; exact Tgt.of (by assumption))
theorem deleteV_tgt {dst : Option Nat} {t : TypeId} {m k : V} {st : Step} (h : deleteV P g t m k = some st) : Tgt g fr dst st := by
  unfold deleteV at h
  (repeat' split at h) <;> first | (cases h; done) | (cases h; exact Tgt.none) | (cases h; exact Tgt.of (by assumption))
theorem nextS_tgt {dst : Option Nat} {x : V} {st : Step} (h : nextS g x = some st) : Tgt g fr dst st := by
  unfold nextS at h
  (repeat' split at h) <;> first | (cases h; done) | (cases h; exact Tgt.of (by assumption)) | (cases h; exact Tgt.none)
theorem convertV_tgt {dst : Option Nat} {s d : TypeId} {x : V} {st : Step} (h : convertV P g s d x = some st) : Tgt g fr dst st := by
  unfold convertV at h
  (repeat' split at h) <;> first | (cases h; done) | (cases h; exact Tgt.none) | (cases h; exact Tgt.of (by assumption)) | (obtain ⟨_, _, rfl⟩ := Option.map_eq_some_iff.1 h; exact Tgt.none)
theorem mapv_tgt {dst : Option Nat} {x : Option V} {st : Step} (h : (x.map fun v => Step.val v none) = some st) : Tgt g fr dst st := by
  obtain ⟨_, _, rfl⟩ := Option.map_eq_some_iff.1 h; exact Tgt.none
theorem builtinV_tgt {dst : Option Nat} {b : Builtin} {ts : Array TypeId} {args : List V} {st : Step} (h : builtinV P mt fr g dst b ts args = some st) : Tgt g fr dst st := by
  unfold builtinV at h
  (repeat' split at h) <;> first | (cases h; done) | exact appendV_tgt h | exact copyV_tgt h | exact deleteV_tgt h | exact mapv_tgt h
theorem rangeV_tgt {dst : Option Nat} {t : TypeId} {x : V} {st : Step} (h : rangeV P g fr dst t x = some st) : Tgt g fr dst st := by
  unfold rangeV at h
  (repeat' split at h) <;> first | (cases h; done) | exact new_tgt h
theorem mapEntryV_tgt {dst : Option Nat} {t : TypeId} {m k : V} {st : Step} (h : mapEntryV P g t m k = some st) : Tgt g fr dst st := by
  unfold mapEntryV at h
  (repeat' split at h) <;> first | (cases h; done) | (cases h; exact Tgt.of (by assumption))
theorem entryStoreV_tgt {dst : Option Nat} {m s x : V} {st : Step} (h : entryStoreV g m s x = some st) : Tgt g fr dst st := by
  unfold entryStoreV at h
  split at h <;> try (cases h; done)
  split at h <;> try (cases h; done)
  obtain ⟨_, _, rfl⟩ := Option.map_eq_some_iff.1 h
  exact Tgt.of (by assumption)

theorem evOp_tgt {ρ : Operand → V} {o : Oper} {st : Step} (h : evOp P mt fr g ρ o = some st) : Tgt g fr o.dst st := by
  unfold evOp at h
  cases ho : o.op <;> rw [ho] at h <;> simp only at h
  case alloc => obtain ⟨_, _, h⟩ := Option.bind_eq_some_iff.1 h; exact new_tgt h
  case box => obtain ⟨_, _, h⟩ := Option.bind_eq_some_iff.1 h; exact new_tgt h
  case convert =>
    split at h
    · exact new_tgt h
    · exact convertV_tgt h
  case mapUpdate => exact updateV_tgt h
  case insert => exact updateV_tgt h
  case range => exact rangeV_tgt h
  case next =>
    split at h
    · exact nextS_tgt h
    · cases h
  case mapEntry => exact mapEntryV_tgt h
  case entryStore => exact entryStoreV_tgt h
  case call c =>
    split at h
    · exact builtinV_tgt h
    · split at h <;> cases h <;> exact fun _ _ _ _ e => by cases e
    · cases h
  all_goals ((repeat' split at h) <;> first | (cases h; done) | exact mapv_tgt h | exact new_tgt h | (cases h; exact Tgt.none) | (cases h; exact Tgt.of (by assumption)) | (cases h; exact fun _ _ _ _ e => by cases e))

theorem growV_mono (hg : GLe g g') {nm : Nat} (hd : g' 0 nm = g 0 nm) {t t2 : TypeId} {s x : V} {r : V × List (Nat × Nat × O)} (h : growV P g nm t t2 s x = some r) : growV P g' nm t t2 s x = some r := by
  unfold growV at h ⊢
  split at h <;> try (cases h; done)
  split at h <;> try (cases h; done)
  split at h <;> try (cases h; done)
  rename_i h1
  rw [if_pos h1]
  split at h <;> try (cases h; done)
  rename_i h2 h3 h4
  rw [hg _ _ _ h2, hd, h3, appSrc_mono hg h4]
  exact h
theorem clearV_mono (hg : GLe g g') {t : TypeId} {s : V} {r : V × List (Nat × Nat × O)} (h : clearV P g t s = some r) : clearV P g' t s = some r := by
  unfold clearV at h ⊢
  split at h <;> try (cases h; done)
  split at h <;> try (cases h; done)
  · exact h
  · split at h
    · rename_i e; rw [if_pos e]; exact h
    rename_i e; rw [if_neg e]
    split at h <;> try (cases h; done)
    rename_i he
    rw [hg _ _ _ he]; exact h
theorem moreOp_mono (hg : GLe g g') {nm : Nat} (hd : g' 0 nm = g 0 nm) {ρ : Operand → V} {o : Op} {r : V × List (Nat × Nat × O)} (h : moreOp P g ρ nm o = some r) : moreOp P g' ρ nm o = some r := by
  unfold moreOp at h ⊢
  split at h <;> try (cases h; done)
  split at h <;> try (cases h; done)
  · exact growV_mono hg hd h
  · exact clearV_mono hg h
theorem moreOp_tgt {nm : Nat} {ρ : Operand → V} {o : Op} {v : V} {ws : List (Nat × Nat × O)} (h : moreOp P g ρ nm o = some (v, ws)) : ∀ x ∈ ws, (∃ y, g x.1 x.2.1 = some y) ∨ (x.1 = 0 ∧ x.2.1 = nm) := by
  unfold moreOp at h
  split at h <;> try (cases h; done)
  split at h <;> try (cases h; done)
  · unfold growV at h
    (repeat' split at h) <;> cases h
    rename_i h2 h3 h4 _
    intro x hx
    simp only [List.mem_cons, List.not_mem_nil, or_false] at hx
    rcases hx with rfl | rfl
    · exact .inl ⟨_, h2⟩
    · exact .inr ⟨rfl, rfl⟩
  · unfold clearV at h
    (repeat' split at h) <;> cases h
    · intro x hx; cases hx
    · intro x hx; cases hx
    · rename_i he _
      intro x hx
      rw [List.mem_singleton] at hx
      subst hx
      exact .inl ⟨_, he⟩

end
end Go.AM.BM
end
