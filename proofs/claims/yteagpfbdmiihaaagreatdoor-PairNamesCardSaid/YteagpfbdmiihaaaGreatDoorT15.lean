/- This file holds in one the texts Bx51; each says at its head what it proves. -/
import Derived.Test.YteagpfbdmiihaaaGreatDoorT8
import Derived.Test.YteagpfbdmiihaaaGreatDoorT14
set_option linter.unusedSimpArgs false
set_option linter.unusedVariables false
section
namespace Go.AM.BM
def GLe (g g' : Get) : Prop := ∀ f s x, g f s = some x -> g' f s = some x
section
variable {P : Program} {mt : Nat -> Bool} {fr : Nat} {g g' : Get}
theorem Bm (hg : GLe g g') {esz : Nat} {x : V} {r : List V × Nat} (h : Qy g esz x = some r) : Qy g' esz x = some r := by
 unfold Qy at h ⊢
 cases x <;> try exact h
 rename_i f s o0 len cap e0
 cases hq : g f s with
 | none => exfalso; simp only [hq] at h; (repeat' split at h) <;> cases h
 | some o => simp only [hg _ _ _ hq]; simp only [hq] at h; exact h
theorem Qth {dst : Option Nat} {o : O} {v : Nat -> V} (hd : ∀ d, dst = some d -> g' fr d = g fr d) : new g' fr dst o v = new g fr dst o v := Yn fun d e => hd d e
theorem Qu8 (hg : GLe g g') {t : TypeId} {x : V} {lo hi mx : Option V} {r : V} (h : Z4 P g t x lo hi mx = some r) : Z4 P g' t x lo hi mx = some r := by
 unfold Z4 at h ⊢
 cases x <;> try exact h
 rename_i f s o0
 cases hq : g f s with
 | none => exfalso; simp only [hq] at h; (repeat' split at h) <;> first | (cases h; done) | (simp at h; done)
 | some o => simp only [hg _ _ _ hq]; simp only [hq] at h; exact h
theorem Qs1 (hg : GLe g g') {t : TypeId} {m k : V} {ok : Bool} {r : V} (h : Qbs P g t m k ok = some r) : Qbs P g' t m k ok = some r := by
 unfold Qbs at h ⊢
 cases m <;> try exact h
 rename_i f s
 cases hq : g f s with
 | none => exfalso; simp only [hq] at h; (repeat' split at h) <;> cases h
 | some o => simp only [hg _ _ _ hq]; simp only [hq] at h; exact h
theorem Qi9 (hg : GLe g g') {t : TypeId} {m k x : V} {r : Zk} (h : updateV P g t m k x = some r) : updateV P g' t m k x = some r := by
 unfold updateV at h ⊢
 cases m <;> try exact h
 rename_i f s
 cases hq : g f s with
 | none => exfalso; simp only [hq] at h; (repeat' split at h) <;> cases h
 | some o => simp only [hg _ _ _ hq]; simp only [hq] at h; exact h
theorem Qfi (hg : GLe g g') {t2 : TypeId} {n b : Nat} {z : List V} {x : V} {r : List V × Nat} (h : Y8 P g t2 n b z x = some r) : Y8 P g' t2 n b z x = some r := by
 unfold Y8 at h ⊢
 split at h <;> try exact h
 exact Bm hg h
theorem Qxr {dst : Option Nat} {cs chk : List V} {n esz : Nat} (hd : ∀ d, dst = some d -> g' fr d = g fr d) : grown mt g' fr dst cs chk n esz = grown mt g fr dst cs chk n esz := Qcx fun d e => hd d e
theorem Qo7 (hg : GLe g g') {dst : Option Nat} (hd : ∀ d, dst = some d -> g' fr d = g fr d) {n b m : Nat} {s : V} {nw : List V} {st : Zk} (h : appendTo mt fr g dst n b s nw m = some st) : appendTo mt fr g' dst n b s nw m = some st := by
 unfold appendTo at h ⊢
 have e : ∀ cs chk n esz, grown mt g' fr dst cs chk n esz = grown mt g fr dst cs chk n esz := fun cs chk n esz => Qxr hd
 simp only [e]
 cases s <;> try exact h
 case iS cs len full => cases full <;> exact h
 case gS f s cs len e0 =>
  cases hq : g f s with
  | none => exfalso; simp only [hq] at h; (repeat' split at h) <;> cases h
  | some o => simp only [hg _ _ _ hq]; simp only [hq] at h; exact h
 rename_i f s o0 len cap e0
 cases hq : g f s with
 | none => exfalso; simp only [hq] at h; (repeat' split at h) <;> cases h
 | some o => simp only [hg _ _ _ hq]; simp only [hq] at h; exact h
theorem Qsf (hg : GLe g g') {dst : Option Nat} (hd : ∀ d, dst = some d -> g' fr d = g fr d) {t t2 : TypeId} {s x : V} {st : Zk} (h : Zj P mt fr g dst t t2 s x = some st) : Zj P mt fr g' dst t t2 s x = some st := by
 unfold Zj at h ⊢
 split at h <;> try (cases h; done)
 split at h <;> try (cases h; done)
 split at h <;> try (cases h; done)
 rename_i h5
 rw [if_pos h5]
 split at h
 . cases h
 . rename_i he; rw [Qfi hg he]; exact h
 . rename_i he; rw [Qfi hg he]; exact Qo7 hg hd h
theorem Q0n (hg : GLe g g') {t : TypeId} {x : V} {r : V} (h : Ka P g t x = some r) : Ka P g' t x = some r := by
 unfold Ka at h ⊢
 cases hu : P.underlying t with
 | none => rw [hu] at h; cases h
 | some d =>
   rw [hu] at h
   cases d <;> cases x <;> first | exact h | (cases h; done) | skip
   rename_i f s
   cases hq : g f s with
   | none => exfalso; simp only [hq] at h; cases h
   | some o => simp only [hg _ _ _ hq]; simp only [hq] at h; exact h
theorem Qsy (hg : GLe g g') {n : Nat} {x : V} {r : List V × Nat} (h : Xy g n x = some r) : Xy g' n x = some r := by
 unfold Xy at h ⊢
 split at h <;> try exact h
 exact Bm hg h
theorem Qt9 (hg : GLe g g') {n m : Nat} {d : V} {cs : List V} {r : Zk} (h : Qas g n d cs m = some r) : Qas g' n d cs m = some r := by
 unfold Qas at h ⊢
 cases d <;> try exact h
 rename_i f s o0 len cap e0
 cases hq : g f s with
 | none => exfalso; simp only [hq] at h; (repeat' split at h) <;> cases h
 | some o => simp only [hg _ _ _ hq]; simp only [hq] at h; exact h
theorem Qxd (hg : GLe g g') {t : TypeId} {d s : V} {r : Zk} (h : Qbd P g t d s = some r) : Qbd P g' t d s = some r := by
 unfold Qbd at h ⊢
 split at h <;> try (cases h; done)
 split at h <;> try (cases h; done)
 split at h <;> try (cases h; done)
 rename_i he
 rw [Qsy hg he]
 exact Qt9 hg h
theorem Qst (hg : GLe g g') {t : TypeId} {m k : V} {r : Zk} (h : Qaw P g t m k = some r) : Qaw P g' t m k = some r := by
 unfold Qaw at h ⊢
 cases m <;> try exact h
 rename_i f s
 cases hq : g f s with
 | none => exfalso; simp only [hq] at h; (repeat' split at h) <;> cases h
 | some o => simp only [hg _ _ _ hq]; simp only [hq] at h; exact h
theorem Qoj (hg : GLe g g') {s d : TypeId} {x : V} {r : Zk} (h : convertV P g s d x = some r) : convertV P g' s d x = some r := by
 unfold convertV at h ⊢
 split at h <;> try exact h
 . split at h <;> try (cases h; done)
   split at h <;> try (cases h; done)
   rename_i he
   rw [Bm hg he]; exact h
 . split at h <;> try (cases h; done)
   rename_i h1
   rw [if_pos h1]
   split at h <;> try (cases h; done)
   rename_i h2 h3
   simp only [h2, hg _ _ _ h3]; exact h
theorem Qoo (hg : GLe g g') {dst : Option Nat} (hd : ∀ d, dst = some d -> g' fr d = g fr d) {b : Builtin} {ts : Array TypeId} {args : List V} {r : Zk} (h : builtinV P mt fr g dst b ts args = some r) : builtinV P mt fr g' dst b ts args = some r := by
 unfold builtinV at h ⊢
 split at h <;> try exact h
 . split at h <;> try (cases h; done)
   exact Qsf hg hd h
 . split at h <;> try (cases h; done)
   obtain ⟨v, h2, h3⟩ := Zmc.1 h
   rw [Q0n hg h2, <- h3]; rfl
 . split at h <;> try (cases h; done)
   exact Qxd hg h
 . split at h <;> try (cases h; done)
   exact Qst hg h
theorem Qtt (hg : GLe g g') {dst : Option Nat} (hd : ∀ d, dst = some d -> g' fr d = g fr d) {t : TypeId} {x : V} {r : Zk} (h : rangeV P g fr dst t x = some r) : rangeV P g' fr dst t x = some r := by
 unfold rangeV at h ⊢
 have nw : ∀ (ob : O) (v : Nat -> V), new g' fr dst ob v = new g fr dst ob v := fun ob v => Qth hd
 simp only [nw]
 cases hu : P.underlying t with
 | none => rw [hu] at h; cases h
 | some d =>
   rw [hu] at h
   cases d <;> cases x <;> first | exact h | (cases h; done) | skip
   rename_i f s
   cases hq : g f s with
   | none => exfalso; simp only [hq] at h; cases h
   | some o => simp only [hg _ _ _ hq]; simp only [hq] at h; exact h
theorem Qv1 (hg : GLe g g') {x : V} {r : V} (h : Qan g x = some r) : Qan g' x = some r := by
 unfold Qan at h ⊢
 split at h <;> try (cases h; done)
 split at h <;> try (cases h; done)
 rename_i h1
 rw [hg _ _ _ h1]
 simp only
 split at h <;> try (cases h; done)
 rename_i h2 h3
 simp only [hg _ _ _ h2, h3]; exact h
theorem Qmf (hg : GLe g g') {t : TypeId} {m k : V} {r : Zk} (h : mapEntryV P g t m k = some r) : mapEntryV P g' t m k = some r := by
 unfold mapEntryV at h ⊢
 cases m <;> try exact h
 rename_i f s
 cases hq : g f s with
 | none => exfalso; simp only [hq] at h; (repeat' split at h) <;> cases h
 | some o => simp only [hg _ _ _ hq]; simp only [hq] at h; exact h
theorem Qka (hg : GLe g g') {m s x : V} {r : Zk} (h : entryStoreV g m s x = some r) : entryStoreV g' m s x = some r := by
 unfold entryStoreV at h ⊢
 split at h <;> try (cases h; done)
 split at h <;> try (cases h; done)
 rename_i h1
 rw [hg _ _ _ h1]; exact h
theorem Qng {α β : Type} {a b : Option α} {f : α -> β} {r : β} (hab : ∀ x, a = some x -> b = some x) (h : a.map f = some r) : b.map f = some r := by
 obtain ⟨v, h2, h3⟩ := Zmc.1 h
 rw [hab _ h2, <- h3]; rfl
theorem Qwp (hg : GLe g g') {x : V} {r : Zk} (h : nextS g x = some r) : nextS g' x = some r := by
 unfold nextS at h ⊢
 split at h
 case h_2 => cases h
 split at h
 case h_2 => cases h
 rename_i hi
 rw [hg _ _ _ hi]; exact h
theorem B1 (hg : GLe g g') {ρ : Operand -> V} {o : Oper} (hd : ∀ d, o.dst = some d -> g' fr d = g fr d) {st : Zk} (h : Ql P mt fr g ρ o = some st) : Ql P mt fr g' ρ o = some st := by
 have nw : ∀ (ob : O) (v : Nat -> V), new g' fr o.dst ob v = new g fr o.dst ob v := fun ob v => Qth hd
 unfold Ql at h ⊢
 cases ho : o.op <;> rw [ho] at h <;> simp only [nw] at h ⊢ <;> try exact h
 case load =>
  split at h <;> try exact h
  split at h <;> try (cases h; done)
  rename_i he; rw [hg _ _ _ he]; exact h
 case store =>
  split at h <;> try (cases h; done)
  split at h <;> try (cases h; done)
  rename_i he; rw [hg _ _ _ he]; exact h
 case convert =>
  split at h
  . exact h
  . exact Qoj hg h
 case slice => exact Qng (fun x hx => Qu8 hg hx) h
 case lookup => exact Qng (fun x hx => Qs1 hg hx) h
 case mapUpdate => exact Qi9 hg h
 case insert => exact Qi9 hg h
 case call c =>
  cases hc : c.callee <;> rw [hc] at h <;> simp only at h ⊢ <;> try exact h
  exact Qoo hg hd h
 case range => exact Qtt hg hd h
 case entry => exact Qng (fun x hx => Qv1 hg hx) h
 case next =>
  split at h
  . rename_i hb; simp only [hb, if_true]; exact Qwp hg h
  . cases h
 case mapEntry => exact Qmf hg h
 case entryStore => exact Qka hg h
def Tgt (g : Get) (fr : Nat) (dst : Option Nat) (st : Zk) : Prop := ∀ v f s o, st = .val v (some (f, s, o)) -> (∃ x, g f s = some x) \/ (f = fr /\ dst = some s)
theorem Tgt.none {dst : Option Nat} {v : V} : Tgt g fr dst (.val v none) := fun _ _ _ _ h => by cases h
theorem Tgt.of {dst : Option Nat} {v : V} {f s : Nat} {o x : O} (h : g f s = some x) : Tgt g fr dst (.val v (some (f, s, o))) := fun _ _ _ _ e => by cases e; exact .inl ⟨x, h⟩
theorem Qgh {dst : Option Nat} {o : O} {v : Nat -> V} {st : Zk} (h : new g fr dst o v = some st) : Tgt g fr dst st := by
 unfold new at h
 (repeat' split at h) <;> cases h
 exact fun _ _ _ _ e => by cases e; exact .inr ⟨rfl, rfl⟩
theorem Q0y {dst : Option Nat} {cs chk : List V} {n esz : Nat} {st : Zk} (h : grown mt g fr dst cs chk n esz = some st) : Tgt g fr dst st := by
 unfold grown at h
 (repeat' split at h) <;> first | (cases h; done) | exact Qgh h
theorem Qki {dst : Option Nat} {t : TypeId} {m k x : V} {st : Zk} (h : updateV P g t m k x = some st) : Tgt g fr dst st := by
 unfold updateV at h
 (repeat' split at h) <;> cases h <;> exact Tgt.of (by assumption)
theorem Qsc {dst : Option Nat} {n b m : Nat} {s : V} {nw : List V} {st : Zk} (h : appendTo mt fr g dst n b s nw m = some st) : Tgt g fr dst st := by
 unfold appendTo at h
 (repeat' split at h) <;> first | (cases h; done) | exact Q0y h | (cases h; exact Tgt.of (by assumption))
theorem Qtw {dst : Option Nat} {t t2 : TypeId} {s x : V} {st : Zk} (h : Zj P mt fr g dst t t2 s x = some st) : Tgt g fr dst st := by
 unfold Zj at h
 (repeat' split at h) <;> first | (cases h; done) | exact Qsc h | (cases h; exact Tgt.none)
theorem Q08 {dst : Option Nat} {t : TypeId} {d s : V} {st : Zk} (h : Qbd P g t d s = some st) : Tgt g fr dst st := by
 unfold Qbd Qas at h
 (repeat' split at h) <;> first | (cases h; done) | (cases h; exact Tgt.none) | (cases h; exact Tgt.of (by assumption))
theorem Qu2 {dst : Option Nat} {t : TypeId} {m k : V} {st : Zk} (h : Qaw P g t m k = some st) : Tgt g fr dst st := by
 unfold Qaw at h
 (repeat' split at h) <;> first | (cases h; done) | (cases h; exact Tgt.none) | (cases h; exact Tgt.of (by assumption))
theorem Qz8 {dst : Option Nat} {x : V} {st : Zk} (h : nextS g x = some st) : Tgt g fr dst st := by
 unfold nextS at h
 (repeat' split at h) <;> first | (cases h; done) | (cases h; exact Tgt.of (by assumption)) | (cases h; exact Tgt.none)
theorem Qq9 {dst : Option Nat} {s d : TypeId} {x : V} {st : Zk} (h : convertV P g s d x = some st) : Tgt g fr dst st := by
 unfold convertV at h
 (repeat' split at h) <;> first | (cases h; done) | (cases h; exact Tgt.none) | (cases h; exact Tgt.of (by assumption)) | (obtain ⟨_, _, rfl⟩ := Zmc.1 h; exact Tgt.none)
theorem Qux {dst : Option Nat} {x : Option V} {st : Zk} (h : (x.map fun v => Zk.val v none) = some st) : Tgt g fr dst st := by
 obtain ⟨_, _, rfl⟩ := Zmc.1 h; exact Tgt.none
theorem Qr9 {dst : Option Nat} {b : Builtin} {ts : Array TypeId} {args : List V} {st : Zk} (h : builtinV P mt fr g dst b ts args = some st) : Tgt g fr dst st := by
 unfold builtinV at h
 (repeat' split at h) <;> first | (cases h; done) | exact Qtw h | exact Q08 h | exact Qu2 h | exact Qux h
theorem Qyi {dst : Option Nat} {t : TypeId} {x : V} {st : Zk} (h : rangeV P g fr dst t x = some st) : Tgt g fr dst st := by
 unfold rangeV at h
 (repeat' split at h) <;> first | (cases h; done) | exact Qgh h
theorem Qoc {dst : Option Nat} {t : TypeId} {m k : V} {st : Zk} (h : mapEntryV P g t m k = some st) : Tgt g fr dst st := by
 unfold mapEntryV at h
 (repeat' split at h) <;> first | (cases h; done) | (cases h; exact Tgt.of (by assumption))
theorem Qli {dst : Option Nat} {m s x : V} {st : Zk} (h : entryStoreV g m s x = some st) : Tgt g fr dst st := by
 unfold entryStoreV at h
 split at h <;> try (cases h; done)
 split at h <;> try (cases h; done)
 obtain ⟨_, _, rfl⟩ := Zmc.1 h
 exact Tgt.of (by assumption)
theorem Q4w {ρ : Operand -> V} {o : Oper} {st : Zk} (h : Ql P mt fr g ρ o = some st) : Tgt g fr o.dst st := by
 unfold Ql at h
 cases ho : o.op <;> rw [ho] at h <;> simp only at h
 case alloc => obtain ⟨_, _, h⟩ := Zmd.1 h; exact Qgh h
 case box => obtain ⟨_, _, h⟩ := Zmd.1 h; exact Qgh h
 case convert =>
  split at h
  . exact Qgh h
  . exact Qq9 h
 case mapUpdate => exact Qki h
 case insert => exact Qki h
 case range => exact Qyi h
 case next =>
  split at h
  . exact Qz8 h
  . cases h
 case mapEntry => exact Qoc h
 case entryStore => exact Qli h
 case call c =>
  split at h
  . exact Qr9 h
  . split at h <;> cases h <;> exact fun _ _ _ _ e => by cases e
  . cases h
 all_goals ((repeat' split at h) <;> first | (cases h; done) | exact Qux h | exact Qgh h | (cases h; exact Tgt.none) | (cases h; exact Tgt.of (by assumption)) | (cases h; exact fun _ _ _ _ e => by cases e))
theorem Qxu (hg : GLe g g') {nm : Nat} (hd : g' 0 nm = g 0 nm) {t t2 : TypeId} {s x : V} {r : V × List (Nat × Nat × O)} (h : Qfu P g nm t t2 s x = some r) : Qfu P g' nm t t2 s x = some r := by
 unfold Qfu at h ⊢
 split at h <;> try (cases h; done)
 split at h <;> try (cases h; done)
 split at h <;> try (cases h; done)
 rename_i h1
 rw [if_pos h1]
 split at h <;> try (cases h; done)
 rename_i h2 h3 h4
 rw [hg _ _ _ h2, hd, h3, Qfi hg h4]
 exact h
theorem Qt0 (hg : GLe g g') {t : TypeId} {s : V} {r : V × List (Nat × Nat × O)} (h : Qfs P g t s = some r) : Qfs P g' t s = some r := by
 unfold Qfs at h ⊢
 split at h <;> try (cases h; done)
 split at h <;> try (cases h; done)
 . exact h
 . split at h
   . rename_i e; rw [if_pos e]; exact h
   rename_i e; rw [if_neg e]
   split at h <;> try (cases h; done)
   rename_i he
   rw [hg _ _ _ he]; exact h
theorem Qz3 (hg : GLe g g') {t : TypeId} {x l h : V} {r : V × List (Nat × Nat × O)} (e : Qpe P g t x l h = some r) : Qpe P g' t x l h = some r := by
 unfold Qpe at e ⊢
 split at e <;> try (cases e; done)
 split at e <;> try (cases e; done)
 rename_i h1 h2
 rw [h1, hg _ _ _ h2]
 exact e
theorem Q11 {t : TypeId} {x l h v : V} {ws : List (Nat × Nat × O)} (e : Qpe P g t x l h = some (v, ws)) : ws = [] := by
 unfold Qpe at e
 (repeat' split at e) <;> cases e
 rfl
theorem Qke (hg : GLe g g') {nm : Nat} (hd : g' 0 nm = g 0 nm) {ρ : Operand -> V} {o : Op} {r : V × List (Nat × Nat × O)} (h : Jx P g ρ nm o = some r) : Jx P g' ρ nm o = some r := by
 unfold Jx at h ⊢
 split at h <;> try (cases h; done)
 . exact Qz3 hg h
 split at h <;> try (cases h; done)
 . exact Qxu hg hd h
 . exact Qt0 hg h
theorem Qwu {nm : Nat} {ρ : Operand -> V} {o : Op} {v : V} {ws : List (Nat × Nat × O)} (h : Jx P g ρ nm o = some (v, ws)) : ∀ x ∈ ws, (∃ y, g x.1 x.2.1 = some y) \/ (x.1 = 0 /\ x.2.1 = nm) := by
 unfold Jx at h
 split at h <;> try (cases h; done)
 . rw [Q11 h]; intro x hx; cases hx
 split at h <;> try (cases h; done)
 . unfold Qfu at h
   (repeat' split at h) <;> cases h
   rename_i h2 h3 h4 _
   intro x hx
   simp only [Zli, List.not_mem_nil, or_false] at hx
   rcases hx with rfl | rfl
   . exact .inl ⟨_, h2⟩
   . exact .inr ⟨rfl, rfl⟩
 . unfold Qfs at h
   (repeat' split at h) <;> cases h
   . intro x hx; cases hx
   . intro x hx; cases hx
   . rename_i he _
     intro x hx
     rw [Zll] at hx
     subst hx
     exact .inl ⟨_, he⟩
end
end Go.AM.BM
end
