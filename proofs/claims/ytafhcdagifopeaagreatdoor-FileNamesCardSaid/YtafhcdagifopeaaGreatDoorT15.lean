/- This file holds in one the texts Bx51; each says at its head what it proves. -/
import Derived.Test.YtafhcdagifopeaaGreatDoorT8
import Derived.Test.YtafhcdagifopeaaGreatDoorT14
set_option linter.unusedSimpArgs false
set_option linter.unusedVariables false
section
namespace Go.AM.BM
def GLe (g g' : Get) : Prop := ∀ f s x, g f s = some x -> g' f s = some x
section
variable {P : Program} {mt : Nat -> Bool} {fr : Nat} {g g' : Get}
theorem X6 (hg : GLe g g') {esz : Nat} {x : V} {r : List V × Nat} (h : Qy g esz x = some r) : Qy g' esz x = some r := by
 unfold Qy at h ⊢
 cases x <;> try exact h
 rename_i f s o0 len cap e0
 cases hq : g f s with
 | none => exfalso; simp only [hq] at h; (repeat' split at h) <;> cases h
 | some o => simp only [hg _ _ _ hq]; simp only [hq] at h; exact h
theorem Qs9 {dst : Option Nat} {o : O} {v : Nat -> V} (hd : ∀ d, dst = some d -> g' fr d = g fr d) : new g' fr dst o v = new g fr dst o v := Yf fun d e => hd d e
theorem Qt6 (hg : GLe g g') {t : TypeId} {x : V} {lo hi mx : Option V} {r : V} (h : Z6 P g t x lo hi mx = some r) : Z6 P g' t x lo hi mx = some r := by
 unfold Z6 at h ⊢
 cases x <;> try exact h
 rename_i f s o0
 cases hq : g f s with
 | none => exfalso; simp only [hq] at h; (repeat' split at h) <;> first | (cases h; done) | (simp at h; done)
 | some o => simp only [hg _ _ _ hq]; simp only [hq] at h; exact h
theorem Qq8 (hg : GLe g g') {t : TypeId} {m k : V} {ok : Bool} {r : V} (h : Qa9 P g t m k ok = some r) : Qa9 P g' t m k ok = some r := by
 unfold Qa9 at h ⊢
 cases m <;> try exact h
 rename_i f s
 cases hq : g f s with
 | none => exfalso; simp only [hq] at h; (repeat' split at h) <;> cases h
 | some o => simp only [hg _ _ _ hq]; simp only [hq] at h; exact h
theorem Qit (hg : GLe g g') {t : TypeId} {m k x : V} {r : Zh} (h : updateV P g t m k x = some r) : updateV P g' t m k x = some r := by
 unfold updateV at h ⊢
 cases m <;> try exact h
 rename_i f s
 cases hq : g f s with
 | none => exfalso; simp only [hq] at h; (repeat' split at h) <;> cases h
 | some o => simp only [hg _ _ _ hq]; simp only [hq] at h; exact h
theorem Qfd (hg : GLe g g') {t2 : TypeId} {n b : Nat} {z : List V} {x : V} {r : List V × Nat} (h : Y9 P g t2 n b z x = some r) : Y9 P g' t2 n b z x = some r := by
 unfold Y9 at h ⊢
 split at h <;> try exact h
 exact X6 hg h
theorem Qx6 {dst : Option Nat} {cs chk : List V} {n esz : Nat} (hd : ∀ d, dst = some d -> g' fr d = g fr d) : grown mt g' fr dst cs chk n esz = grown mt g fr dst cs chk n esz := Qcn fun d e => hd d e
theorem Qo8 (hg : GLe g g') {dst : Option Nat} (hd : ∀ d, dst = some d -> g' fr d = g fr d) {n b m : Nat} {s : V} {nw : List V} {st : Zh} (h : appendTo mt fr g dst n b s nw m = some st) : appendTo mt fr g' dst n b s nw m = some st := by
 unfold appendTo at h ⊢
 have e : ∀ cs chk n esz, grown mt g' fr dst cs chk n esz = grown mt g fr dst cs chk n esz := fun cs chk n esz => Qx6 hd
 simp only [e]
 cases s <;> try exact h
 case iS cs len full => cases full <;> exact h
 case gS f s cs len e0 =>
  cases hq : g f s with
  | none => exfalso; simp only [hq] at h; (repeat' split at h) <;> cases h
  | some o => simp only [hg _ _ _ hq]; simp only [hq] at h; exact h
 rename_i f s o0 len cap e0
 cases hq : g f s with
 | none => exfalso; simp only [hq] at h; (repeat' split at h) <;> cases h
 | some o => simp only [hg _ _ _ hq]; simp only [hq] at h; exact h
theorem Qrg (hg : GLe g g') {dst : Option Nat} (hd : ∀ d, dst = some d -> g' fr d = g fr d) {t t2 : TypeId} {s x : V} {st : Zh} (h : Zl P mt fr g dst t t2 s x = some st) : Zl P mt fr g' dst t t2 s x = some st := by
 unfold Zl at h ⊢
 split at h <;> try (cases h; done)
 split at h <;> try (cases h; done)
 split at h <;> try (cases h; done)
 rename_i h5
 rw [if_pos h5]
 split at h
 . cases h
 . rename_i he; rw [Qfd hg he]; exact h
 . rename_i he; rw [Qfd hg he]; exact Qo8 hg hd h
theorem Q08 (hg : GLe g g') {t : TypeId} {x : V} {r : V} (h : Y2 P g t x = some r) : Y2 P g' t x = some r := by
 unfold Y2 at h ⊢
 cases hu : P.underlying t with
 | none => rw [hu] at h; cases h
 | some d =>
   rw [hu] at h
   cases d <;> cases x <;> first | exact h | (cases h; done) | skip
   rename_i f s
   cases hq : g f s with
   | none => exfalso; simp only [hq] at h; cases h
   | some o => simp only [hg _ _ _ hq]; simp only [hq] at h; exact h
theorem Qsk (hg : GLe g g') {n : Nat} {x : V} {r : List V × Nat} (h : Xi g n x = some r) : Xi g' n x = some r := by
 unfold Xi at h ⊢
 split at h <;> try exact h
 exact X6 hg h
theorem Quv (hg : GLe g g') {n m : Nat} {d : V} {cs : List V} {r : Zh} (h : B4 g n d cs m = some r) : B4 g' n d cs m = some r := by
 unfold B4 at h ⊢
 cases d <;> try exact h
 rename_i f s o0 len cap e0
 cases hq : g f s with
 | none => exfalso; simp only [hq] at h; (repeat' split at h) <;> cases h
 | some o => simp only [hg _ _ _ hq]; simp only [hq] at h; exact h
theorem Qw1 (hg : GLe g g') {t : TypeId} {d s : V} {r : Zh} (h : Qap P g t d s = some r) : Qap P g' t d s = some r := by
 unfold Qap at h ⊢
 split at h <;> try (cases h; done)
 split at h <;> try (cases h; done)
 split at h <;> try (cases h; done)
 rename_i he
 rw [Qsk hg he]
 exact Quv hg h
theorem Qq6 (hg : GLe g g') {t : TypeId} {m k : V} {r : Zh} (h : Qah P g t m k = some r) : Qah P g' t m k = some r := by
 unfold Qah at h ⊢
 cases m <;> try exact h
 rename_i f s
 cases hq : g f s with
 | none => exfalso; simp only [hq] at h; (repeat' split at h) <;> cases h
 | some o => simp only [hg _ _ _ hq]; simp only [hq] at h; exact h
theorem Qof (hg : GLe g g') {s d : TypeId} {x : V} {r : Zh} (h : convertV P g s d x = some r) : convertV P g' s d x = some r := by
 unfold convertV at h ⊢
 split at h <;> try exact h
 . split at h <;> try (cases h; done)
   split at h <;> try (cases h; done)
   rename_i he
   rw [X6 hg he]; exact h
 . split at h <;> try (cases h; done)
   rename_i h1
   rw [if_pos h1]
   split at h <;> try (cases h; done)
   rename_i h2 h3
   simp only [h2, hg _ _ _ h3]; exact h
theorem Qom (hg : GLe g g') {dst : Option Nat} (hd : ∀ d, dst = some d -> g' fr d = g fr d) {b : Builtin} {ts : Array TypeId} {args : List V} {r : Zh} (h : builtinV P mt fr g dst b ts args = some r) : builtinV P mt fr g' dst b ts args = some r := by
 unfold builtinV at h ⊢
 split at h <;> try exact h
 . split at h <;> try (cases h; done)
   exact Qrg hg hd h
 . split at h <;> try (cases h; done)
   obtain ⟨v, h2, h3⟩ := Zj8.1 h
   rw [Q08 hg h2, <- h3]; rfl
 . split at h <;> try (cases h; done)
   exact Qw1 hg h
 . split at h <;> try (cases h; done)
   exact Qq6 hg h
theorem Qub (hg : GLe g g') {dst : Option Nat} (hd : ∀ d, dst = some d -> g' fr d = g fr d) {t : TypeId} {x : V} {r : Zh} (h : rangeV P g fr dst t x = some r) : rangeV P g' fr dst t x = some r := by
 unfold rangeV at h ⊢
 have nw : ∀ (ob : O) (v : Nat -> V), new g' fr dst ob v = new g fr dst ob v := fun ob v => Qs9 hd
 simp only [nw]
 cases hu : P.underlying t with
 | none => rw [hu] at h; cases h
 | some d =>
   rw [hu] at h
   cases d <;> cases x <;> first | exact h | (cases h; done) | skip
   rename_i f s
   cases hq : g f s with
   | none => exfalso; simp only [hq] at h; cases h
   | some o => simp only [hg _ _ _ hq]; simp only [hq] at h; exact h
theorem Qu5 (hg : GLe g g') {x : V} {r : V} (h : Qaf g x = some r) : Qaf g' x = some r := by
 unfold Qaf at h ⊢
 split at h <;> try (cases h; done)
 split at h <;> try (cases h; done)
 rename_i h1
 rw [hg _ _ _ h1]
 simp only
 split at h <;> try (cases h; done)
 rename_i h2 h3
 simp only [hg _ _ _ h2, h3]; exact h
theorem Qmr (hg : GLe g g') {t : TypeId} {m k : V} {r : Zh} (h : mapEntryV P g t m k = some r) : mapEntryV P g' t m k = some r := by
 unfold mapEntryV at h ⊢
 cases m <;> try exact h
 rename_i f s
 cases hq : g f s with
 | none => exfalso; simp only [hq] at h; (repeat' split at h) <;> cases h
 | some o => simp only [hg _ _ _ hq]; simp only [hq] at h; exact h
theorem Qja (hg : GLe g g') {m s x : V} {r : Zh} (h : entryStoreV g m s x = some r) : entryStoreV g' m s x = some r := by
 unfold entryStoreV at h ⊢
 split at h <;> try (cases h; done)
 split at h <;> try (cases h; done)
 rename_i h1
 rw [hg _ _ _ h1]; exact h
theorem Ql0 {α β : Type} {a b : Option α} {f : α -> β} {r : β} (hab : ∀ x, a = some x -> b = some x) (h : a.map f = some r) : b.map f = some r := by
 obtain ⟨v, h2, h3⟩ := Zj8.1 h
 rw [hab _ h2, <- h3]; rfl
theorem Qxy (hg : GLe g g') {x : V} {r : Zh} (h : nextS g x = some r) : nextS g' x = some r := by
 unfold nextS at h ⊢
 split at h
 case h_2 => cases h
 split at h
 case h_2 => cases h
 rename_i hi
 rw [hg _ _ _ hi]; exact h
theorem Bm (hg : GLe g g') {ρ : Operand -> V} {o : Oper} (hd : ∀ d, o.dst = some d -> g' fr d = g fr d) {st : Zh} (h : Ql P mt fr g ρ o = some st) : Ql P mt fr g' ρ o = some st := by
 have nw : ∀ (ob : O) (v : Nat -> V), new g' fr o.dst ob v = new g fr o.dst ob v := fun ob v => Qs9 hd
 unfold Ql at h ⊢
 cases ho : o.op <;> rw [ho] at h <;> simp only [nw] at h ⊢ <;> try exact h
 case load =>
  split at h <;> try exact h
  split at h <;> try (cases h; done)
  rename_i he; rw [hg _ _ _ he]; exact h
 case store =>
  split at h <;> try (cases h; done)
  split at h <;> try (cases h; done)
  rename_i he; rw [hg _ _ _ he]; exact h
 case convert =>
  split at h
  . exact h
  . exact Qof hg h
 case slice => exact Ql0 (fun x hx => Qt6 hg hx) h
 case lookup => exact Ql0 (fun x hx => Qq8 hg hx) h
 case mapUpdate => exact Qit hg h
 case insert => exact Qit hg h
 case call c =>
  cases hc : c.callee <;> rw [hc] at h <;> simp only at h ⊢ <;> try exact h
  exact Qom hg hd h
 case range => exact Qub hg hd h
 case entry => exact Ql0 (fun x hx => Qu5 hg hx) h
 case next =>
  split at h
  . rename_i hb; simp only [hb, if_true]; exact Qxy hg h
  . cases h
 case mapEntry => exact Qmr hg h
 case entryStore => exact Qja hg h
def Tgt (g : Get) (fr : Nat) (dst : Option Nat) (st : Zh) : Prop := ∀ v f s o, st = .val v (some (f, s, o)) -> (∃ x, g f s = some x) \/ (f = fr /\ dst = some s)
theorem Tgt.none {dst : Option Nat} {v : V} : Tgt g fr dst (.val v none) := fun _ _ _ _ h => by cases h
theorem Tgt.of {dst : Option Nat} {v : V} {f s : Nat} {o x : O} (h : g f s = some x) : Tgt g fr dst (.val v (some (f, s, o))) := fun _ _ _ _ e => by cases e; exact .inl ⟨x, h⟩
theorem Qf1 {dst : Option Nat} {o : O} {v : Nat -> V} {st : Zh} (h : new g fr dst o v = some st) : Tgt g fr dst st := by
 unfold new at h
 (repeat' split at h) <;> cases h
 exact fun _ _ _ _ e => by cases e; exact .inr ⟨rfl, rfl⟩
theorem Q00 {dst : Option Nat} {cs chk : List V} {n esz : Nat} {st : Zh} (h : grown mt g fr dst cs chk n esz = some st) : Tgt g fr dst st := by
 unfold grown at h
 (repeat' split at h) <;> first | (cases h; done) | exact Qf1 h
theorem Qke {dst : Option Nat} {t : TypeId} {m k x : V} {st : Zh} (h : updateV P g t m k x = some st) : Tgt g fr dst st := by
 unfold updateV at h
 (repeat' split at h) <;> cases h <;> exact Tgt.of (by assumption)
theorem Qqt {dst : Option Nat} {n b m : Nat} {s : V} {nw : List V} {st : Zh} (h : appendTo mt fr g dst n b s nw m = some st) : Tgt g fr dst st := by
 unfold appendTo at h
 (repeat' split at h) <;> first | (cases h; done) | exact Q00 h | (cases h; exact Tgt.of (by assumption))
theorem Qs5 {dst : Option Nat} {t t2 : TypeId} {s x : V} {st : Zh} (h : Zl P mt fr g dst t t2 s x = some st) : Tgt g fr dst st := by
 unfold Zl at h
 (repeat' split at h) <;> first | (cases h; done) | exact Qqt h | (cases h; exact Tgt.none)
theorem Q1q {dst : Option Nat} {t : TypeId} {d s : V} {st : Zh} (h : Qap P g t d s = some st) : Tgt g fr dst st := by
 unfold Qap B4 at h
 (repeat' split at h) <;> first | (cases h; done) | (cases h; exact Tgt.none) | (cases h; exact Tgt.of (by assumption))
theorem Qty {dst : Option Nat} {t : TypeId} {m k : V} {st : Zh} (h : Qah P g t m k = some st) : Tgt g fr dst st := by
 unfold Qah at h
 (repeat' split at h) <;> first | (cases h; done) | (cases h; exact Tgt.none) | (cases h; exact Tgt.of (by assumption))
theorem Q0s {dst : Option Nat} {x : V} {st : Zh} (h : nextS g x = some st) : Tgt g fr dst st := by
 unfold nextS at h
 (repeat' split at h) <;> first | (cases h; done) | (cases h; exact Tgt.of (by assumption)) | (cases h; exact Tgt.none)
theorem Qro {dst : Option Nat} {s d : TypeId} {x : V} {st : Zh} (h : convertV P g s d x = some st) : Tgt g fr dst st := by
 unfold convertV at h
 (repeat' split at h) <;> first | (cases h; done) | (cases h; exact Tgt.none) | (cases h; exact Tgt.of (by assumption)) | (obtain ⟨_, _, rfl⟩ := Zj8.1 h; exact Tgt.none)
theorem Qs8 {dst : Option Nat} {x : Option V} {st : Zh} (h : (x.map fun v => Zh.val v none) = some st) : Tgt g fr dst st := by
 obtain ⟨_, _, rfl⟩ := Zj8.1 h; exact Tgt.none
theorem Qs2 {dst : Option Nat} {b : Builtin} {ts : Array TypeId} {args : List V} {st : Zh} (h : builtinV P mt fr g dst b ts args = some st) : Tgt g fr dst st := by
 unfold builtinV at h
 (repeat' split at h) <;> first | (cases h; done) | exact Qs5 h | exact Q1q h | exact Qty h | exact Qs8 h
theorem Qvy {dst : Option Nat} {t : TypeId} {x : V} {st : Zh} (h : rangeV P g fr dst t x = some st) : Tgt g fr dst st := by
 unfold rangeV at h
 (repeat' split at h) <;> first | (cases h; done) | exact Qf1 h
theorem Qn7 {dst : Option Nat} {t : TypeId} {m k : V} {st : Zh} (h : mapEntryV P g t m k = some st) : Tgt g fr dst st := by
 unfold mapEntryV at h
 (repeat' split at h) <;> first | (cases h; done) | (cases h; exact Tgt.of (by assumption))
theorem Qky {dst : Option Nat} {m s x : V} {st : Zh} (h : entryStoreV g m s x = some st) : Tgt g fr dst st := by
 unfold entryStoreV at h
 split at h <;> try (cases h; done)
 split at h <;> try (cases h; done)
 obtain ⟨_, _, rfl⟩ := Zj8.1 h
 exact Tgt.of (by assumption)
theorem Q2x {ρ : Operand -> V} {o : Oper} {st : Zh} (h : Ql P mt fr g ρ o = some st) : Tgt g fr o.dst st := by
 unfold Ql at h
 cases ho : o.op <;> rw [ho] at h <;> simp only at h
 case alloc => obtain ⟨_, _, h⟩ := Zj9.1 h; exact Qf1 h
 case box => obtain ⟨_, _, h⟩ := Zj9.1 h; exact Qf1 h
 case convert =>
  split at h
  . exact Qf1 h
  . exact Qro h
 case mapUpdate => exact Qke h
 case insert => exact Qke h
 case range => exact Qvy h
 case next =>
  split at h
  . exact Q0s h
  . cases h
 case mapEntry => exact Qn7 h
 case entryStore => exact Qky h
 case call c =>
  split at h
  . exact Qs2 h
  . split at h <;> cases h <;> exact fun _ _ _ _ e => by cases e
  . cases h
 all_goals ((repeat' split at h) <;> first | (cases h; done) | exact Qs8 h | exact Qf1 h | (cases h; exact Tgt.none) | (cases h; exact Tgt.of (by assumption)) | (cases h; exact fun _ _ _ _ e => by cases e))
theorem Qwp (hg : GLe g g') {nm : Nat} (hd : g' 0 nm = g 0 nm) {t t2 : TypeId} {s x : V} {r : V × List (Nat × Nat × O)} (h : Qe6 P g nm t t2 s x = some r) : Qe6 P g' nm t t2 s x = some r := by
 unfold Qe6 at h ⊢
 split at h <;> try (cases h; done)
 split at h <;> try (cases h; done)
 split at h <;> try (cases h; done)
 rename_i h1
 rw [if_pos h1]
 split at h <;> try (cases h; done)
 rename_i h2 h3 h4
 rw [hg _ _ _ h2, hd, h3, Qfd hg h4]
 exact h
theorem Qtb (hg : GLe g g') {t : TypeId} {s : V} {r : V × List (Nat × Nat × O)} (h : Qe2 P g t s = some r) : Qe2 P g' t s = some r := by
 unfold Qe2 at h ⊢
 split at h <;> try (cases h; done)
 split at h <;> try (cases h; done)
 . exact h
 . split at h
   . rename_i e; rw [if_pos e]; exact h
   rename_i e; rw [if_neg e]
   split at h <;> try (cases h; done)
   rename_i he
   rw [hg _ _ _ he]; exact h
theorem Q0a (hg : GLe g g') {t : TypeId} {x l h : V} {r : V × List (Nat × Nat × O)} (e : Qpc P g t x l h = some r) : Qpc P g' t x l h = some r := by
 unfold Qpc at e ⊢
 split at e <;> try (cases e; done)
 split at e <;> try (cases e; done)
 rename_i h1 h2
 rw [h1, hg _ _ _ h2]
 exact e
theorem Q0j {t : TypeId} {x l h v : V} {ws : List (Nat × Nat × O)} (e : Qpc P g t x l h = some (v, ws)) : ws = [] := by
 unfold Qpc at e
 (repeat' split at e) <;> cases e
 rfl
theorem Qj3 (hg : GLe g g') {nm : Nat} (hd : g' 0 nm = g 0 nm) {ρ : Operand -> V} {o : Op} {r : V × List (Nat × Nat × O)} (h : Jq P g ρ nm o = some r) : Jq P g' ρ nm o = some r := by
 unfold Jq at h ⊢
 split at h <;> try (cases h; done)
 . exact Q0a hg h
 split at h <;> try (cases h; done)
 . exact Qwp hg hd h
 . exact Qtb hg h
theorem Qww {nm : Nat} {ρ : Operand -> V} {o : Op} {v : V} {ws : List (Nat × Nat × O)} (h : Jq P g ρ nm o = some (v, ws)) : ∀ x ∈ ws, (∃ y, g x.1 x.2.1 = some y) \/ (x.1 = 0 /\ x.2.1 = nm) := by
 unfold Jq at h
 split at h <;> try (cases h; done)
 . rw [Q0j h]; intro x hx; cases hx
 split at h <;> try (cases h; done)
 . unfold Qe6 at h
   (repeat' split at h) <;> cases h
   rename_i h2 h3 h4 _
   intro x hx
   simp only [Zjf, Zka, or_false] at hx
   rcases hx with rfl | rfl
   . exact .inl ⟨_, h2⟩
   . exact .inr ⟨rfl, rfl⟩
 . unfold Qe2 at h
   (repeat' split at h) <;> cases h
   . intro x hx; cases hx
   . intro x hx; cases hx
   . rename_i he _
     intro x hx
     rw [Zji] at hx
     subst hx
     exact .inl ⟨_, he⟩
end
end Go.AM.BM
end
