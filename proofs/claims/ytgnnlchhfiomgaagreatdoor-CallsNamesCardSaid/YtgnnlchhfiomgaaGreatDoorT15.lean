/- This file holds in one the texts Bx51; each says at its head what it proves. -/
import Derived.Test.YtgnnlchhfiomgaaGreatDoorT8
import Derived.Test.YtgnnlchhfiomgaaGreatDoorT14
set_option linter.unusedSimpArgs false
set_option linter.unusedVariables false
section
namespace Go.AM.BM
def GLe (g g' : Get) : Prop := ∀ f s x, g f s = some x -> g' f s = some x
section
variable {P : Program} {mt : Nat -> Bool} {fr : Nat} {g g' : Get}
theorem Bf (hg : GLe g g') {esz : Nat} {x : V} {r : List V × Nat} (h : Qy g esz x = some r) : Qy g' esz x = some r := by
 unfold Qy at h ⊢
 cases x <;> try exact h
 rename_i f s o0 len cap e0
 cases hq : g f s with
 | none => exfalso; simp only [hq] at h; (repeat' split at h) <;> cases h
 | some o => simp only [hg _ _ _ hq]; simp only [hq] at h; exact h
theorem Qvk {dst : Option Nat} {o : O} {v : Nat -> V} (hd : ∀ d, dst = some d -> g' fr d = g fr d) : new g' fr dst o v = new g fr dst o v := Yi fun d e => hd d e
theorem Qu0 (hg : GLe g g') {t : TypeId} {x : V} {lo hi mx : Option V} {r : V} (h : Z6 P g t x lo hi mx = some r) : Z6 P g' t x lo hi mx = some r := by
 unfold Z6 at h ⊢
 cases x <;> try exact h
 rename_i f s o0
 cases hq : g f s with
 | none => exfalso; simp only [hq] at h; (repeat' split at h) <;> first | (cases h; done) | (simp at h; done)
 | some o => simp only [hg _ _ _ hq]; simp only [hq] at h; exact h
theorem Qq3 (hg : GLe g g') {t : TypeId} {m k : V} {ok : Bool} {r : V} (h : Qbk P g t m k ok = some r) : Qbk P g' t m k ok = some r := by
 unfold Qbk at h ⊢
 cases m <;> try exact h
 rename_i f s
 cases hq : g f s with
 | none => exfalso; simp only [hq] at h; (repeat' split at h) <;> cases h
 | some o => simp only [hg _ _ _ hq]; simp only [hq] at h; exact h
theorem Qil (hg : GLe g g') {t : TypeId} {m k x : V} {r : Zh} (h : updateV P g t m k x = some r) : updateV P g' t m k x = some r := by
 unfold updateV at h ⊢
 cases m <;> try exact h
 rename_i f s
 cases hq : g f s with
 | none => exfalso; simp only [hq] at h; (repeat' split at h) <;> cases h
 | some o => simp only [hg _ _ _ hq]; simp only [hq] at h; exact h
theorem Qe2 (hg : GLe g g') {t2 : TypeId} {n b : Nat} {z : List V} {x : V} {r : List V × Nat} (h : Kc P g t2 n b z x = some r) : Kc P g' t2 n b z x = some r := by
 unfold Kc at h ⊢
 split at h <;> try exact h
 exact Bf hg h
theorem Qwf {dst : Option Nat} {cs chk : List V} {n esz : Nat} (hd : ∀ d, dst = some d -> g' fr d = g fr d) : grown mt g' fr dst cs chk n esz = grown mt g fr dst cs chk n esz := Qcq fun d e => hd d e
theorem Qpd (hg : GLe g g') {dst : Option Nat} (hd : ∀ d, dst = some d -> g' fr d = g fr d) {n b m : Nat} {s : V} {nw : List V} {st : Zh} (h : appendTo mt fr g dst n b s nw m = some st) : appendTo mt fr g' dst n b s nw m = some st := by
 unfold appendTo at h ⊢
 have e : ∀ cs chk n esz, grown mt g' fr dst cs chk n esz = grown mt g fr dst cs chk n esz := fun cs chk n esz => Qwf hd
 simp only [e]
 cases s <;> try exact h
 case iS cs len full => cases full <;> exact h
 case gS f s cs len e0 =>
  cases hq : g f s with
  | none => exfalso; simp only [hq] at h; (repeat' split at h) <;> cases h
  | some o => simp only [hg _ _ _ hq]; simp only [hq] at h; exact h
 rename_i f s o0 len cap e0
 cases hq : g f s with
 | none => exfalso; simp only [hq] at h; (repeat' split at h) <;> cases h
 | some o => simp only [hg _ _ _ hq]; simp only [hq] at h; exact h
theorem Qr7 (hg : GLe g g') {dst : Option Nat} (hd : ∀ d, dst = some d -> g' fr d = g fr d) {t t2 : TypeId} {s x : V} {st : Zh} (h : Zl P mt fr g dst t t2 s x = some st) : Zl P mt fr g' dst t t2 s x = some st := by
 unfold Zl at h ⊢
 split at h <;> try (cases h; done)
 split at h <;> try (cases h; done)
 split at h <;> try (cases h; done)
 rename_i h5
 rw [if_pos h5]
 split at h
 . cases h
 . rename_i he; rw [Qe2 hg he]; exact h
 . rename_i he; rw [Qe2 hg he]; exact Qpd hg hd h
theorem Qz2 (hg : GLe g g') {t : TypeId} {x : V} {r : V} (h : Y5 P g t x = some r) : Y5 P g' t x = some r := by
 unfold Y5 at h ⊢
 cases hu : P.underlying t with
 | none => rw [hu] at h; cases h
 | some d =>
   rw [hu] at h
   cases d <;> cases x <;> first | exact h | (cases h; done) | skip
   rename_i f s
   cases hq : g f s with
   | none => exfalso; simp only [hq] at h; cases h
   | some o => simp only [hg _ _ _ hq]; simp only [hq] at h; exact h
theorem Qr9 (hg : GLe g g') {n : Nat} {x : V} {r : List V × Nat} (h : Xo g n x = some r) : Xo g' n x = some r := by
 unfold Xo at h ⊢
 split at h <;> try exact h
 exact Bf hg h
theorem Qtt (hg : GLe g g') {n m : Nat} {d : V} {cs : List V} {r : Zh} (h : Qah g n d cs m = some r) : Qah g' n d cs m = some r := by
 unfold Qah at h ⊢
 cases d <;> try exact h
 rename_i f s o0 len cap e0
 cases hq : g f s with
 | none => exfalso; simp only [hq] at h; (repeat' split at h) <;> cases h
 | some o => simp only [hg _ _ _ hq]; simp only [hq] at h; exact h
theorem Qwz (hg : GLe g g') {t : TypeId} {d s : V} {r : Zh} (h : Qa5 P g t d s = some r) : Qa5 P g' t d s = some r := by
 unfold Qa5 at h ⊢
 split at h <;> try (cases h; done)
 split at h <;> try (cases h; done)
 split at h <;> try (cases h; done)
 rename_i he
 rw [Qr9 hg he]
 exact Qtt hg h
theorem Qse (hg : GLe g g') {t : TypeId} {m k : V} {r : Zh} (h : Qan P g t m k = some r) : Qan P g' t m k = some r := by
 unfold Qan at h ⊢
 cases m <;> try exact h
 rename_i f s
 cases hq : g f s with
 | none => exfalso; simp only [hq] at h; (repeat' split at h) <;> cases h
 | some o => simp only [hg _ _ _ hq]; simp only [hq] at h; exact h
theorem Qor (hg : GLe g g') {s d : TypeId} {x : V} {r : Zh} (h : convertV P g s d x = some r) : convertV P g' s d x = some r := by
 unfold convertV at h ⊢
 split at h <;> try exact h
 . split at h <;> try (cases h; done)
   split at h <;> try (cases h; done)
   rename_i he
   rw [Bf hg he]; exact h
 . split at h <;> try (cases h; done)
   rename_i h1
   rw [if_pos h1]
   split at h <;> try (cases h; done)
   rename_i h2 h3
   simp only [h2, hg _ _ _ h3]; exact h
theorem Qov (hg : GLe g g') {dst : Option Nat} (hd : ∀ d, dst = some d -> g' fr d = g fr d) {b : Builtin} {ts : Array TypeId} {args : List V} {r : Zh} (h : builtinV P mt fr g dst b ts args = some r) : builtinV P mt fr g' dst b ts args = some r := by
 unfold builtinV at h ⊢
 split at h <;> try exact h
 . split at h <;> try (cases h; done)
   exact Qr7 hg hd h
 . split at h <;> try (cases h; done)
   obtain ⟨v, h2, h3⟩ := Zk7.1 h
   rw [Qz2 hg h2, <- h3]; rfl
 . split at h <;> try (cases h; done)
   exact Qwz hg h
 . split at h <;> try (cases h; done)
   exact Qse hg h
theorem Qui (hg : GLe g g') {dst : Option Nat} (hd : ∀ d, dst = some d -> g' fr d = g fr d) {t : TypeId} {x : V} {r : Zh} (h : rangeV P g fr dst t x = some r) : rangeV P g' fr dst t x = some r := by
 unfold rangeV at h ⊢
 have nw : ∀ (ob : O) (v : Nat -> V), new g' fr dst ob v = new g fr dst ob v := fun ob v => Qvk hd
 simp only [nw]
 cases hu : P.underlying t with
 | none => rw [hu] at h; cases h
 | some d =>
   rw [hu] at h
   cases d <;> cases x <;> first | exact h | (cases h; done) | skip
   rename_i f s
   cases hq : g f s with
   | none => exfalso; simp only [hq] at h; cases h
   | some o => simp only [hg _ _ _ hq]; simp only [hq] at h; exact h
theorem Qvi (hg : GLe g g') {x : V} {r : V} (h : Qal g x = some r) : Qal g' x = some r := by
 unfold Qal at h ⊢
 split at h <;> try (cases h; done)
 split at h <;> try (cases h; done)
 rename_i h1
 rw [hg _ _ _ h1]
 simp only
 split at h <;> try (cases h; done)
 rename_i h2 h3
 simp only [hg _ _ _ h2, h3]; exact h
theorem Ql4 (hg : GLe g g') {t : TypeId} {m k : V} {r : Zh} (h : mapEntryV P g t m k = some r) : mapEntryV P g' t m k = some r := by
 unfold mapEntryV at h ⊢
 cases m <;> try exact h
 rename_i f s
 cases hq : g f s with
 | none => exfalso; simp only [hq] at h; (repeat' split at h) <;> cases h
 | some o => simp only [hg _ _ _ hq]; simp only [hq] at h; exact h
theorem Qjk (hg : GLe g g') {m s x : V} {r : Zh} (h : entryStoreV g m s x = some r) : entryStoreV g' m s x = some r := by
 unfold entryStoreV at h ⊢
 split at h <;> try (cases h; done)
 split at h <;> try (cases h; done)
 rename_i h1
 rw [hg _ _ _ h1]; exact h
theorem Qls {α β : Type} {a b : Option α} {f : α -> β} {r : β} (hab : ∀ x, a = some x -> b = some x) (h : a.map f = some r) : b.map f = some r := by
 obtain ⟨v, h2, h3⟩ := Zk7.1 h
 rw [hab _ h2, <- h3]; rfl
theorem Qwq (hg : GLe g g') {x : V} {r : Zh} (h : nextS g x = some r) : nextS g' x = some r := by
 unfold nextS at h ⊢
 split at h
 case h_2 => cases h
 split at h
 case h_2 => cases h
 rename_i hi
 rw [hg _ _ _ hi]; exact h
theorem Bq (hg : GLe g g') {ρ : Operand -> V} {o : Oper} (hd : ∀ d, o.dst = some d -> g' fr d = g fr d) {st : Zh} (h : Ql P mt fr g ρ o = some st) : Ql P mt fr g' ρ o = some st := by
 have nw : ∀ (ob : O) (v : Nat -> V), new g' fr o.dst ob v = new g fr o.dst ob v := fun ob v => Qvk hd
 unfold Ql at h ⊢
 cases ho : o.op <;> rw [ho] at h <;> simp only [nw] at h ⊢ <;> try exact h
 case load =>
  split at h <;> try exact h
  split at h <;> try (cases h; done)
  rename_i he; rw [hg _ _ _ he]; exact h
 case store =>
  split at h <;> try (cases h; done)
  split at h <;> try (cases h; done)
  rename_i he; rw [hg _ _ _ he]; exact h
 case convert =>
  split at h
  . exact h
  . exact Qor hg h
 case slice => exact Qls (fun x hx => Qu0 hg hx) h
 case lookup => exact Qls (fun x hx => Qq3 hg hx) h
 case mapUpdate => exact Qil hg h
 case insert => exact Qil hg h
 case call c =>
  cases hc : c.callee <;> rw [hc] at h <;> simp only at h ⊢ <;> try exact h
  exact Qov hg hd h
 case range => exact Qui hg hd h
 case entry => exact Qls (fun x hx => Qvi hg hx) h
 case next =>
  split at h
  . rename_i hb; simp only [hb, if_true]; exact Qwq hg h
  . cases h
 case mapEntry => exact Ql4 hg h
 case entryStore => exact Qjk hg h
def Tgt (g : Get) (fr : Nat) (dst : Option Nat) (st : Zh) : Prop := ∀ v f s o, st = .val v (some (f, s, o)) -> (∃ x, g f s = some x) \/ (f = fr /\ dst = some s)
theorem Tgt.none {dst : Option Nat} {v : V} : Tgt g fr dst (.val v none) := fun _ _ _ _ h => by cases h
theorem Tgt.of {dst : Option Nat} {v : V} {f s : Nat} {o x : O} (h : g f s = some x) : Tgt g fr dst (.val v (some (f, s, o))) := fun _ _ _ _ e => by cases e; exact .inl ⟨x, h⟩
theorem Qf9 {dst : Option Nat} {o : O} {v : Nat -> V} {st : Zh} (h : new g fr dst o v = some st) : Tgt g fr dst st := by
 unfold new at h
 (repeat' split at h) <;> cases h
 exact fun _ _ _ _ e => by cases e; exact .inr ⟨rfl, rfl⟩
theorem Q08 {dst : Option Nat} {cs chk : List V} {n esz : Nat} {st : Zh} (h : grown mt g fr dst cs chk n esz = some st) : Tgt g fr dst st := by
 unfold grown at h
 (repeat' split at h) <;> first | (cases h; done) | exact Qf9 h
theorem Qko {dst : Option Nat} {t : TypeId} {m k x : V} {st : Zh} (h : updateV P g t m k x = some st) : Tgt g fr dst st := by
 unfold updateV at h
 (repeat' split at h) <;> cases h <;> exact Tgt.of (by assumption)
theorem Qro {dst : Option Nat} {n b m : Nat} {s : V} {nw : List V} {st : Zh} (h : appendTo mt fr g dst n b s nw m = some st) : Tgt g fr dst st := by
 unfold appendTo at h
 (repeat' split at h) <;> first | (cases h; done) | exact Q08 h | (cases h; exact Tgt.of (by assumption))
theorem Qu8 {dst : Option Nat} {t t2 : TypeId} {s x : V} {st : Zh} (h : Zl P mt fr g dst t t2 s x = some st) : Tgt g fr dst st := by
 unfold Zl at h
 (repeat' split at h) <;> first | (cases h; done) | exact Qro h | (cases h; exact Tgt.none)
theorem Q0o {dst : Option Nat} {t : TypeId} {d s : V} {st : Zh} (h : Qa5 P g t d s = some st) : Tgt g fr dst st := by
 unfold Qa5 Qah at h
 (repeat' split at h) <;> first | (cases h; done) | (cases h; exact Tgt.none) | (cases h; exact Tgt.of (by assumption))
theorem Qvp {dst : Option Nat} {t : TypeId} {m k : V} {st : Zh} (h : Qan P g t m k = some st) : Tgt g fr dst st := by
 unfold Qan at h
 (repeat' split at h) <;> first | (cases h; done) | (cases h; exact Tgt.none) | (cases h; exact Tgt.of (by assumption))
theorem Qzw {dst : Option Nat} {x : V} {st : Zh} (h : nextS g x = some st) : Tgt g fr dst st := by
 unfold nextS at h
 (repeat' split at h) <;> first | (cases h; done) | (cases h; exact Tgt.of (by assumption)) | (cases h; exact Tgt.none)
theorem Qrw {dst : Option Nat} {s d : TypeId} {x : V} {st : Zh} (h : convertV P g s d x = some st) : Tgt g fr dst st := by
 unfold convertV at h
 (repeat' split at h) <;> first | (cases h; done) | (cases h; exact Tgt.none) | (cases h; exact Tgt.of (by assumption)) | (obtain ⟨_, _, rfl⟩ := Zk7.1 h; exact Tgt.none)
theorem Qti {dst : Option Nat} {x : Option V} {st : Zh} (h : (x.map fun v => Zh.val v none) = some st) : Tgt g fr dst st := by
 obtain ⟨_, _, rfl⟩ := Zk7.1 h; exact Tgt.none
theorem Qrf {dst : Option Nat} {b : Builtin} {ts : Array TypeId} {args : List V} {st : Zh} (h : builtinV P mt fr g dst b ts args = some st) : Tgt g fr dst st := by
 unfold builtinV at h
 (repeat' split at h) <;> first | (cases h; done) | exact Qu8 h | exact Q0o h | exact Qvp h | exact Qti h
theorem Qwd {dst : Option Nat} {t : TypeId} {x : V} {st : Zh} (h : rangeV P g fr dst t x = some st) : Tgt g fr dst st := by
 unfold rangeV at h
 (repeat' split at h) <;> first | (cases h; done) | exact Qf9 h
theorem Qpe {dst : Option Nat} {t : TypeId} {m k : V} {st : Zh} (h : mapEntryV P g t m k = some st) : Tgt g fr dst st := by
 unfold mapEntryV at h
 (repeat' split at h) <;> first | (cases h; done) | (cases h; exact Tgt.of (by assumption))
theorem Qk4 {dst : Option Nat} {m s x : V} {st : Zh} (h : entryStoreV g m s x = some st) : Tgt g fr dst st := by
 unfold entryStoreV at h
 split at h <;> try (cases h; done)
 split at h <;> try (cases h; done)
 obtain ⟨_, _, rfl⟩ := Zk7.1 h
 exact Tgt.of (by assumption)
theorem Q32 {ρ : Operand -> V} {o : Oper} {st : Zh} (h : Ql P mt fr g ρ o = some st) : Tgt g fr o.dst st := by
 unfold Ql at h
 cases ho : o.op <;> rw [ho] at h <;> simp only at h
 case alloc => obtain ⟨_, _, h⟩ := Zk8.1 h; exact Qf9 h
 case box => obtain ⟨_, _, h⟩ := Zk8.1 h; exact Qf9 h
 case convert =>
  split at h
  . exact Qf9 h
  . exact Qrw h
 case mapUpdate => exact Qko h
 case insert => exact Qko h
 case range => exact Qwd h
 case next =>
  split at h
  . exact Qzw h
  . cases h
 case mapEntry => exact Qpe h
 case entryStore => exact Qk4 h
 case call c =>
  split at h
  . exact Qrf h
  . split at h <;> cases h <;> exact fun _ _ _ _ e => by cases e
  . cases h
 all_goals ((repeat' split at h) <;> first | (cases h; done) | exact Qti h | exact Qf9 h | (cases h; exact Tgt.none) | (cases h; exact Tgt.of (by assumption)) | (cases h; exact fun _ _ _ _ e => by cases e))
theorem Qxt (hg : GLe g g') {nm : Nat} (hd : g' 0 nm = g 0 nm) {t t2 : TypeId} {s x : V} {r : V × List (Nat × Nat × O)} (h : Qf2 P g nm t t2 s x = some r) : Qf2 P g' nm t t2 s x = some r := by
 unfold Qf2 at h ⊢
 split at h <;> try (cases h; done)
 split at h <;> try (cases h; done)
 split at h <;> try (cases h; done)
 rename_i h1
 rw [if_pos h1]
 split at h <;> try (cases h; done)
 rename_i h2 h3 h4
 rw [hg _ _ _ h2, hd, h3, Qe2 hg h4]
 exact h
theorem Qt9 (hg : GLe g g') {t : TypeId} {s : V} {r : V × List (Nat × Nat × O)} (h : Qfb P g t s = some r) : Qfb P g' t s = some r := by
 unfold Qfb at h ⊢
 split at h <;> try (cases h; done)
 split at h <;> try (cases h; done)
 . exact h
 . split at h
   . rename_i e; rw [if_pos e]; exact h
   rename_i e; rw [if_neg e]
   split at h <;> try (cases h; done)
   rename_i he
   rw [hg _ _ _ he]; exact h
theorem Qzr (hg : GLe g g') {t : TypeId} {x l h : V} {r : V × List (Nat × Nat × O)} (e : Qpo P g t x l h = some r) : Qpo P g' t x l h = some r := by
 unfold Qpo at e ⊢
 split at e <;> try (cases e; done)
 split at e <;> try (cases e; done)
 rename_i h1 h2
 rw [h1, hg _ _ _ h2]
 exact e
theorem Q09 {t : TypeId} {x l h v : V} {ws : List (Nat × Nat × O)} (e : Qpo P g t x l h = some (v, ws)) : ws = [] := by
 unfold Qpo at e
 (repeat' split at e) <;> cases e
 rfl
theorem Qj8 (hg : GLe g g') {nm : Nat} (hd : g' 0 nm = g 0 nm) {ρ : Operand -> V} {o : Op} {r : V × List (Nat × Nat × O)} (h : Jr P g ρ nm o = some r) : Jr P g' ρ nm o = some r := by
 unfold Jr at h ⊢
 split at h <;> try (cases h; done)
 . exact Qzr hg h
 split at h <;> try (cases h; done)
 . exact Qxt hg hd h
 . exact Qt9 hg h
theorem Qwm {nm : Nat} {ρ : Operand -> V} {o : Op} {v : V} {ws : List (Nat × Nat × O)} (h : Jr P g ρ nm o = some (v, ws)) : ∀ x ∈ ws, (∃ y, g x.1 x.2.1 = some y) \/ (x.1 = 0 /\ x.2.1 = nm) := by
 unfold Jr at h
 split at h <;> try (cases h; done)
 . rw [Q09 h]; intro x hx; cases hx
 split at h <;> try (cases h; done)
 . unfold Qf2 at h
   (repeat' split at h) <;> cases h
   rename_i h2 h3 h4 _
   intro x hx
   simp only [Zke, List.not_mem_nil, or_false] at hx
   rcases hx with rfl | rfl
   . exact .inl ⟨_, h2⟩
   . exact .inr ⟨rfl, rfl⟩
 . unfold Qfb at h
   (repeat' split at h) <;> cases h
   . intro x hx; cases hx
   . intro x hx; cases hx
   . rename_i he _
     intro x hx
     rw [Zkh] at hx
     subst hx
     exact .inl ⟨_, he⟩
end
end Go.AM.BM
end
