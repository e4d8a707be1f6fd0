/- The abstract machine, part 24: what the library's functions without a body come to. -/
import Derived.Test.YtebbgmeomkjibaaAm23
import Derived.Lib.BytesEntry
import Derived.Lib.MakeNoZero
set_option linter.unusedSimpArgs false
set_option linter.unusedVariables false
namespace Go.AM

/-- The bytes of a string, or of a slice of bytes. -/
def bytesV (g : Get) : V → Option (List UInt8)
  | .str s => some s
  | x => match sliceCells g 1 x with
    | some (cs, _) => bytesOf cs
    | none => none

abbrev Prim := Nat → Option Nat → Get → List V → Option (V × Option (Nat × Nat × O))

/-- bytealg.Count, CountString. -/
def primCount : Prim := fun _ _ g as => match as with
  | [x, .int .u8 c] => (match bytesV g x with
    | some l => some (.int .i64 (Lib.countByte l c.toNat.toUInt8 : Nat), none)
    | none => none)
  | _ => none

/-- bytealg.IndexByte, IndexByteString. -/
def primIndexByte : Prim := fun _ _ g as => match as with
  | [x, .int .u8 c] => (match bytesV g x with
    | some l => some (.int .i64 (Lib.indexByte l c.toNat.toUInt8), none)
    | none => none)
  | _ => none

/-- bytealg.Compare. -/
def primCompare : Prim := fun _ _ g as => match as with
  | [x, y] => (match bytesV g x, bytesV g y with
    | some l, some r => some (.int .i64 (Lib.compareBytes l r), none)
    | _, _ => none)
  | _ => none

/-- bytealg.MakeNoZero: cells of which nothing is known. -/
def primMake : Prim := fun fr dst g as => match as, dst with
  | [.int .i64 n], some d => (match g fr d with
    | none => if 0 ≤ n ∧ n ≤ 281474976710656 then some (.mslice fr d 0 n.toNat none 1, some (fr, d, .cells (List.replicate n.toNat .byte))) else none
    | some _ => none)
  | _, _ => none

/-- abi.NoEscape. -/
def primSame : Prim := fun _ _ _ as => match as with
  | [x] => some (x, none)
  | _ => none

section
variable {P : Program} {E : Env} {B : Nat} {F : Nat → Nat → Prop} {H : Heap}

/-- What the program says of a function without a body. -/
structure IsExtern (P : Program) (f : FuncId) (e : Array Value → Sem Value) : Prop where
  at_ : ∃ fn, P.funcs[f]? = some fn ∧ (fn.name == "runtime.NumGoroutine") = false ∧ fn.body.isNone = true ∧ Extern.findNext fn = none ∧ Extern.find fn = some e

theorem IsExtern.run {f : FuncId} {e : Array Value → Sem Value} (h : IsExtern P f e) {args : Array Value} {w w' : World} {v : Value} (hr : (e args).run P w = .ok v w') :
    (callFunc f args).run P w = .ok (.value v) w' := by
  obtain ⟨fn, h1, h2, h3, h4, h5⟩ := h.at_
  rw [run_callFunc_extern h1 h2 h3 h4 h5, hr]; rfl

/-- An extern that leaves the world. -/
theorem IsExtern.plain {f : FuncId} {e : Array Value → Sem Value} (h : IsExtern P f e) (S : Sim B F H E) {cargs : List Value} {v : V} {c : Value} (hr : (e ⟨cargs⟩).run P E.w = .ok c E.w) (hv : Rel E v c) :
    Invokes P f ⟨cargs⟩ E.w (Answer B F H E (.ret v) H) :=
  .inl ⟨c, E.w, h.run hr, E, rfl, ⟨c, rfl, hv⟩, S, Ext.refl _ _ _, Nat.le_refl _⟩

theorem sliceCells_at (S : Sim B F H E) {esz n : Nat} {x : V} {cs : List V} {c : Value} (h : sliceCells (hget H) esz x = some (cs, n)) (hr : Rel E x c) :
    ∃ a cap vs, c = .slice a n cap ∧ RelL E cs vs ∧ vs.length = n * esz ∧ (vs = [] ∨ ∃ b off, a = some ⟨b, off, none⟩ ∧ Lies E.w b off vs) := by
  unfold sliceCells at h
  split at h
  · cases h
    simp only [Rel] at hr
    subst hr
    exact ⟨none, 0, [], rfl, .nil, by simp, .inl rfl⟩
  · split at h
    · rename_i hl
      cases h
      simp only [Rel] at hr
      obtain ⟨a, cap, vs, rfl, h1, _, h3, h4, _⟩ := hr
      refine ⟨some a, cap, vs, rfl, h4, by rw [← h4.length]; exact hl, ?_⟩
      rcases h3 with rfl | ⟨h3, h5⟩
      · exact .inl rfl
      · obtain ⟨b, off, sp⟩ := a
        simp only at h3; subst h3
        exact .inr ⟨b, off, rfl, h5.lies⟩
    · cases h
  · split at h
    · rename_i he
      cases h
      subst he
      simp only [Rel] at hr
      obtain ⟨b, off, cap, vs, rfl, h1, h3, h4, _, h5, _⟩ := hr
      exact ⟨_, cap, vs, rfl, h4, h4.length.symm.trans h5, .inr ⟨b, off, rfl, h3.lies⟩⟩
    · cases h
  · rename_i f s o n' cap e
    split at h
    · rename_i xs hg
      split at h
      · rename_i hh
        obtain ⟨rfl, hle⟩ := hh
        cases h
        simp only [Rel] at hr
        obtain ⟨b, c', T, sz', hmu, rfl, h1, _, _, _⟩ := hr
        obtain ⟨b2, cc, T2, vs, rest, g1, _, _, _, g5, _, _, g8⟩ := S.lies hg
        rw [hmu] at g1; cases g1
        have hvl : ((vs.drop o).take (n * e)).length = n * e := by
          have := g5.length
          simp; omega
        exact ⟨_, c', _, rfl, (g5.drop o).take _, hvl, .inr ⟨b, o, rfl, g8.from o _⟩⟩
      · cases h
    · cases h
  · cases h

/-- Cells that are bytes. -/
theorem bytesOf_rel : ∀ {cs : List V} {l : List UInt8} {vs : List Value}, bytesOf cs = some l → RelL E cs vs → ∃ xs : List Int, vs = xs.map (fun x => .int .u8 x) ∧ Lib.bytesOf xs = l
  | [], l, vs, h, hr => by
    cases h
    rw [RelL.nil_iff] at hr
    subst hr
    exact ⟨[], rfl, rfl⟩
  | c :: cs, l, vs, h, hr => by
    obtain ⟨v, r, rfl, h1, h2⟩ := RelL.cons_iff.1 hr
    unfold bytesOf at h
    split at h
    · rename_i heq; cases heq
    · rename_i n r' heq
      cases heq
      cases hb : bytesOf cs with
      | none => rw [hb] at h; cases h
      | some l' =>
        rw [hb] at h
        cases h
        obtain ⟨xs, rfl, rfl⟩ := bytesOf_rel hb h2
        simp only [Rel] at h1
        subst h1
        exact ⟨n :: xs, rfl, rfl⟩
    · cases h

theorem bytesV_sound (S : Sim B F H E) {x : V} {l : List UInt8} {c : Value} (h : bytesV (hget H) x = some l) (hr : Rel E x c) : ∃ s : ByteArray, s.data.toList = l ∧ (Extern.Bytes.bytesOf c).run P E.w = .ok s E.w := by
  unfold bytesV at h
  split at h
  · cases h
    simp only [Rel] at hr
    subst hr
    exact ⟨_, rfl, rfl⟩
  · split at h
    case h_2 => cases h
    rename_i cs n hs
    obtain ⟨a, cap, vs, rfl, h1, h2, h3⟩ := sliceCells_at S hs hr
    obtain ⟨xs, rfl, rfl⟩ := bytesOf_rel h h1
    simp only [List.length_map, Nat.mul_one] at h2
    subst h2
    cases a with
    | none =>
      refine ⟨.empty, ?_, rfl⟩
      rcases h3 with h3 | ⟨b, off, h3, _⟩
      · simp only [List.map_eq_nil_iff] at h3; subst h3; rfl
      · cases h3
    | some a =>
      have hc : ∀ j x, xs[j]? = some x → E.w.cell? (a.add j) = some (.int .u8 x) := by
        intro j x hj
        rcases h3 with h3 | ⟨b, off, h3, h4⟩
        · simp only [List.map_eq_nil_iff] at h3; subst h3; cases hj
        · cases h3
          have e : (⟨b, off, none⟩ : Addr).add j = ⟨b, off + j, none⟩ := by unfold Addr.add; split <;> simp_all
          rw [e]
          exact h4 j (.int .u8 x) (by simp [hj])
      refine ⟨_, ?_, Lib.run_loadBytesX (P := P) E.w xs a .empty hc⟩
      simp

theorem sound_count {f : FuncId} (hx : IsExtern P f Extern.BytealgCount.count) (S : Sim B F H E) {fr : Nat} {dst : Option Nat} {args : List V} {cargs : List Value} {v : V} {x : Option (Nat × Nat × O)}
    (hr : RelL E args cargs) (h : primCount fr dst (hget H) args = some (v, x)) : Invokes P f ⟨cargs⟩ E.w (Answer B F H E (.ret v) (wr H x)) := by
  unfold primCount at h
  split at h
  case h_2 => cases h
  rename_i y c
  split at h
  case h_2 => cases h
  rename_i l hl
  cases h
  obtain ⟨cy, r1, rfl, h1, h2⟩ := RelL.cons_iff.1 hr
  obtain ⟨cc, r2, rfl, h3, h4⟩ := RelL.cons_iff.1 h2
  rw [RelL.nil_iff] at h4; subst h4
  simp only [Rel] at h3; subst h3
  obtain ⟨s, rfl, hb⟩ := bytesV_sound (P := P) S hl h1
  refine hx.plain S (c := .int .i64 (Lib.countByte s.data.toList c.toNat.toUInt8 : Nat)) ?_ (by simp [Rel])
  rw [← Lib.run_countString (P := P) s c E.w]
  have hdef : ∀ b c, Extern.BytealgCount.count #[b, c] = (do
    let b ← Extern.Bytes.bytesOf b
    let c ← Extern.Bytes.asByte c
    pure (goInt (b.foldl (fun n x => if x == c then n + 1 else n) (0 : Nat)))) := fun _ _ => rfl
  show Sem.run P (Extern.BytealgCount.count #[cy, .int .u8 c]) E.w = _
  rw [hdef, hdef, Sem.run_bind, hb, Sem.run_bind]
  rfl

theorem sound_indexByte {f : FuncId} (hx : IsExtern P f Extern.BytealgIndexByte.indexByte) (S : Sim B F H E) {fr : Nat} {dst : Option Nat} {args : List V} {cargs : List Value} {v : V} {x : Option (Nat × Nat × O)}
    (hr : RelL E args cargs) (h : primIndexByte fr dst (hget H) args = some (v, x)) : Invokes P f ⟨cargs⟩ E.w (Answer B F H E (.ret v) (wr H x)) := by
  unfold primIndexByte at h
  split at h
  case h_2 => cases h
  rename_i y c
  split at h
  case h_2 => cases h
  rename_i l hl
  cases h
  obtain ⟨cy, r1, rfl, h1, h2⟩ := RelL.cons_iff.1 hr
  obtain ⟨cc, r2, rfl, h3, h4⟩ := RelL.cons_iff.1 h2
  rw [RelL.nil_iff] at h4; subst h4
  simp only [Rel] at h3; subst h3
  obtain ⟨s, rfl, hb⟩ := bytesV_sound (P := P) S hl h1
  refine hx.plain S (c := .int .i64 (Lib.indexByte s.data.toList c.toNat.toUInt8)) ?_ (by simp [Rel])
  rw [← Lib.run_indexByteString (P := P) s c E.w]
  have hdef : ∀ b c, Extern.BytealgIndexByte.indexByte #[b, c] = (do
    let b ← Extern.Bytes.bytesOf b
    let c ← Extern.Bytes.asByte c
    match (List.range b.size).find? fun i => b[i]! == c with
    | some i => pure (goInt i)
    | none => pure (goInt (-1))) := fun _ _ => rfl
  show Sem.run P (Extern.BytealgIndexByte.indexByte #[cy, .int .u8 c]) E.w = _
  rw [hdef, hdef, Sem.run_bind, hb, Sem.run_bind]
  rfl

theorem sound_compare {f : FuncId} (hx : IsExtern P f Extern.BytealgCompare.compare) (S : Sim B F H E) {fr : Nat} {dst : Option Nat} {args : List V} {cargs : List Value} {v : V} {x : Option (Nat × Nat × O)}
    (hr : RelL E args cargs) (h : primCompare fr dst (hget H) args = some (v, x)) : Invokes P f ⟨cargs⟩ E.w (Answer B F H E (.ret v) (wr H x)) := by
  unfold primCompare at h
  split at h
  case h_2 => cases h
  rename_i y z
  split at h
  case h_2 => cases h
  rename_i l r hl hr'
  cases h
  obtain ⟨cy, r1, rfl, h1, h2⟩ := RelL.cons_iff.1 hr
  obtain ⟨cz, r2, rfl, h3, h4⟩ := RelL.cons_iff.1 h2
  rw [RelL.nil_iff] at h4; subst h4
  obtain ⟨s, rfl, hb⟩ := bytesV_sound (P := P) S hl h1
  obtain ⟨s', rfl, hb'⟩ := bytesV_sound (P := P) S hr' h3
  refine hx.plain S (c := .int .i64 (Lib.compareBytes s.data.toList s'.data.toList)) ?_ (by simp [Rel])
  rw [← Lib.run_compareString (P := P) s s' E.w]
  have hdef : ∀ a b, Extern.BytealgCompare.compare #[a, b] = (do pure (goInt (Extern.BytealgCompare.cmp (← Extern.Bytes.bytesOf a) (← Extern.Bytes.bytesOf b)))) := fun _ _ => rfl
  show Sem.run P (Extern.BytealgCompare.compare #[cy, cz]) E.w = _
  rw [hdef, hdef, Sem.run_bind, hb, Result.andThen_ok, Sem.run_bind, hb', Sem.run_bind]
  rfl

theorem sound_same {f : FuncId} (hx : IsExtern P f Extern.AbiNoEscape.same) (S : Sim B F H E) {fr : Nat} {dst : Option Nat} {args : List V} {cargs : List Value} {v : V} {x : Option (Nat × Nat × O)}
    (hr : RelL E args cargs) (h : primSame fr dst (hget H) args = some (v, x)) : Invokes P f ⟨cargs⟩ E.w (Answer B F H E (.ret v) (wr H x)) := by
  unfold primSame at h
  split at h
  case h_2 => cases h
  rename_i y
  cases h
  obtain ⟨cy, r1, rfl, h1, h2⟩ := RelL.cons_iff.1 hr
  rw [RelL.nil_iff] at h2; subst h2
  exact hx.plain S (c := cy) rfl h1

theorem digits_bytes : ∀ (n t : Nat) (acc : Array Value), (∀ v ∈ acc.toList, ∃ m, v = .int .u8 m) → ∀ v ∈ (Extern.BytealgMakeNoZero.digits n t acc).toList, ∃ m, v = .int .u8 m
  | 0, _, _, h => h
  | n + 1, t, acc, h => by
    rw [Extern.BytealgMakeNoZero.digits]
    refine digits_bytes n _ _ fun v hv => ?_
    rw [Array.toList_push, List.mem_append, List.mem_singleton] at hv
    rcases hv with hv | rfl
    · exact h v hv
    · exact ⟨_, rfl⟩

/-- MakeNoZero: a new row of bytes. -/
theorem run_make {w : World} {ps : Array TypeId} {t e : TypeId} (ht : P.underlying t = some (.slice e)) {n : Nat} (hn : n ≤ 281474976710656) :
    ∃ cs : Array Value, (Extern.BytealgMakeNoZero.makeNoZero ps #[t] #[.int .i64 n]).run P w = .ok (.slice (some ⟨w.heap.size, 0, none⟩) n cs.size) (w.drew.drew.alloc (.cells cs e)) ∧ n ≤ cs.size ∧
      ∀ v ∈ cs.toList, ∃ m, v = .int .u8 m := by
  have hdef : Extern.BytealgMakeNoZero.makeNoZero ps #[t] #[.int .i64 n] =
      (do
        let .slice elem ← underlying t | stuck "bytealg.MakeNoZero: slice type expected"
        if (n : Int) < 0 || (n : Int) > 2 ^ 48 then runtimePanic (.error "makeslice: len out of range")
        let cap ← choose (.appendCap (n : Int).toNat 0 elem)
        askRoom cap
        let bytes ← choose (.extern "internal/bytealg.MakeNoZero.bytes" 0)
        let a ← newRow elem (Extern.BytealgMakeNoZero.digits cap bytes #[])
        pure (.slice (some a) (n : Int).toNat cap)) := rfl
  refine ⟨Extern.BytealgMakeNoZero.digits (grownCap w n 0 e) ((Question.extern "internal/bytealg.MakeNoZero.bytes" 0).cut (w.tape (w.drawn + 1) (.extern "internal/bytealg.MakeNoZero.bytes" 0))) #[], ?_, ?_, ?_⟩
  · rw [hdef]
    have h1 : ¬ (n : Int) < 0 := by omega
    have h2 : ¬ (281474976710656 : Int) < (n : Int) := by omega
    simp [run_underlying ht, h1, h2, Question.forced, newRow, Lib.size_digits, grownCap]
  · rw [Lib.size_digits]
    simpa using grownCap_ge w n 0 e
  · exact digits_bytes _ _ _ (by simp)

theorem sound_make {f : FuncId} {ps : Array TypeId} {t e : TypeId} (hx : IsExtern P f (Extern.BytealgMakeNoZero.makeNoZero ps #[t])) (ht : P.underlying t = some (.slice e)) (S : Sim B F H E) {fr : Nat} (hlt : fr < H.length) {dst : Option Nat}
    {args : List V} {cargs : List Value} {v : V} {x : Option (Nat × Nat × O)}
    (hr : RelL E args cargs) (h : primMake fr dst (hget H) args = some (v, x)) : Invokes P f ⟨cargs⟩ E.w (Answer B F H E (.ret v) (wr H x)) := by
  unfold primMake at h
  split at h
  case h_2 => cases h
  rename_i n d
  split at h
  case h_2 => cases h
  rename_i hn
  split at h
  case isFalse => cases h
  rename_i hle
  cases h
  obtain ⟨cy, r1, rfl, h1, h2⟩ := RelL.cons_iff.1 hr
  rw [RelL.nil_iff] at h2; subst h2
  simp only [Rel] at h1; subst h1
  obtain ⟨k, rfl⟩ := Int.eq_ofNat_of_zero_le hle.1
  have hk : k ≤ 281474976710656 := by have := hle.2; omega
  obtain ⟨cs, hrun, hcs, hbytes⟩ := run_make (P := P) (w := E.w) (ps := ps) ht hk
  have hlen : cs.toList = cs.toList.take k ++ cs.toList.drop k := (List.take_append_drop _ _).symm
  obtain ⟨X, S'⟩ := S.newCells hlt hn (List.replicate k .byte) (cs.toList.take k) (cs.toList.drop k) e (E.w.drawn + 1 + 1) (by
    have hl : (cs.toList.take k).length = k := by simp; omega
    have : ∀ (l : List Value), (∀ v ∈ l, ∃ n, v = .int .u8 n) → RelL E (List.replicate l.length .byte) l := by
      intro l
      induction l with
      | nil => intro _; exact .nil
      | cons a l ih => intro hl; exact .cons (by simp only [Rel]; exact hl a (by simp)) (ih fun v hv => hl v (by simp [hv]))
    have := this (cs.toList.take k) (fun v hv => hbytes v (List.mem_of_mem_take hv))
    rwa [hl] at this) (by simp [V.scalar])
  refine .inl ⟨_, _, hx.run hrun, E.newCells fr d (cs.toList.take k ++ cs.toList.drop k) e (E.w.drawn + 1 + 1), ?_, ⟨_, rfl, ?_⟩, S', X, by rw [wr_length]; exact Nat.le_refl _⟩
  · rw [← hlen]; rfl
  · have hsh : ((E.newCells fr d (cs.toList.take k ++ cs.toList.drop k) e (E.w.drawn + 1 + 1)).w.heap)[E.w.heap.size]? = some (.cells ⟨cs.toList.take k ++ cs.toList.drop k⟩ e (0, 0)) := by
      simp [Env.newCells, Env.push]
    simp only [Rel]
    refine ⟨E.w.heap.size, cs.size, e, cs.size, by simp [Env.newCells, upd], rfl, hcs, (fun k h => by cases h), ?_, (by omega), (fun _ => by omega)⟩
    simp only [World.shape?, hsh]
    rw [← hlen]

end
end Go.AM
