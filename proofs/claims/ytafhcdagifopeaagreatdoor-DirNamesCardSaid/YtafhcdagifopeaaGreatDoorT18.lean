/- This file holds in one the texts An24, An25, An26; each says at its head what it proves. -/
import Derived.Test.YtafhcdagifopeaaGreatDoorT17
import Derived.Lib.BytesEntry
import Derived.Lib.MakeNoZero
import Derived.ProofKit
import Derived.OpenShut
set_option linter.unusedSimpArgs false
set_option linter.unusedVariables false
section
/- The abstract machine, part 24: what the library's functions without a body come to. -/
namespace Go.AM

def bytesV (g : Get) : V → Option (List UInt8)
  | .str s => some s
  | x => match sliceCells g 1 x with
    | some (cs, _) => bytesOf cs
    | none => none

abbrev Prim := Nat → Option Nat → Get → List V → Option (V × Option (Nat × Nat × O))

def primCount : Prim := fun _ _ g as => match as with
  | [x, .int .u8 c] => (match bytesV g x with
    | some l => some (.int .i64 (Lib.countByte l c.toNat.toUInt8 : Nat), none)
    | none => none)
  | _ => none

def primIndexByte : Prim := fun _ _ g as => match as with
  | [x, .int .u8 c] => (match bytesV g x with
    | some l => some (.int .i64 (Lib.indexByte l c.toNat.toUInt8), none)
    | none => none)
  | _ => none

def primCompare : Prim := fun _ _ g as => match as with
  | [x, y] => (match bytesV g x, bytesV g y with
    | some l, some r => some (.int .i64 (Lib.compareBytes l r), none)
    | _, _ => none)
  | _ => none

def primMake : Prim := fun fr dst g as => match as, dst with
  | [.int .i64 n], some d => (match g fr d with
    | none => if 0 ≤ n ∧ n ≤ 281474976710656 then some (.mslice fr d 0 n.toNat none 1, some (fr, d, .cells (List.replicate n.toNat .byte))) else none
    | some _ => none)
  | _, _ => none

section
variable {P : Program} {E : Env} {B : Nat} {F : Nat → Nat → Prop} {H : Heap}

structure IsExtern (P : Program) (f : FuncId) (e : Array Value → Sem Value) : Prop where
  at_ : ∃ fn, P.funcs[f]? = some fn ∧ (fn.name == "runtime.NumGoroutine") = false ∧ fn.body.isNone = true ∧ Extern.findNext fn = none ∧ Extern.find fn = some e

theorem IsExtern.run {f : FuncId} {e : Array Value → Sem Value} (h : IsExtern P f e) {args : Array Value} {w w' : World} {v : Value} (hr : (e args).run P w = .ok v w') :
    (callFunc f args).run P w = .ok (.value v) w' := by
  obtain ⟨fn, h1, h2, h3, h4, h5⟩ := h.at_
  rw [run_callFunc_extern h1 h2 h3 h4 h5, hr]; rfl

theorem IsExtern.plain {f : FuncId} {e : Array Value → Sem Value} (h : IsExtern P f e) (S : Sim B F H E) {cargs : List Value} {v : V} {c : Value} (hr : (e ⟨cargs⟩).run P E.w = .ok c E.w) (hv : Rel E v c) :
    Invokes P f ⟨cargs⟩ E.w (Answer B F H E (.ret v) H) :=
  .inl ⟨c, E.w, h.run hr, E, rfl, ⟨c, rfl, hv⟩, S, Ext.refl _ _ _, Nat.le_refl _⟩

theorem sliceCells_at (S : Sim B F H E) {esz n : Nat} {x : V} {cs : List V} {c : Value} (h : sliceCells (hget H) esz x = some (cs, n)) (hr : Rel E x c) :
    ∃ a cap vs, c = .slice a n cap ∧ RelL E cs vs ∧ vs.length = n * esz ∧ (vs = [] ∨ ∃ b off, a = some ⟨b, off, none⟩ ∧ Lies E.w b off vs) := by
  unfold sliceCells at h
  split at h
  · cases h
    simp only [Rel] at hr
    subst hr
    exact ⟨none, 0, [], rfl, .nil, by simp, .inl rfl⟩
  · split at h
    · rename_i hl
      cases h
      simp only [Rel] at hr
      obtain ⟨a, cap, vs, rfl, h1, _, h3, h4, _⟩ := hr
      refine ⟨some a, cap, vs, rfl, h4, by rw [← h4.length]; exact hl, ?_⟩
      rcases h3 with rfl | ⟨h3, h5⟩
      · exact .inl rfl
      · obtain ⟨b, off, sp⟩ := a
        simp only at h3; subst h3
        exact .inr ⟨b, off, rfl, h5.lies⟩
    · cases h
  · split at h
    · rename_i he
      cases h
      subst he
      simp only [Rel] at hr
      obtain ⟨b, off, cap, vs, rfl, h1, h3, h4, h5, _⟩ := hr
      exact ⟨_, cap, vs, rfl, h4, h4.length.symm.trans h5, .inr ⟨b, off, rfl, h3.lies⟩⟩
    · cases h
  · rename_i f s o n' cap e
    split at h
    · rename_i xs hg
      split at h
      · rename_i hh
        obtain ⟨rfl, hle⟩ := hh
        cases h
        simp only [Rel] at hr
        obtain ⟨b, c', T, sz', hmu, rfl, h1, _, _, _⟩ := hr
        obtain ⟨b2, cc, T2, vs, rest, g1, _, _, _, g5, _, _, g8⟩ := S.lies hg
        rw [hmu] at g1; cases g1
        have hvl : ((vs.drop o).take (n * e)).length = n * e := by
          have := g5.length
          simp; omega
        exact ⟨_, c', _, rfl, (g5.drop o).take _, hvl, .inr ⟨b, o, rfl, g8.from o _⟩⟩
      · cases h
    · cases h
  · cases h

theorem bytesOf_rel : ∀ {cs : List V} {l : List UInt8} {vs : List Value}, bytesOf cs = some l → RelL E cs vs → ∃ xs : List Int, vs = xs.map (fun x => .int .u8 x) ∧ Lib.bytesOf xs = l
  | [], l, vs, h, hr => by
    cases h
    rw [RelL.nil_iff] at hr
    subst hr
    exact ⟨[], rfl, rfl⟩
  | c :: cs, l, vs, h, hr => by
    obtain ⟨v, r, rfl, h1, h2⟩ := RelL.cons_iff.1 hr
    unfold bytesOf at h
    split at h
    · rename_i heq; cases heq
    · rename_i n r' heq
      cases heq
      cases hb : bytesOf cs with
      | none => rw [hb] at h; cases h
      | some l' =>
        rw [hb] at h
        cases h
        obtain ⟨xs, rfl, rfl⟩ := bytesOf_rel hb h2
        simp only [Rel] at h1
        subst h1
        exact ⟨n :: xs, rfl, rfl⟩
    · cases h

theorem bytesV_sound (S : Sim B F H E) {x : V} {l : List UInt8} {c : Value} (h : bytesV (hget H) x = some l) (hr : Rel E x c) : ∃ s : ByteArray, s.data.toList = l ∧ (Extern.Bytes.bytesOf c).run P E.w = .ok s E.w := by
  unfold bytesV at h
  split at h
  · cases h
    simp only [Rel] at hr
    subst hr
    exact ⟨_, rfl, rfl⟩
  · split at h
    case h_2 => cases h
    rename_i cs n hs
    obtain ⟨a, cap, vs, rfl, h1, h2, h3⟩ := sliceCells_at S hs hr
    obtain ⟨xs, rfl, rfl⟩ := bytesOf_rel h h1
    simp only [List.length_map, Nat.mul_one] at h2
    subst h2
    cases a with
    | none =>
      refine ⟨.empty, ?_, rfl⟩
      rcases h3 with h3 | ⟨b, off, h3, _⟩
      · simp only [List.map_eq_nil_iff] at h3; subst h3; rfl
      · cases h3
    | some a =>
      have hc : ∀ j x, xs[j]? = some x → E.w.cell? (a.add j) = some (.int .u8 x) := by
        intro j x hj
        rcases h3 with h3 | ⟨b, off, h3, h4⟩
        · simp only [List.map_eq_nil_iff] at h3; subst h3; cases hj
        · cases h3
          have e : (⟨b, off, none⟩ : Addr).add j = ⟨b, off + j, none⟩ := by unfold Addr.add; split <;> simp_all
          rw [e]
          exact h4 j (.int .u8 x) (by simp [hj])
      refine ⟨_, ?_, Lib.run_loadBytesX (P := P) E.w xs a .empty hc⟩
      simp

theorem sound_count {f : FuncId} (hx : IsExtern P f Extern.BytealgCount.count) (S : Sim B F H E) {fr : Nat} {dst : Option Nat} {args : List V} {cargs : List Value} {v : V} {x : Option (Nat × Nat × O)}
    (hr : RelL E args cargs) (h : primCount fr dst (hget H) args = some (v, x)) : Invokes P f ⟨cargs⟩ E.w (Answer B F H E (.ret v) (wr H x)) := by
  unfold primCount at h
  split at h
  case h_2 => cases h
  rename_i y c
  split at h
  case h_2 => cases h
  rename_i l hl
  cases h
  obtain ⟨cy, r1, rfl, h1, h2⟩ := RelL.cons_iff.1 hr
  obtain ⟨cc, r2, rfl, h3, h4⟩ := RelL.cons_iff.1 h2
  rw [RelL.nil_iff] at h4; subst h4
  simp only [Rel] at h3; subst h3
  obtain ⟨s, rfl, hb⟩ := bytesV_sound (P := P) S hl h1
  refine hx.plain S (c := .int .i64 (Lib.countByte s.data.toList c.toNat.toUInt8 : Nat)) ?_ (by simp [Rel])
  rw [← Lib.run_countString (P := P) s c E.w]
  have hdef : ∀ b c, Extern.BytealgCount.count #[b, c] = (do
    let b ← Extern.Bytes.bytesOf b
    let c ← Extern.Bytes.asByte c
    pure (goInt (b.foldl (fun n x => if x == c then n + 1 else n) (0 : Nat)))) := fun _ _ => rfl
  show Sem.run P (Extern.BytealgCount.count #[cy, .int .u8 c]) E.w = _
  rw [hdef, hdef, Sem.run_bind, hb, Sem.run_bind]
  rfl

theorem sound_indexByte {f : FuncId} (hx : IsExtern P f Extern.BytealgIndexByte.indexByte) (S : Sim B F H E) {fr : Nat} {dst : Option Nat} {args : List V} {cargs : List Value} {v : V} {x : Option (Nat × Nat × O)}
    (hr : RelL E args cargs) (h : primIndexByte fr dst (hget H) args = some (v, x)) : Invokes P f ⟨cargs⟩ E.w (Answer B F H E (.ret v) (wr H x)) := by
  unfold primIndexByte at h
  split at h
  case h_2 => cases h
  rename_i y c
  split at h
  case h_2 => cases h
  rename_i l hl
  cases h
  obtain ⟨cy, r1, rfl, h1, h2⟩ := RelL.cons_iff.1 hr
  obtain ⟨cc, r2, rfl, h3, h4⟩ := RelL.cons_iff.1 h2
  rw [RelL.nil_iff] at h4; subst h4
  simp only [Rel] at h3; subst h3
  obtain ⟨s, rfl, hb⟩ := bytesV_sound (P := P) S hl h1
  refine hx.plain S (c := .int .i64 (Lib.indexByte s.data.toList c.toNat.toUInt8)) ?_ (by simp [Rel])
  rw [← Lib.run_indexByteString (P := P) s c E.w]
  have hdef : ∀ b c, Extern.BytealgIndexByte.indexByte #[b, c] = (do
    let b ← Extern.Bytes.bytesOf b
    let c ← Extern.Bytes.asByte c
    match (List.range b.size).find? fun i => b[i]! == c with
    | some i => pure (goInt i)
    | none => pure (goInt (-1))) := fun _ _ => rfl
  show Sem.run P (Extern.BytealgIndexByte.indexByte #[cy, .int .u8 c]) E.w = _
  rw [hdef, hdef, Sem.run_bind, hb, Sem.run_bind]
  rfl

theorem sound_compare {f : FuncId} (hx : IsExtern P f Extern.BytealgCompare.compare) (S : Sim B F H E) {fr : Nat} {dst : Option Nat} {args : List V} {cargs : List Value} {v : V} {x : Option (Nat × Nat × O)}
    (hr : RelL E args cargs) (h : primCompare fr dst (hget H) args = some (v, x)) : Invokes P f ⟨cargs⟩ E.w (Answer B F H E (.ret v) (wr H x)) := by
  unfold primCompare at h
  split at h
  case h_2 => cases h
  rename_i y z
  split at h
  case h_2 => cases h
  rename_i l r hl hr'
  cases h
  obtain ⟨cy, r1, rfl, h1, h2⟩ := RelL.cons_iff.1 hr
  obtain ⟨cz, r2, rfl, h3, h4⟩ := RelL.cons_iff.1 h2
  rw [RelL.nil_iff] at h4; subst h4
  obtain ⟨s, rfl, hb⟩ := bytesV_sound (P := P) S hl h1
  obtain ⟨s', rfl, hb'⟩ := bytesV_sound (P := P) S hr' h3
  refine hx.plain S (c := .int .i64 (Lib.compareBytes s.data.toList s'.data.toList)) ?_ (by simp [Rel])
  rw [← Lib.run_compareString (P := P) s s' E.w]
  have hdef : ∀ a b, Extern.BytealgCompare.compare #[a, b] = (do pure (goInt (Extern.BytealgCompare.cmp (← Extern.Bytes.bytesOf a) (← Extern.Bytes.bytesOf b)))) := fun _ _ => rfl
  show Sem.run P (Extern.BytealgCompare.compare #[cy, cz]) E.w = _
  rw [hdef, hdef, Sem.run_bind, hb, Result.andThen_ok, Sem.run_bind, hb', Sem.run_bind]
  rfl

theorem digits_bytes : ∀ (n t : Nat) (acc : Array Value), (∀ v ∈ acc.toList, ∃ m, v = .int .u8 m) → ∀ v ∈ (Extern.BytealgMakeNoZero.digits n t acc).toList, ∃ m, v = .int .u8 m
  | 0, _, _, h => h
  | n + 1, t, acc, h => by
    rw [Extern.BytealgMakeNoZero.digits]
    refine digits_bytes n _ _ fun v hv => ?_
    rw [Array.toList_push, List.mem_append, List.mem_singleton] at hv
    rcases hv with hv | rfl
    · exact h v hv
    · exact ⟨_, rfl⟩

theorem run_make {w : World} {ps : Array TypeId} {t e : TypeId} (ht : P.underlying t = some (.slice e)) {n : Nat} (hn : n ≤ 281474976710656) :
    ∃ cs : Array Value, (Extern.BytealgMakeNoZero.makeNoZero ps #[t] #[.int .i64 n]).run P w = .ok (.slice (some ⟨w.heap.size, 0, none⟩) n cs.size) (w.drew.drew.alloc (.cells cs e)) ∧ n ≤ cs.size ∧
      ∀ v ∈ cs.toList, ∃ m, v = .int .u8 m := by
  have hdef : Extern.BytealgMakeNoZero.makeNoZero ps #[t] #[.int .i64 n] =
      (do
        let .slice elem ← underlying t | stuck "bytealg.MakeNoZero: slice type expected"
        if (n : Int) < 0 || (n : Int) > 2 ^ 48 then runtimePanic (.error "makeslice: len out of range")
        let cap ← choose (.appendCap (n : Int).toNat 0 elem)
        askRoom cap
        let bytes ← choose (.extern "internal/bytealg.MakeNoZero.bytes" 0)
        let a ← newRow elem (Extern.BytealgMakeNoZero.digits cap bytes #[])
        pure (.slice (some a) (n : Int).toNat cap)) := rfl
  refine ⟨Extern.BytealgMakeNoZero.digits (grownCap w n 0 e) ((Question.extern "internal/bytealg.MakeNoZero.bytes" 0).cut (w.tape (w.drawn + 1) (.extern "internal/bytealg.MakeNoZero.bytes" 0))) #[], ?_, ?_, ?_⟩
  · rw [hdef]
    have h1 : ¬ (n : Int) < 0 := by omega
    have h2 : ¬ (281474976710656 : Int) < (n : Int) := by omega
    simp [run_underlying ht, h1, h2, Question.forced, newRow, Lib.size_digits, grownCap]
  · rw [Lib.size_digits]
    simpa using grownCap_ge w n 0 e
  · exact digits_bytes _ _ _ (by simp)

theorem sound_make {f : FuncId} {ps : Array TypeId} {t e : TypeId} (hx : IsExtern P f (Extern.BytealgMakeNoZero.makeNoZero ps #[t])) (ht : P.underlying t = some (.slice e)) (S : Sim B F H E) {fr : Nat} (hlt : fr < H.length) {dst : Option Nat}
    {args : List V} {cargs : List Value} {v : V} {x : Option (Nat × Nat × O)}
    (hr : RelL E args cargs) (h : primMake fr dst (hget H) args = some (v, x)) : Invokes P f ⟨cargs⟩ E.w (Answer B F H E (.ret v) (wr H x)) := by
  unfold primMake at h
  split at h
  case h_2 => cases h
  rename_i n d
  split at h
  case h_2 => cases h
  rename_i hn
  split at h
  case isFalse => cases h
  rename_i hle
  cases h
  obtain ⟨cy, r1, rfl, h1, h2⟩ := RelL.cons_iff.1 hr
  rw [RelL.nil_iff] at h2; subst h2
  simp only [Rel] at h1; subst h1
  obtain ⟨k, rfl⟩ := Int.eq_ofNat_of_zero_le hle.1
  have hk : k ≤ 281474976710656 := by have := hle.2; omega
  obtain ⟨cs, hrun, hcs, hbytes⟩ := run_make (P := P) (w := E.w) (ps := ps) ht hk
  have hlen : cs.toList = cs.toList.take k ++ cs.toList.drop k := (List.take_append_drop _ _).symm
  obtain ⟨X, S'⟩ := S.newCells hlt hn (List.replicate k .byte) (cs.toList.take k) (cs.toList.drop k) e (E.w.drawn + 1 + 1) (by
    have hl : (cs.toList.take k).length = k := by simp; omega
    have : ∀ (l : List Value), (∀ v ∈ l, ∃ n, v = .int .u8 n) → RelL E (List.replicate l.length .byte) l := by
      intro l
      induction l with
      | nil => intro _; exact .nil
      | cons a l ih => intro hl; exact .cons (by simp only [Rel]; exact hl a (by simp)) (ih fun v hv => hl v (by simp [hv]))
    have := this (cs.toList.take k) (fun v hv => hbytes v (List.mem_of_mem_take hv))
    rwa [hl] at this) (by simp [V.scalar])
  refine .inl ⟨_, _, hx.run hrun, E.newCells fr d (cs.toList.take k ++ cs.toList.drop k) e (E.w.drawn + 1 + 1), ?_, ⟨_, rfl, ?_⟩, S', X, by rw [wr_length]; exact Nat.le_refl _⟩
  · rw [← hlen]; rfl
  · have hsh : ((E.newCells fr d (cs.toList.take k ++ cs.toList.drop k) e (E.w.drawn + 1 + 1)).w.heap)[E.w.heap.size]? = some (.cells ⟨cs.toList.take k ++ cs.toList.drop k⟩ e (0, 0)) := by
      simp [Env.newCells, Env.push]
    simp only [Rel]
    refine ⟨E.w.heap.size, cs.size, e, cs.size, by simp [Env.newCells, upd], rfl, hcs, (fun k h => by cases h), ?_, (by omega), (fun _ => by omega)⟩
    simp only [World.shape?, hsh]
    rw [← hlen]

end
end Go.AM
end
section
/- The abstract machine, part 25: what the rows say of arguments, as abstract values; and what the machine answers, as the rows want it. -/
namespace Go.AM

def ReadsAll (R : TypeId → List V → Prop) : List TypeId → List V → Prop
  | [], xs => xs = []
  | t :: ts, xs => ∃ y r, R t y ∧ ReadsAll R ts r ∧ xs = y ++ r

def Reads (P : Program) : Nat → TypeId → List V → Prop
  | 0, _, _ => False
  | n + 1, t, xs => match P.underlying t with
    | some .bool => ∃ b, xs = [.bool b]
    | some (.int k) => ∃ m, xs = [.int k m] ∧ (Lit.int k m).wf = true
    | some .string => ∃ s : List UInt8, xs = [.str s] ∧ s.length ≤ maxLen
    | some (.slice e) => xs = [.nilslice] ∨ ∃ ys : List (List V), xs = [.islice ys.flatten ys.length false] ∧ ys.length ≤ maxLen ∧ ∀ y ∈ ys, Reads P n e y
    | some (.struct fs) => ReadsAll (Reads P n) (fs.toList.map (·.type)) xs
    | some (.array k e) => ReadsAll (Reads P n) (List.replicate k e) xs
    | _ => False

def tiledFrom (P : Program) : Nat → List Field → Nat → Bool
  | o, [], n => o == n
  | o, f :: r, n => f.offset == o && tiledFrom P (o + P.cellsOf f.type) r n

def bookOk (P : Program) (book : List TypeId) : Bool :=
  book.all fun t => match P.underlying t with
    | some .bool | some (.int _) | some .string => true
    | some (.slice e) => book.contains e
    | some (.struct fs) => tiledFrom P 0 fs.toList (P.cellsOf t) && fs.toList.all fun f => book.contains f.type
    | some (.array k e) => P.cellsOf t == k * P.cellsOf e && book.contains e
    | _ => false

abbrev open_ (P : Program) (W : World) : Env := bare (loopAt P) W fun _ _ => False

theorem add_add (a : Addr) (m j : Nat) : (a.add m).add j = a.add (m + j) := by
  unfold Addr.add
  by_cases hj : j = 0
  · subst hj; simp
  · by_cases hm : m = 0
    · subst hm; simp [hj]
    · have : m + j ≠ 0 := by omega
      simp [hj, hm, Nat.add_assoc]

section
variable {H : Type} {enc : TypeId × Value → H} {P : Program} {W : World} {book : List TypeId}

theorem rowAt_of {a : Addr} {vs : List Value} (h : ∀ i v, vs[i]? = some v → W.cell? (a.add i) = some v) : RowAt (open_ P W) a vs := by
  cases vs with
  | nil => exact .inl rfl
  | cons v r =>
    right
    have h0 := h 0 v rfl
    have hs : a.spot = none := by
      have e : a.add 0 = a := by simp [Addr.add]
      rw [e] at h0
      unfold World.cell? at h0
      split at h0
      · cases hs : a.spot with
        | none => rfl
        | some s => simp [hs] at h0
      · cases h0
    refine ⟨hs, fun i v hv => ⟨?_, fun hm => hm⟩⟩
    have := h i v hv
    have e : a.add i = ⟨a.block, a.off + i, none⟩ := by
      obtain ⟨b, o, s⟩ := a
      simp only at hs
      subst hs
      unfold Addr.add
      split <;> simp_all
    rw [e] at this
    exact this

def ReadOk (P : Program) (W : World) (n : Nat) (t : TypeId) (cs : List Value) : Prop := ∃ xs, Reads P n t xs ∧ RelL (open_ P W) xs cs ∧ pureL xs = true

theorem readsAll_tiled {n : Nat} {cs : List Value} : ∀ (fs : List Field) (o : Nat), tiledFrom P o fs cs.length = true → (∀ f ∈ fs, ReadOk P W n f.type ((cs.drop f.offset).take (P.cellsOf f.type))) →
    ∃ xs, ReadsAll (Reads P n) (fs.map (·.type)) xs ∧ RelL (open_ P W) xs (cs.drop o) ∧ pureL xs = true
  | [], o, ht, _ => by
    simp only [tiledFrom, beq_iff_eq] at ht
    subst ht
    exact ⟨[], rfl, by rw [List.drop_length]; exact .nil, rfl⟩
  | f :: r, o, ht, h => by
    simp only [tiledFrom, Bool.and_eq_true, beq_iff_eq] at ht
    obtain ⟨rfl, ht⟩ := ht
    obtain ⟨y, h1, h2, h3⟩ := h f (by simp)
    obtain ⟨xs, g1, g2, g3⟩ := readsAll_tiled r _ ht (fun g hg => h g (by simp [hg]))
    refine ⟨y ++ xs, ⟨y, xs, h1, g1, rfl⟩, ?_, pureL_append h3 g3⟩
    have e : cs.drop f.offset = (cs.drop f.offset).take (P.cellsOf f.type) ++ cs.drop (f.offset + P.cellsOf f.type) := by
      rw [← List.drop_drop, List.take_append_drop]
    rw [e]
    exact h2.append g2

theorem readsAll_array {n c : Nat} {e : TypeId} {cs : List Value} : ∀ (k i : Nat), (∀ j, i ≤ j → j < i + k → ReadOk P W n e ((cs.drop (j * c)).take c)) → cs.length = (i + k) * c →
    ∃ xs, ReadsAll (Reads P n) (List.replicate k e) xs ∧ RelL (open_ P W) xs (cs.drop (i * c)) ∧ pureL xs = true
  | 0, i, _, hl => by
    refine ⟨[], rfl, ?_, rfl⟩
    rw [List.drop_of_length_le (by rw [hl]; simp)]
    exact .nil
  | k + 1, i, h, hl => by
    obtain ⟨y, h1, h2, h3⟩ := h i (Nat.le_refl _) (by omega)
    obtain ⟨xs, g1, g2, g3⟩ := readsAll_array k (i + 1) (fun j hj hj' => h j (by omega) (by omega)) (by rw [hl]; congr 1; omega)
    refine ⟨y ++ xs, ⟨y, xs, h1, g1, rfl⟩, ?_, pureL_append h3 g3⟩
    have e : cs.drop (i * c) = (cs.drop (i * c)).take c ++ cs.drop ((i + 1) * c) := by
      rw [Nat.succ_mul, ← List.drop_drop, List.take_append_drop]
    rw [e]
    exact h2.append g2

theorem reads_slice {n c : Nat} {e : TypeId} {a : Addr} : ∀ (len : Nat), (∀ i, i < len → ∃ cs, W.cells? 0 (a.add (i * c)) c = some cs ∧ ReadOk P W n e cs) →
    ∃ (ys : List (List V)) (vs : List Value), ys.length = len ∧ (∀ y ∈ ys, Reads P n e y) ∧ RelL (open_ P W) ys.flatten vs ∧ pureL ys.flatten = true ∧ vs.length = len * c ∧ ∀ i v, vs[i]? = some v → W.cell? (a.add i) = some v
  | 0, _ => ⟨[], [], rfl, (fun _ h => by cases h), .nil, rfl, by simp, fun i v h => by simp at h⟩
  | len + 1, h => by
    obtain ⟨ys, vs, h1, h2, h3, h4, h5, h6⟩ := reads_slice len (fun i hi => h i (by omega))
    obtain ⟨cs, hc, y, g1, g2, g3⟩ := h len (by omega)
    obtain ⟨_, hl, hcell⟩ := World.cells?_some hc
    refine ⟨ys ++ [y], vs ++ cs, by simp [h1], ?_, ?_, ?_, by rw [List.length_append, h5, hl, Nat.succ_mul], ?_⟩
    · intro z hz
      rcases List.mem_append.1 hz with hz | hz
      · exact h2 z hz
      · rw [List.mem_singleton] at hz; subst hz; exact g1
    · rw [List.flatten_append]; simpa using h3.append g2
    · rw [List.flatten_append]; exact pureL_append h4 (by simpa using g3)
    · intro i v hv
      rcases Nat.lt_or_ge i vs.length with hi | hi
      · exact h6 i v (by rwa [List.getElem?_append_left hi] at hv)
      · rw [List.getElem?_append_right hi] at hv
        have hlt : i - vs.length < cs.length := (List.getElem?_eq_some_iff.1 hv).1
        have := hcell (i - vs.length) (by omega)
        rw [add_add, hv] at this
        have e1 : len * c + (i - vs.length) = i := by omega
        rwa [e1] at this

theorem reads_of_trod (hb : bookOk P book = true) : ∀ (fuel : Nat) (t : TypeId) (cs : List Value) (x : DataW H × List MemPlace), t ∈ book →
    DataW.trod enc P W 0 (fun _ => true) true fuel t cs = some x → ReadOk P W fuel t cs
  | 0, t, cs, x, _, h => by cases h
  | fuel + 1, t, cs, x, ht, h => by
    have ih := fun t cs x => reads_of_trod hb fuel t cs x
    have hbt := List.all_eq_true.1 hb t ht
    unfold ReadOk
    unfold Reads
    cases hu : P.underlying t with
    | none => rw [hu] at hbt; cases hbt
    | some d =>
      rw [hu] at hbt
      cases d with
      | bool =>
        obtain ⟨b, rfl, _⟩ := DataW.trod_bool hu h
        exact ⟨[.bool b], ⟨b, rfl⟩, .cons (by simp [Rel]) .nil, rfl⟩
      | int k =>
        obtain ⟨m, rfl, _, hw⟩ := DataW.trod_int hu h
        exact ⟨[.int k m], ⟨m, rfl, hw⟩, .cons (by simp [Rel]) .nil, rfl⟩
      | string =>
        obtain ⟨s, rfl, _, hs⟩ := DataW.trod_string hu h
        refine ⟨[.str s.data.toList], ⟨s.data.toList, rfl, by rw [← Lib.size_eq]; exact hs⟩, .cons (by simp [Rel]) .nil, rfl⟩
      | slice e =>
        have he : e ∈ book := by simpa using hbt
        rcases DataW.trod_slice hu h with ⟨rfl, _⟩ | ⟨a, len, cap, elems, rest, n, hn, rfl, _, _, hlc, hcm, hel, hread, _⟩
        · exact ⟨[.nilslice], .inl rfl, .cons (by simp [Rel]) .nil, rfl⟩
        · cases hn
          obtain ⟨ys, vs, h1, h2, h3, h4, h5, h6⟩ := reads_slice (P := P) (W := W) (n := fuel) (c := P.cellsOf e) (e := e) (a := a) len (fun i hi => by
            have := hread i hi
            have hx : elems[i]? = some elems[i] := List.getElem?_eq_getElem (by omega)
            rw [hx] at this
            cases hc : W.cells? 0 (a.add (i * P.cellsOf e)) (P.cellsOf e) with
            | none => rw [hc] at this; cases this
            | some cs => rw [hc] at this; exact ⟨cs, rfl, ih e cs _ he this⟩)
          refine ⟨[.islice ys.flatten ys.length false], .inr ⟨ys, rfl, by omega, h2⟩, .cons ?_ .nil, rfl⟩
          simp only [Rel]
          exact ⟨a, cap, vs, by rw [h1], by omega, (fun h => by cases h), rowAt_of h6, h3, h4⟩
      | struct fs =>
        simp only [Bool.and_eq_true, List.all_eq_true] at hbt
        obtain ⟨xs, n, hn, _, hl, hxl, hread⟩ := DataW.trod_struct hu h
        cases hn
        obtain ⟨ys, g1, g2, g3⟩ := readsAll_tiled (P := P) (W := W) (n := fuel) (cs := cs) fs.toList 0 (by rw [hl]; exact hbt.1) (fun f hf => by
          obtain ⟨i, hi⟩ := List.mem_iff_getElem?.1 hf
          have hi' : fs[i]? = some f := by simpa using hi
          have hil : i < fs.size := (Array.getElem?_eq_some_iff.1 hi').1
          have := hread i f hi'
          have hx : xs[i]? = some xs[i] := List.getElem?_eq_getElem (by omega)
          rw [hx] at this
          exact ih _ _ _ (by simpa using hbt.2 f hf) this)
        exact ⟨ys, g1, by simpa using g2, g3⟩
      | array k e =>
        simp only [Bool.and_eq_true, beq_iff_eq] at hbt
        obtain ⟨xs, n, hn, _, hl, hxl, hread⟩ := DataW.trod_array hu h
        cases hn
        obtain ⟨ys, g1, g2, g3⟩ := readsAll_array (P := P) (W := W) (n := fuel) (c := P.cellsOf e) (e := e) (cs := cs) k 0 (fun j _ hj => by
          have := hread j (by omega)
          have hx : xs[j]? = some xs[j] := List.getElem?_eq_getElem (by omega)
          rw [hx] at this
          exact ih _ _ _ (by simpa using hbt.2) this) (by rw [hl, hbt.1]; simp)
        exact ⟨ys, g1, by simpa using g2, g3⟩
      | _ => cases hbt

def ArgRead (P : Program) (n : Nat) (t : TypeId) (x : V) : Prop :=
  match P.underlying t with
  | some (.struct _) | some (.array _ _) => ∃ cs, x = .agg cs ∧ Reads P n t cs
  | _ => Reads P n t [x]

def ArgsRead (P : Program) : List TypeId → List V → Prop
  | [], xs => xs = []
  | t :: ts, xs => ∃ n y r, ArgRead P n t y ∧ ArgsRead P ts r ∧ xs = y :: r

theorem args_read (hb : bookOk P book = true) : ∀ {ts : List TypeId} {vs : List Value} {ds : List (DataW H)} {ps : List MemPlace}, (∀ t ∈ ts, t ∈ book) →
    DataW.TrodAll enc P W 0 (fun _ => true) true ts vs ds ps → (∀ (j : Nat) t v, ts[j]? = some t → vs[j]? = some v → ∃ w r base, Value.okWide P w r base t v) →
    ∃ xs, ArgsRead P ts xs ∧ RelL (open_ P W) xs vs
  | [], [], [], _, _, _, _ => ⟨[], rfl, .nil⟩
  | [], _ :: _, _, _, _, h, _ => h.elim
  | [], [], _ :: _, _, _, h, _ => h.elim
  | _ :: _, [], _, _, _, h, _ => h.elim
  | _ :: _, _ :: _, [], _, _, h, _ => h.elim
  | t :: ts, v :: vs, d :: ds, ps, ht, h, hok => by
    obtain ⟨p, q, ⟨fuel, h1⟩, h2, _⟩ := h
    obtain ⟨ys, g1, g2, g3⟩ := reads_of_trod hb fuel t _ _ (ht t (by simp)) h1
    obtain ⟨xs, k1, k2⟩ := args_read hb (fun u hu => ht u (by simp [hu])) h2 (fun j u x hu hx => hok (j + 1) u x hu hx)
    obtain ⟨w, r, base, hw⟩ := hok 0 t v rfl rfl
    by_cases hagg : ∃ cs : Array Value, v = .agg cs ∧ (match P.underlying t with | some (.struct _) | some (.array _ _) => True | _ => False)
    · obtain ⟨cs, rfl, hm⟩ := hagg
      refine ⟨.agg ys :: xs, ⟨fuel, _, _, ?_, k1, rfl⟩, .cons ?_ k2⟩
      · unfold ArgRead
        split
        · exact ⟨ys, rfl, g1⟩
        · exact ⟨ys, rfl, g1⟩
        · rename_i q1 q2
          split at hm
          · rename_i fs hh; exact absurd hh (q1 fs)
          · rename_i k e hh; exact absurd hh (q2 k e)
          · exact hm.elim
      · simp only [Rel]
        exact ⟨cs.toList, rfl, g2⟩
    · have hne : ∀ fs, P.underlying t ≠ some (.struct fs) := by
        intro fs hu
        unfold Value.okWide at hw
        rw [hu] at hw
        obtain ⟨cs, rfl, _⟩ := hw
        exact hagg ⟨cs, rfl, by rw [hu]; trivial⟩
      have hne2 : ∀ k e, P.underlying t ≠ some (.array k e) := by
        intro k e hu
        unfold Value.okWide at hw
        rw [hu] at hw
        obtain ⟨cs, rfl, _⟩ := hw
        exact hagg ⟨cs, rfl, by rw [hu]; trivial⟩
      have hv : v.cells.toList = [v] := by
        cases v with
        | agg cs =>
          exfalso
          have hbt := List.all_eq_true.1 hb t (ht t (by simp))
          cases hu : P.underlying t with
          | none => rw [hu] at hbt; cases hbt
          | some d => cases d <;> first
            | (rw [hu] at hbt; cases hbt; done)
            | exact hne _ hu
            | exact hne2 _ _ hu
            | (simp [Value.okWide, hu, Cell.okWide, Cell.ok] at hw; done)
        | _ => rfl
      rw [hv] at g2
      cases ys with
      | nil => exact absurd g2 (by simp [RelL])
      | cons y r =>
        obtain ⟨v', r', e, q1, q2⟩ := RelL.cons_iff.1 g2
        cases e
        cases r with
        | cons z r => exact absurd q2 (by intro h; have := h.length; simp at this)
        | nil =>
          refine ⟨y :: xs, ⟨fuel, _, _, ?_, k1, rfl⟩, .cons q1 k2⟩
          unfold ArgRead
          split
          · rename_i fs hh; exact absurd hh (hne fs)
          · rename_i k e hh; exact absurd hh (hne2 k e)
          · exact g1

end
end Go.AM
end
section
/- The abstract machine, part 26: a law that the machine answers with true is a row that holds. -/
namespace Go.AM

section
variable {P : Program} {pol : Pol}

theorem Sim.start (W : World) : Sim W.heap.size (fun _ _ => False) [] (open_ P W) where
  dom := fun f s => rfl
  bsz := Nat.le_refl _
  fb := fun _ _ h => h.elim
  fmod := fun _ _ h => h
  modsz := fun _ _ h => h.elim
  obj := fun f s o h => by simp [hget] at h
  nreg := fun f s n x h => by cases h
  inj := fun f s o _ _ _ _ h => by simp [hget] at h

theorem calls_of_callW (ok : Okay P pol) {f : FuncId} {xs : List V} {args : Array Value} {W : World} {b : Bool} {H' : Heap} (h : callW P pol f xs [] = some (.ret (.bool b), H'))
    (hr : RelL (open_ P W) xs args.toList) : Calls P f args W fun e W' => e = .returned (.bool b) ∧ RowKit.Below W.heap.size W W' := by
  have := ((callW_sound ok).1 f xs [] _ H' h).2 W.heap.size (fun _ _ => False) (open_ P W) args.toList (Sim.start W) rfl hr
  refine this.mono ?_
  rintro e w' ⟨E', rfl, ⟨c, rfl, hc⟩, S', X, _⟩
  simp only [Rel] at hc
  subst hc
  exact ⟨rfl, X.rest.2.1, X.rest.1, X.rest.2.2, X.size, X.old⟩

theorem below_trodAll {H : Type} {enc : TypeId × Value → H} (hl : laidOutB P = true) {W W' : World} (hb : RowKit.Below W.heap.size W W') : ∀ {ts : List TypeId} {vs : List Value} {ds : List (DataW H)} {ps : List MemPlace},
    (∀ t ∈ ts, P.readableRec t = true ∧ t < P.types.size) → DataW.TrodAll enc P W 0 (fun _ => true) true ts vs ds ps → (∀ x ∈ ps, x.block < W.heap.size) → DataW.TrodAll enc P W' 0 (fun b => decide (b < W.heap.size)) true ts vs ds ps
  | [], [], [], _, _, h, _ => h
  | [], _ :: _, _, _, _, h, _ => h.elim
  | [], [], _ :: _, _, _, h, _ => h.elim
  | _ :: _, [], _, _, _, h, _ => h.elim
  | _ :: _, _ :: _, [], _, _, h, _ => h.elim
  | t :: ts, v :: vs, d :: ds, ps, ht, h, hlt => by
    obtain ⟨p, q, h1, h2, rfl⟩ := h
    exact ⟨p, q, RowKit.Below.trod hl (ht t (by simp)).1 (ht t (by simp)).2 h1 hb (fun x hx => hlt x (by simp [hx])), below_trodAll hl hb (fun u hu => ht u (by simp [hu])) h2 (fun x hx => hlt x (by simp [hx])), rfl⟩

theorem trodAll_length {H : Type} {enc : TypeId × Value → H} {W : World} {base : Nat} {sp : Nat → Bool} {hd : Bool} : ∀ {ts : List TypeId} {vs : List Value} {ds : List (DataW H)} {ps : List MemPlace},
    DataW.TrodAll enc P W base sp hd ts vs ds ps → ds.length = ts.length
  | [], [], [], _, _ => rfl
  | [], _ :: _, _, _, h => h.elim
  | [], [], _ :: _, _, h => h.elim
  | _ :: _, [], _, _, h => h.elim
  | _ :: _, _ :: _, [], _, h => h.elim
  | t :: ts, v :: vs, d :: ds, ps, h => by
    obtain ⟨p, q, h1, h2, rfl⟩ := h
    simp [trodAll_length h2]

theorem law_contract {H : Type} {enc : TypeId × Value → H} (ok : Okay P pol) (hl : laidOutB P = true) {f : FuncId} {fn : Func} {ts book : List TypeId} {tb : TypeId} (hts : fn.params.toList = ts) (hrt : fn.resultTypes.toList = [tb])
    (htb : P.underlying tb = some .bool) (hbook : bookOk P book = true) (hin : ts.all (fun t => book.contains t && P.readableRec t && decide (t < P.types.size)) = true)
    {s : ChangeSpec} (hv : s.vars = []) (hs : ∀ ds : List (DataW H), ds.length = ts.length → (s.fn H ds).results = [.lit (.bool true)] ∧ (s.fn H ds).args = ds ∧ (s.fn H ds).vars = [])
    (hlaw : ∀ xs, ArgsRead P ts xs → ∃ H', callW P pol f xs [] = some (.ret (.bool true), H')) {apart fresh handsOn : Bool}
    {W : World} {base : Nat} {args : Array Value} {ds gs : List (DataW H)} {before : List MemPlace}
    (hval : ∀ (j : Nat) t v, fn.params[j]? = some t → args[j]? = some v → Value.okWide P W .any base t v)
    (hW : DataW.Whole enc P fn.params.toList s.vars apart W args.toList ds gs before) :
    Calls P f args W fun e W' => ∃ v, e = .returned v ∧ s.post enc P fn apart fresh handsOn false W args v W' := by
  have hin' : ∀ t ∈ ts, t ∈ book ∧ P.readableRec t = true ∧ t < P.types.size := by
    intro t ht
    have := List.all_eq_true.1 hin t ht
    simp only [Bool.and_eq_true, decide_eq_true_eq] at this
    exact ⟨by simpa using this.1.1, this.1.2, this.2⟩
  have hW' := hW
  have hlt := hW.lt
  obtain ⟨p, q, hA, hV, rfl, hfz, hnd⟩ := hW
  rw [hv] at hV
  have hg : gs = [] ∧ q = [] := by
    cases gs with
    | nil => exact ⟨rfl, hV⟩
    | cons g gs => exact hV.elim
  obtain ⟨rfl, rfl⟩ := hg
  rw [hts] at hA
  obtain ⟨xs, h1, h2⟩ := args_read hbook (fun t ht => (hin' t ht).1) hA (fun j t v ht hv => ⟨W, .any, base, hval j t v (by rw [← Array.getElem?_toList, hts]; exact ht) (by simpa using hv)⟩)
  obtain ⟨H', hc⟩ := hlaw xs h1
  refine (calls_of_callW ok hc h2).mono ?_
  rintro e W' ⟨rfl, hb⟩
  refine ⟨_, rfl, ?_⟩
  obtain ⟨k1, k2, k3⟩ := hs ds (trodAll_length hA)
  refine ⟨ds, [], p ++ [], [], p, [], hW', ?_, ?_, ?_, ?_, fun h => by cases h⟩
  · rw [List.append_nil, k1, hrt]
    have hsz : fn.resultTypes.size = 1 := by rw [← Array.length_toList, hrt]; rfl
    rw [hsz]
    exact ChangeShapes.trodAll_mk1 (RowKit.shut_bool htb true)
  · rw [List.append_nil, k2, hts]
    exact below_trodAll hl hb (fun t ht => (hin' t ht).2) hA (fun x hx => hlt x (by simpa using hx))
  · rw [List.append_nil, k3, hv]
    rfl
  · exact hb.frame _

end
end Go.AM
end
