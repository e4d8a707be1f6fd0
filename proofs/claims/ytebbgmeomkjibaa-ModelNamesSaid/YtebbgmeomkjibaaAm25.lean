/- The abstract machine, part 25: what the rows say of arguments, as abstract values; and what the machine answers, as the rows want it. -/
import Derived.Test.YtebbgmeomkjibaaAm24
import Derived.ProofKit
import Derived.OpenShut
set_option linter.unusedSimpArgs false
set_option linter.unusedVariables false
namespace Go.AM

def ReadsAll (R : TypeId → List V → Prop) : List TypeId → List V → Prop
  | [], xs => xs = []
  | t :: ts, xs => ∃ y r, R t y ∧ ReadsAll R ts r ∧ xs = y ++ r

/-- Cells that read as a type's. -/
def Reads (P : Program) : Nat → TypeId → List V → Prop
  | 0, _, _ => False
  | n + 1, t, xs => match P.underlying t with
    | some .bool => ∃ b, xs = [.bool b]
    | some (.int k) => ∃ m, xs = [.int k m] ∧ (Lit.int k m).wf = true
    | some .string => ∃ s : List UInt8, xs = [.str s] ∧ s.length ≤ maxLen
    | some (.slice e) => xs = [.nilslice] ∨ ∃ ys : List (List V), xs = [.islice ys.flatten ys.length false] ∧ ys.length ≤ maxLen ∧ ∀ y ∈ ys, Reads P n e y
    | some (.struct fs) => ReadsAll (Reads P n) (fs.toList.map (·.type)) xs
    | some (.array k e) => ReadsAll (Reads P n) (List.replicate k e) xs
    | _ => False

def tiledFrom (P : Program) : Nat → List Field → Nat → Bool
  | o, [], n => o == n
  | o, f :: r, n => f.offset == o && tiledFrom P (o + P.cellsOf f.type) r n

/-- The types of the book are of these kinds, and laid out without gaps. -/
def bookOk (P : Program) (book : List TypeId) : Bool :=
  book.all fun t => match P.underlying t with
    | some .bool | some (.int _) | some .string => true
    | some (.slice e) => book.contains e
    | some (.struct fs) => tiledFrom P 0 fs.toList (P.cellsOf t) && fs.toList.all fun f => book.contains f.type
    | some (.array k e) => P.cellsOf t == k * P.cellsOf e && book.contains e
    | _ => false

abbrev open_ (W : World) : Env := bare W fun _ _ => False

theorem add_off (a : Addr) (m : Nat) : (a.add m).off = a.off + m := by unfold Addr.add; split <;> simp_all
theorem add_add (a : Addr) (m j : Nat) : (a.add m).add j = a.add (m + j) := by
  unfold Addr.add
  by_cases hj : j = 0
  · subst hj; simp
  · by_cases hm : m = 0
    · subst hm; simp [hj]
    · have : m + j ≠ 0 := by omega
      simp [hj, hm, Nat.add_assoc]

section
variable {H : Type} {enc : TypeId × Value → H} {P : Program} {W : World} {book : List TypeId}

/-- Cells one behind the other are a row. -/
theorem rowAt_of {a : Addr} {vs : List Value} (h : ∀ i v, vs[i]? = some v → W.cell? (a.add i) = some v) : RowAt (open_ W) a vs := by
  cases vs with
  | nil => exact .inl rfl
  | cons v r =>
    right
    have h0 := h 0 v rfl
    have hs : a.spot = none := by
      have e : a.add 0 = a := by simp [Addr.add]
      rw [e] at h0
      unfold World.cell? at h0
      split at h0
      · cases hs : a.spot with
        | none => rfl
        | some s => simp [hs] at h0
      · cases h0
    refine ⟨hs, fun i v hv => ⟨?_, fun hm => hm⟩⟩
    have := h i v hv
    have e : a.add i = ⟨a.block, a.off + i, none⟩ := by
      obtain ⟨b, o, s⟩ := a
      simp only at hs
      subst hs
      unfold Addr.add
      split <;> simp_all
    rw [e] at this
    exact this

def ReadOk (P : Program) (W : World) (n : Nat) (t : TypeId) (cs : List Value) : Prop := ∃ xs, Reads P n t xs ∧ RelL (open_ W) xs cs ∧ pureL xs = true

theorem readsAll_tiled {n : Nat} {cs : List Value} : ∀ (fs : List Field) (o : Nat), tiledFrom P o fs cs.length = true → (∀ f ∈ fs, ReadOk P W n f.type ((cs.drop f.offset).take (P.cellsOf f.type))) →
    ∃ xs, ReadsAll (Reads P n) (fs.map (·.type)) xs ∧ RelL (open_ W) xs (cs.drop o) ∧ pureL xs = true
  | [], o, ht, _ => by
    simp only [tiledFrom, beq_iff_eq] at ht
    subst ht
    exact ⟨[], rfl, by rw [List.drop_length]; exact .nil, rfl⟩
  | f :: r, o, ht, h => by
    simp only [tiledFrom, Bool.and_eq_true, beq_iff_eq] at ht
    obtain ⟨rfl, ht⟩ := ht
    obtain ⟨y, h1, h2, h3⟩ := h f (by simp)
    obtain ⟨xs, g1, g2, g3⟩ := readsAll_tiled r _ ht (fun g hg => h g (by simp [hg]))
    refine ⟨y ++ xs, ⟨y, xs, h1, g1, rfl⟩, ?_, pureL_append h3 g3⟩
    have e : cs.drop f.offset = (cs.drop f.offset).take (P.cellsOf f.type) ++ cs.drop (f.offset + P.cellsOf f.type) := by
      rw [← List.drop_drop, List.take_append_drop]
    rw [e]
    exact h2.append g2

theorem readsAll_array {n c : Nat} {e : TypeId} {cs : List Value} : ∀ (k i : Nat), (∀ j, i ≤ j → j < i + k → ReadOk P W n e ((cs.drop (j * c)).take c)) → cs.length = (i + k) * c →
    ∃ xs, ReadsAll (Reads P n) (List.replicate k e) xs ∧ RelL (open_ W) xs (cs.drop (i * c)) ∧ pureL xs = true
  | 0, i, _, hl => by
    refine ⟨[], rfl, ?_, rfl⟩
    rw [List.drop_of_length_le (by rw [hl]; simp)]
    exact .nil
  | k + 1, i, h, hl => by
    obtain ⟨y, h1, h2, h3⟩ := h i (Nat.le_refl _) (by omega)
    obtain ⟨xs, g1, g2, g3⟩ := readsAll_array k (i + 1) (fun j hj hj' => h j (by omega) (by omega)) (by rw [hl]; congr 1; omega)
    refine ⟨y ++ xs, ⟨y, xs, h1, g1, rfl⟩, ?_, pureL_append h3 g3⟩
    have e : cs.drop (i * c) = (cs.drop (i * c)).take c ++ cs.drop ((i + 1) * c) := by
      rw [Nat.succ_mul, ← List.drop_drop, List.take_append_drop]
    rw [e]
    exact h2.append g2

theorem mapM_mem {α β : Type} {f : α → Option β} : ∀ {l : List α} {r : List β}, l.mapM f = some r → ∀ x ∈ l, ∃ y, f x = some y
  | [], _, _, x, hx => by cases hx
  | a :: l, r, h, x, hx => by
    simp only [List.mapM_cons, Option.bind_eq_bind] at h
    cases ha : f a with
    | none => rw [ha] at h; cases h
    | some y =>
      rw [ha] at h
      simp only [Option.bind_some] at h
      cases hl : l.mapM f with
      | none => rw [hl] at h; cases h
      | some ys =>
        rcases List.mem_cons.1 hx with rfl | hx
        · exact ⟨y, ha⟩
        · exact mapM_mem hl x hx

theorem reads_slice {n c : Nat} {e : TypeId} {a : Addr} : ∀ (len : Nat), (∀ i, i < len → ∃ cs, W.cells? 0 (a.add (i * c)) c = some cs ∧ ReadOk P W n e cs) →
    ∃ (ys : List (List V)) (vs : List Value), ys.length = len ∧ (∀ y ∈ ys, Reads P n e y) ∧ RelL (open_ W) ys.flatten vs ∧ pureL ys.flatten = true ∧ vs.length = len * c ∧ ∀ i v, vs[i]? = some v → W.cell? (a.add i) = some v
  | 0, _ => ⟨[], [], rfl, (fun _ h => by cases h), .nil, rfl, by simp, fun i v h => by simp at h⟩
  | len + 1, h => by
    obtain ⟨ys, vs, h1, h2, h3, h4, h5, h6⟩ := reads_slice len (fun i hi => h i (by omega))
    obtain ⟨cs, hc, y, g1, g2, g3⟩ := h len (by omega)
    obtain ⟨_, hl, hcell⟩ := World.cells?_some hc
    refine ⟨ys ++ [y], vs ++ cs, by simp [h1], ?_, ?_, ?_, by rw [List.length_append, h5, hl, Nat.succ_mul], ?_⟩
    · intro z hz
      rcases List.mem_append.1 hz with hz | hz
      · exact h2 z hz
      · rw [List.mem_singleton] at hz; subst hz; exact g1
    · rw [List.flatten_append]; simpa using h3.append g2
    · rw [List.flatten_append]; exact pureL_append h4 (by simpa using g3)
    · intro i v hv
      rcases Nat.lt_or_ge i vs.length with hi | hi
      · exact h6 i v (by rwa [List.getElem?_append_left hi] at hv)
      · rw [List.getElem?_append_right hi] at hv
        have hlt : i - vs.length < cs.length := (List.getElem?_eq_some_iff.1 hv).1
        have := hcell (i - vs.length) (by omega)
        rw [add_add, hv] at this
        have e1 : len * c + (i - vs.length) = i := by omega
        rwa [e1] at this

theorem reads_of_trod (hb : bookOk P book = true) : ∀ (fuel : Nat) (t : TypeId) (cs : List Value) (x : DataW H × List MemPlace), t ∈ book →
    DataW.trod enc P W 0 (fun _ => true) true fuel t cs = some x → ReadOk P W fuel t cs
  | 0, t, cs, x, _, h => by cases h
  | fuel + 1, t, cs, x, ht, h => by
    have ih := fun t cs x => reads_of_trod hb fuel t cs x
    have hbt := List.all_eq_true.1 hb t ht
    unfold ReadOk
    unfold Reads
    cases hu : P.underlying t with
    | none => rw [hu] at hbt; cases hbt
    | some d =>
      rw [hu] at hbt
      cases d with
      | bool =>
        obtain ⟨b, rfl, _⟩ := DataW.trod_bool hu h
        exact ⟨[.bool b], ⟨b, rfl⟩, .cons (by simp [Rel]) .nil, rfl⟩
      | int k =>
        obtain ⟨m, rfl, _, hw⟩ := DataW.trod_int hu h
        exact ⟨[.int k m], ⟨m, rfl, hw⟩, .cons (by simp [Rel]) .nil, rfl⟩
      | string =>
        obtain ⟨s, rfl, _, hs⟩ := DataW.trod_string hu h
        refine ⟨[.str s.data.toList], ⟨s.data.toList, rfl, by rw [← Lib.size_eq]; exact hs⟩, .cons (by simp [Rel]) .nil, rfl⟩
      | slice e =>
        have he : e ∈ book := by simpa using hbt
        rcases DataW.trod_slice hu h with ⟨rfl, _⟩ | ⟨a, len, cap, elems, rest, n, hn, rfl, _, _, hlc, hcm, hel, hread, _⟩
        · exact ⟨[.nilslice], .inl rfl, .cons (by simp [Rel]) .nil, rfl⟩
        · cases hn
          obtain ⟨ys, vs, h1, h2, h3, h4, h5, h6⟩ := reads_slice (P := P) (W := W) (n := fuel) (c := P.cellsOf e) (e := e) (a := a) len (fun i hi => by
            have := hread i hi
            have hx : elems[i]? = some elems[i] := List.getElem?_eq_getElem (by omega)
            rw [hx] at this
            cases hc : W.cells? 0 (a.add (i * P.cellsOf e)) (P.cellsOf e) with
            | none => rw [hc] at this; cases this
            | some cs => rw [hc] at this; exact ⟨cs, rfl, ih e cs _ he this⟩)
          refine ⟨[.islice ys.flatten ys.length false], .inr ⟨ys, rfl, by omega, h2⟩, .cons ?_ .nil, rfl⟩
          simp only [Rel]
          exact ⟨a, cap, vs, by rw [h1], by omega, (fun h => by cases h), rowAt_of h6, h3, h4⟩
      | struct fs =>
        simp only [Bool.and_eq_true, List.all_eq_true] at hbt
        obtain ⟨xs, n, hn, _, hl, hxl, hread⟩ := DataW.trod_struct hu h
        cases hn
        obtain ⟨ys, g1, g2, g3⟩ := readsAll_tiled (P := P) (W := W) (n := fuel) (cs := cs) fs.toList 0 (by rw [hl]; exact hbt.1) (fun f hf => by
          obtain ⟨i, hi⟩ := List.mem_iff_getElem?.1 hf
          have hi' : fs[i]? = some f := by simpa using hi
          have hil : i < fs.size := (Array.getElem?_eq_some_iff.1 hi').1
          have := hread i f hi'
          have hx : xs[i]? = some xs[i] := List.getElem?_eq_getElem (by omega)
          rw [hx] at this
          exact ih _ _ _ (by simpa using hbt.2 f hf) this)
        exact ⟨ys, g1, by simpa using g2, g3⟩
      | array k e =>
        simp only [Bool.and_eq_true, beq_iff_eq] at hbt
        obtain ⟨xs, n, hn, _, hl, hxl, hread⟩ := DataW.trod_array hu h
        cases hn
        obtain ⟨ys, g1, g2, g3⟩ := readsAll_array (P := P) (W := W) (n := fuel) (c := P.cellsOf e) (e := e) (cs := cs) k 0 (fun j _ hj => by
          have := hread j (by omega)
          have hx : xs[j]? = some xs[j] := List.getElem?_eq_getElem (by omega)
          rw [hx] at this
          exact ih _ _ _ (by simpa using hbt.2) this) (by rw [hl, hbt.1]; simp)
        exact ⟨ys, g1, by simpa using g2, g3⟩
      | _ => cases hbt

/-- Arguments. -/
def ArgRead (P : Program) (n : Nat) (t : TypeId) (x : V) : Prop :=
  match P.underlying t with
  | some (.struct _) | some (.array _ _) => ∃ cs, x = .agg cs ∧ Reads P n t cs
  | _ => Reads P n t [x]

def ArgsRead (P : Program) : List TypeId → List V → Prop
  | [], xs => xs = []
  | t :: ts, xs => ∃ n y r, ArgRead P n t y ∧ ArgsRead P ts r ∧ xs = y :: r

theorem args_read (hb : bookOk P book = true) : ∀ {ts : List TypeId} {vs : List Value} {ds : List (DataW H)} {ps : List MemPlace}, (∀ t ∈ ts, t ∈ book) →
    DataW.TrodAll enc P W 0 (fun _ => true) true ts vs ds ps → (∀ (j : Nat) t v, ts[j]? = some t → vs[j]? = some v → ∃ w r base, Value.okWide P w r base t v) →
    ∃ xs, ArgsRead P ts xs ∧ RelL (open_ W) xs vs
  | [], [], [], _, _, _, _ => ⟨[], rfl, .nil⟩
  | [], _ :: _, _, _, _, h, _ => h.elim
  | [], [], _ :: _, _, _, h, _ => h.elim
  | _ :: _, [], _, _, _, h, _ => h.elim
  | _ :: _, _ :: _, [], _, _, h, _ => h.elim
  | t :: ts, v :: vs, d :: ds, ps, ht, h, hok => by
    obtain ⟨p, q, ⟨fuel, h1⟩, h2, _⟩ := h
    obtain ⟨ys, g1, g2, g3⟩ := reads_of_trod hb fuel t _ _ (ht t (by simp)) h1
    obtain ⟨xs, k1, k2⟩ := args_read hb (fun u hu => ht u (by simp [hu])) h2 (fun j u x hu hx => hok (j + 1) u x hu hx)
    obtain ⟨w, r, base, hw⟩ := hok 0 t v rfl rfl
    by_cases hagg : ∃ cs : Array Value, v = .agg cs ∧ (match P.underlying t with | some (.struct _) | some (.array _ _) => True | _ => False)
    · obtain ⟨cs, rfl, hm⟩ := hagg
      refine ⟨.agg ys :: xs, ⟨fuel, _, _, ?_, k1, rfl⟩, .cons ?_ k2⟩
      · unfold ArgRead
        split
        · exact ⟨ys, rfl, g1⟩
        · exact ⟨ys, rfl, g1⟩
        · rename_i q1 q2
          split at hm
          · rename_i fs hh; exact absurd hh (q1 fs)
          · rename_i k e hh; exact absurd hh (q2 k e)
          · exact hm.elim
      · simp only [Rel]
        exact ⟨cs.toList, rfl, g2⟩
    · have hne : ∀ fs, P.underlying t ≠ some (.struct fs) := by
        intro fs hu
        unfold Value.okWide at hw
        rw [hu] at hw
        obtain ⟨cs, rfl, _⟩ := hw
        exact hagg ⟨cs, rfl, by rw [hu]; trivial⟩
      have hne2 : ∀ k e, P.underlying t ≠ some (.array k e) := by
        intro k e hu
        unfold Value.okWide at hw
        rw [hu] at hw
        obtain ⟨cs, rfl, _⟩ := hw
        exact hagg ⟨cs, rfl, by rw [hu]; trivial⟩
      have hv : v.cells.toList = [v] := by
        cases v with
        | agg cs =>
          exfalso
          have hbt := List.all_eq_true.1 hb t (ht t (by simp))
          cases hu : P.underlying t with
          | none => rw [hu] at hbt; cases hbt
          | some d => cases d <;> first
            | (rw [hu] at hbt; cases hbt; done)
            | exact hne _ hu
            | exact hne2 _ _ hu
            | (simp [Value.okWide, hu, Cell.okWide, Cell.ok] at hw; done)
        | _ => rfl
      rw [hv] at g2
      cases ys with
      | nil => exact absurd g2 (by simp [RelL])
      | cons y r =>
        obtain ⟨v', r', e, q1, q2⟩ := RelL.cons_iff.1 g2
        cases e
        cases r with
        | cons z r => exact absurd q2 (by intro h; have := h.length; simp at this)
        | nil =>
          refine ⟨y :: xs, ⟨fuel, _, _, ?_, k1, rfl⟩, .cons q1 k2⟩
          unfold ArgRead
          split
          · rename_i fs hh; exact absurd hh (hne fs)
          · rename_i k e hh; exact absurd hh (hne2 k e)
          · exact g1

end
end Go.AM
