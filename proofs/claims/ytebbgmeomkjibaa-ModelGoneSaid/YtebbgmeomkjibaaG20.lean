/- This file holds in one the texts Am25, Am26, Am27; each says at its head what it proves. -/
import Derived.Test.YtebbgmeomkjibaaG19
import Derived.ProofKit
import Derived.OpenShut
set_option linter.unusedSimpArgs false
set_option linter.unusedVariables false
section
/- The abstract machine, part 25: what the rows say of arguments, as abstract values; and what the machine answers, as the rows want it. -/
namespace Go.AM

def ReadsAll (R : TypeId → List V → Prop) : List TypeId → List V → Prop
  | [], xs => xs = []
  | t :: ts, xs => ∃ y r, R t y ∧ ReadsAll R ts r ∧ xs = y ++ r

def Reads (P : Program) : Nat → TypeId → List V → Prop
  | 0, _, _ => False
  | n + 1, t, xs => match P.underlying t with
    | some .bool => ∃ b, xs = [.bool b]
    | some (.int k) => ∃ m, xs = [.int k m] ∧ (Lit.int k m).wf = true
    | some .string => ∃ s : List UInt8, xs = [.str s] ∧ s.length ≤ maxLen
    | some (.slice e) => xs = [.nilslice] ∨ ∃ ys : List (List V), xs = [.islice ys.flatten ys.length false] ∧ ys.length ≤ maxLen ∧ ∀ y ∈ ys, Reads P n e y
    | some (.struct fs) => ReadsAll (Reads P n) (fs.toList.map (·.type)) xs
    | some (.array k e) => ReadsAll (Reads P n) (List.replicate k e) xs
    | _ => False

def tiledFrom (P : Program) : Nat → List Field → Nat → Bool
  | o, [], n => o == n
  | o, f :: r, n => f.offset == o && tiledFrom P (o + P.cellsOf f.type) r n

def bookOk (P : Program) (book : List TypeId) : Bool :=
  book.all fun t => match P.underlying t with
    | some .bool | some (.int _) | some .string => true
    | some (.slice e) => book.contains e
    | some (.struct fs) => tiledFrom P 0 fs.toList (P.cellsOf t) && fs.toList.all fun f => book.contains f.type
    | some (.array k e) => P.cellsOf t == k * P.cellsOf e && book.contains e
    | _ => false

abbrev open_ (W : World) : Env := bare W fun _ _ => False

theorem add_add (a : Addr) (m j : Nat) : (a.add m).add j = a.add (m + j) := by
  unfold Addr.add
  by_cases hj : j = 0
  · subst hj; simp
  · by_cases hm : m = 0
    · subst hm; simp [hj]
    · have : m + j ≠ 0 := by omega
      simp [hj, hm, Nat.add_assoc]

section
variable {H : Type} {enc : TypeId × Value → H} {P : Program} {W : World} {book : List TypeId}

theorem rowAt_of {a : Addr} {vs : List Value} (h : ∀ i v, vs[i]? = some v → W.cell? (a.add i) = some v) : RowAt (open_ W) a vs := by
  cases vs with
  | nil => exact .inl rfl
  | cons v r =>
    right
    have h0 := h 0 v rfl
    have hs : a.spot = none := by
      have e : a.add 0 = a := by simp [Addr.add]
      rw [e] at h0
      unfold World.cell? at h0
      split at h0
      · cases hs : a.spot with
        | none => rfl
        | some s => simp [hs] at h0
      · cases h0
    refine ⟨hs, fun i v hv => ⟨?_, fun hm => hm⟩⟩
    have := h i v hv
    have e : a.add i = ⟨a.block, a.off + i, none⟩ := by
      obtain ⟨b, o, s⟩ := a
      simp only at hs
      subst hs
      unfold Addr.add
      split <;> simp_all
    rw [e] at this
    exact this

def ReadOk (P : Program) (W : World) (n : Nat) (t : TypeId) (cs : List Value) : Prop := ∃ xs, Reads P n t xs ∧ RelL (open_ W) xs cs ∧ pureL xs = true

theorem readsAll_tiled {n : Nat} {cs : List Value} : ∀ (fs : List Field) (o : Nat), tiledFrom P o fs cs.length = true → (∀ f ∈ fs, ReadOk P W n f.type ((cs.drop f.offset).take (P.cellsOf f.type))) →
    ∃ xs, ReadsAll (Reads P n) (fs.map (·.type)) xs ∧ RelL (open_ W) xs (cs.drop o) ∧ pureL xs = true
  | [], o, ht, _ => by
    simp only [tiledFrom, beq_iff_eq] at ht
    subst ht
    exact ⟨[], rfl, by rw [List.drop_length]; exact .nil, rfl⟩
  | f :: r, o, ht, h => by
    simp only [tiledFrom, Bool.and_eq_true, beq_iff_eq] at ht
    obtain ⟨rfl, ht⟩ := ht
    obtain ⟨y, h1, h2, h3⟩ := h f (by simp)
    obtain ⟨xs, g1, g2, g3⟩ := readsAll_tiled r _ ht (fun g hg => h g (by simp [hg]))
    refine ⟨y ++ xs, ⟨y, xs, h1, g1, rfl⟩, ?_, pureL_append h3 g3⟩
    have e : cs.drop f.offset = (cs.drop f.offset).take (P.cellsOf f.type) ++ cs.drop (f.offset + P.cellsOf f.type) := by
      rw [← List.drop_drop, List.take_append_drop]
    rw [e]
    exact h2.append g2

theorem readsAll_array {n c : Nat} {e : TypeId} {cs : List Value} : ∀ (k i : Nat), (∀ j, i ≤ j → j < i + k → ReadOk P W n e ((cs.drop (j * c)).take c)) → cs.length = (i + k) * c →
    ∃ xs, ReadsAll (Reads P n) (List.replicate k e) xs ∧ RelL (open_ W) xs (cs.drop (i * c)) ∧ pureL xs = true
  | 0, i, _, hl => by
    refine ⟨[], rfl, ?_, rfl⟩
    rw [List.drop_of_length_le (by rw [hl]; simp)]
    exact .nil
  | k + 1, i, h, hl => by
    obtain ⟨y, h1, h2, h3⟩ := h i (Nat.le_refl _) (by omega)
    obtain ⟨xs, g1, g2, g3⟩ := readsAll_array k (i + 1) (fun j hj hj' => h j (by omega) (by omega)) (by rw [hl]; congr 1; omega)
    refine ⟨y ++ xs, ⟨y, xs, h1, g1, rfl⟩, ?_, pureL_append h3 g3⟩
    have e : cs.drop (i * c) = (cs.drop (i * c)).take c ++ cs.drop ((i + 1) * c) := by
      rw [Nat.succ_mul, ← List.drop_drop, List.take_append_drop]
    rw [e]
    exact h2.append g2

theorem reads_slice {n c : Nat} {e : TypeId} {a : Addr} : ∀ (len : Nat), (∀ i, i < len → ∃ cs, W.cells? 0 (a.add (i * c)) c = some cs ∧ ReadOk P W n e cs) →
    ∃ (ys : List (List V)) (vs : List Value), ys.length = len ∧ (∀ y ∈ ys, Reads P n e y) ∧ RelL (open_ W) ys.flatten vs ∧ pureL ys.flatten = true ∧ vs.length = len * c ∧ ∀ i v, vs[i]? = some v → W.cell? (a.add i) = some v
  | 0, _ => ⟨[], [], rfl, (fun _ h => by cases h), .nil, rfl, by simp, fun i v h => by simp at h⟩
  | len + 1, h => by
    obtain ⟨ys, vs, h1, h2, h3, h4, h5, h6⟩ := reads_slice len (fun i hi => h i (by omega))
    obtain ⟨cs, hc, y, g1, g2, g3⟩ := h len (by omega)
    obtain ⟨_, hl, hcell⟩ := World.cells?_some hc
    refine ⟨ys ++ [y], vs ++ cs, by simp [h1], ?_, ?_, ?_, by rw [List.length_append, h5, hl, Nat.succ_mul], ?_⟩
    · intro z hz
      rcases List.mem_append.1 hz with hz | hz
      · exact h2 z hz
      · rw [List.mem_singleton] at hz; subst hz; exact g1
    · rw [List.flatten_append]; simpa using h3.append g2
    · rw [List.flatten_append]; exact pureL_append h4 (by simpa using g3)
    · intro i v hv
      rcases Nat.lt_or_ge i vs.length with hi | hi
      · exact h6 i v (by rwa [List.getElem?_append_left hi] at hv)
      · rw [List.getElem?_append_right hi] at hv
        have hlt : i - vs.length < cs.length := (List.getElem?_eq_some_iff.1 hv).1
        have := hcell (i - vs.length) (by omega)
        rw [add_add, hv] at this
        have e1 : len * c + (i - vs.length) = i := by omega
        rwa [e1] at this

theorem reads_of_trod (hb : bookOk P book = true) : ∀ (fuel : Nat) (t : TypeId) (cs : List Value) (x : DataW H × List MemPlace), t ∈ book →
    DataW.trod enc P W 0 (fun _ => true) true fuel t cs = some x → ReadOk P W fuel t cs
  | 0, t, cs, x, _, h => by cases h
  | fuel + 1, t, cs, x, ht, h => by
    have ih := fun t cs x => reads_of_trod hb fuel t cs x
    have hbt := List.all_eq_true.1 hb t ht
    unfold ReadOk
    unfold Reads
    cases hu : P.underlying t with
    | none => rw [hu] at hbt; cases hbt
    | some d =>
      rw [hu] at hbt
      cases d with
      | bool =>
        obtain ⟨b, rfl, _⟩ := DataW.trod_bool hu h
        exact ⟨[.bool b], ⟨b, rfl⟩, .cons (by simp [Rel]) .nil, rfl⟩
      | int k =>
        obtain ⟨m, rfl, _, hw⟩ := DataW.trod_int hu h
        exact ⟨[.int k m], ⟨m, rfl, hw⟩, .cons (by simp [Rel]) .nil, rfl⟩
      | string =>
        obtain ⟨s, rfl, _, hs⟩ := DataW.trod_string hu h
        refine ⟨[.str s.data.toList], ⟨s.data.toList, rfl, by rw [← Lib.size_eq]; exact hs⟩, .cons (by simp [Rel]) .nil, rfl⟩
      | slice e =>
        have he : e ∈ book := by simpa using hbt
        rcases DataW.trod_slice hu h with ⟨rfl, _⟩ | ⟨a, len, cap, elems, rest, n, hn, rfl, _, _, hlc, hcm, hel, hread, _⟩
        · exact ⟨[.nilslice], .inl rfl, .cons (by simp [Rel]) .nil, rfl⟩
        · cases hn
          obtain ⟨ys, vs, h1, h2, h3, h4, h5, h6⟩ := reads_slice (P := P) (W := W) (n := fuel) (c := P.cellsOf e) (e := e) (a := a) len (fun i hi => by
            have := hread i hi
            have hx : elems[i]? = some elems[i] := List.getElem?_eq_getElem (by omega)
            rw [hx] at this
            cases hc : W.cells? 0 (a.add (i * P.cellsOf e)) (P.cellsOf e) with
            | none => rw [hc] at this; cases this
            | some cs => rw [hc] at this; exact ⟨cs, rfl, ih e cs _ he this⟩)
          refine ⟨[.islice ys.flatten ys.length false], .inr ⟨ys, rfl, by omega, h2⟩, .cons ?_ .nil, rfl⟩
          simp only [Rel]
          exact ⟨a, cap, vs, by rw [h1], by omega, (fun h => by cases h), rowAt_of h6, h3, h4⟩
      | struct fs =>
        simp only [Bool.and_eq_true, List.all_eq_true] at hbt
        obtain ⟨xs, n, hn, _, hl, hxl, hread⟩ := DataW.trod_struct hu h
        cases hn
        obtain ⟨ys, g1, g2, g3⟩ := readsAll_tiled (P := P) (W := W) (n := fuel) (cs := cs) fs.toList 0 (by rw [hl]; exact hbt.1) (fun f hf => by
          obtain ⟨i, hi⟩ := List.mem_iff_getElem?.1 hf
          have hi' : fs[i]? = some f := by simpa using hi
          have hil : i < fs.size := (Array.getElem?_eq_some_iff.1 hi').1
          have := hread i f hi'
          have hx : xs[i]? = some xs[i] := List.getElem?_eq_getElem (by omega)
          rw [hx] at this
          exact ih _ _ _ (by simpa using hbt.2 f hf) this)
        exact ⟨ys, g1, by simpa using g2, g3⟩
      | array k e =>
        simp only [Bool.and_eq_true, beq_iff_eq] at hbt
        obtain ⟨xs, n, hn, _, hl, hxl, hread⟩ := DataW.trod_array hu h
        cases hn
        obtain ⟨ys, g1, g2, g3⟩ := readsAll_array (P := P) (W := W) (n := fuel) (c := P.cellsOf e) (e := e) (cs := cs) k 0 (fun j _ hj => by
          have := hread j (by omega)
          have hx : xs[j]? = some xs[j] := List.getElem?_eq_getElem (by omega)
          rw [hx] at this
          exact ih _ _ _ (by simpa using hbt.2) this) (by rw [hl, hbt.1]; simp)
        exact ⟨ys, g1, by simpa using g2, g3⟩
      | _ => cases hbt

def ArgRead (P : Program) (n : Nat) (t : TypeId) (x : V) : Prop :=
  match P.underlying t with
  | some (.struct _) | some (.array _ _) => ∃ cs, x = .agg cs ∧ Reads P n t cs
  | _ => Reads P n t [x]

def ArgsRead (P : Program) : List TypeId → List V → Prop
  | [], xs => xs = []
  | t :: ts, xs => ∃ n y r, ArgRead P n t y ∧ ArgsRead P ts r ∧ xs = y :: r

theorem args_read (hb : bookOk P book = true) : ∀ {ts : List TypeId} {vs : List Value} {ds : List (DataW H)} {ps : List MemPlace}, (∀ t ∈ ts, t ∈ book) →
    DataW.TrodAll enc P W 0 (fun _ => true) true ts vs ds ps → (∀ (j : Nat) t v, ts[j]? = some t → vs[j]? = some v → ∃ w r base, Value.okWide P w r base t v) →
    ∃ xs, ArgsRead P ts xs ∧ RelL (open_ W) xs vs
  | [], [], [], _, _, _, _ => ⟨[], rfl, .nil⟩
  | [], _ :: _, _, _, _, h, _ => h.elim
  | [], [], _ :: _, _, _, h, _ => h.elim
  | _ :: _, [], _, _, _, h, _ => h.elim
  | _ :: _, _ :: _, [], _, _, h, _ => h.elim
  | t :: ts, v :: vs, d :: ds, ps, ht, h, hok => by
    obtain ⟨p, q, ⟨fuel, h1⟩, h2, _⟩ := h
    obtain ⟨ys, g1, g2, g3⟩ := reads_of_trod hb fuel t _ _ (ht t (by simp)) h1
    obtain ⟨xs, k1, k2⟩ := args_read hb (fun u hu => ht u (by simp [hu])) h2 (fun j u x hu hx => hok (j + 1) u x hu hx)
    obtain ⟨w, r, base, hw⟩ := hok 0 t v rfl rfl
    by_cases hagg : ∃ cs : Array Value, v = .agg cs ∧ (match P.underlying t with | some (.struct _) | some (.array _ _) => True | _ => False)
    · obtain ⟨cs, rfl, hm⟩ := hagg
      refine ⟨.agg ys :: xs, ⟨fuel, _, _, ?_, k1, rfl⟩, .cons ?_ k2⟩
      · unfold ArgRead
        split
        · exact ⟨ys, rfl, g1⟩
        · exact ⟨ys, rfl, g1⟩
        · rename_i q1 q2
          split at hm
          · rename_i fs hh; exact absurd hh (q1 fs)
          · rename_i k e hh; exact absurd hh (q2 k e)
          · exact hm.elim
      · simp only [Rel]
        exact ⟨cs.toList, rfl, g2⟩
    · have hne : ∀ fs, P.underlying t ≠ some (.struct fs) := by
        intro fs hu
        unfold Value.okWide at hw
        rw [hu] at hw
        obtain ⟨cs, rfl, _⟩ := hw
        exact hagg ⟨cs, rfl, by rw [hu]; trivial⟩
      have hne2 : ∀ k e, P.underlying t ≠ some (.array k e) := by
        intro k e hu
        unfold Value.okWide at hw
        rw [hu] at hw
        obtain ⟨cs, rfl, _⟩ := hw
        exact hagg ⟨cs, rfl, by rw [hu]; trivial⟩
      have hv : v.cells.toList = [v] := by
        cases v with
        | agg cs =>
          exfalso
          have hbt := List.all_eq_true.1 hb t (ht t (by simp))
          cases hu : P.underlying t with
          | none => rw [hu] at hbt; cases hbt
          | some d => cases d <;> first
            | (rw [hu] at hbt; cases hbt; done)
            | exact hne _ hu
            | exact hne2 _ _ hu
            | (simp [Value.okWide, hu, Cell.okWide, Cell.ok] at hw; done)
        | _ => rfl
      rw [hv] at g2
      cases ys with
      | nil => exact absurd g2 (by simp [RelL])
      | cons y r =>
        obtain ⟨v', r', e, q1, q2⟩ := RelL.cons_iff.1 g2
        cases e
        cases r with
        | cons z r => exact absurd q2 (by intro h; have := h.length; simp at this)
        | nil =>
          refine ⟨y :: xs, ⟨fuel, _, _, ?_, k1, rfl⟩, .cons q1 k2⟩
          unfold ArgRead
          split
          · rename_i fs hh; exact absurd hh (hne fs)
          · rename_i k e hh; exact absurd hh (hne2 k e)
          · exact g1

end
end Go.AM
end
section
/- The abstract machine, part 26: a law that the machine answers with true is a row that holds. -/
namespace Go.AM

section
variable {P : Program} {pol : Pol}

theorem Sim.start (W : World) : Sim W.heap.size (fun _ _ => False) [] (open_ W) where
  dom := fun f s => rfl
  bsz := Nat.le_refl _
  fb := fun _ _ h => h.elim
  fmod := fun _ _ h => h
  modsz := fun _ _ h => h.elim
  obj := fun f s o h => by simp [hget] at h
  nreg := fun f s n x h => by cases h
  inj := fun f s o _ _ _ _ h => by simp [hget] at h

theorem calls_of_callW (ok : Okay P pol) {f : FuncId} {xs : List V} {args : Array Value} {W : World} {b : Bool} {H' : Heap} (h : callW P pol f xs [] = some (.ret (.bool b), H'))
    (hr : RelL (open_ W) xs args.toList) : Calls P f args W fun e W' => e = .returned (.bool b) ∧ RowKit.Below W.heap.size W W' := by
  have := (callW_sound ok f xs [] _ H' h).2 W.heap.size (fun _ _ => False) (open_ W) args.toList (Sim.start W) hr
  refine this.mono ?_
  rintro e w' ⟨E', rfl, ⟨c, rfl, hc⟩, S', X, _⟩
  simp only [Rel] at hc
  subst hc
  exact ⟨rfl, X.rest.2.1, X.rest.1, X.rest.2.2, X.size, X.old⟩

theorem below_trodAll {H : Type} {enc : TypeId × Value → H} (hl : laidOutB P = true) {W W' : World} (hb : RowKit.Below W.heap.size W W') : ∀ {ts : List TypeId} {vs : List Value} {ds : List (DataW H)} {ps : List MemPlace},
    (∀ t ∈ ts, P.readableRec t = true ∧ t < P.types.size) → DataW.TrodAll enc P W 0 (fun _ => true) true ts vs ds ps → (∀ x ∈ ps, x.block < W.heap.size) → DataW.TrodAll enc P W' 0 (fun b => decide (b < W.heap.size)) true ts vs ds ps
  | [], [], [], _, _, h, _ => h
  | [], _ :: _, _, _, _, h, _ => h.elim
  | [], [], _ :: _, _, _, h, _ => h.elim
  | _ :: _, [], _, _, _, h, _ => h.elim
  | _ :: _, _ :: _, [], _, _, h, _ => h.elim
  | t :: ts, v :: vs, d :: ds, ps, ht, h, hlt => by
    obtain ⟨p, q, h1, h2, rfl⟩ := h
    exact ⟨p, q, RowKit.Below.trod hl (ht t (by simp)).1 (ht t (by simp)).2 h1 hb (fun x hx => hlt x (by simp [hx])), below_trodAll hl hb (fun u hu => ht u (by simp [hu])) h2 (fun x hx => hlt x (by simp [hx])), rfl⟩

theorem trodAll_length {H : Type} {enc : TypeId × Value → H} {W : World} {base : Nat} {sp : Nat → Bool} {hd : Bool} : ∀ {ts : List TypeId} {vs : List Value} {ds : List (DataW H)} {ps : List MemPlace},
    DataW.TrodAll enc P W base sp hd ts vs ds ps → ds.length = ts.length
  | [], [], [], _, _ => rfl
  | [], _ :: _, _, _, h => h.elim
  | [], [], _ :: _, _, h => h.elim
  | _ :: _, [], _, _, h => h.elim
  | _ :: _, _ :: _, [], _, h => h.elim
  | t :: ts, v :: vs, d :: ds, ps, h => by
    obtain ⟨p, q, h1, h2, rfl⟩ := h
    simp [trodAll_length h2]

theorem law_contract {H : Type} {enc : TypeId × Value → H} (ok : Okay P pol) (hl : laidOutB P = true) {f : FuncId} {fn : Func} {ts book : List TypeId} {tb : TypeId} (hts : fn.params.toList = ts) (hrt : fn.resultTypes.toList = [tb])
    (htb : P.underlying tb = some .bool) (hbook : bookOk P book = true) (hin : ts.all (fun t => book.contains t && P.readableRec t && decide (t < P.types.size)) = true)
    {s : ChangeSpec} (hv : s.vars = []) (hs : ∀ ds : List (DataW H), ds.length = ts.length → (s.fn H ds).results = [.lit (.bool true)] ∧ (s.fn H ds).args = ds ∧ (s.fn H ds).vars = [])
    (hlaw : ∀ xs, ArgsRead P ts xs → ∃ H', callW P pol f xs [] = some (.ret (.bool true), H')) {apart fresh handsOn : Bool}
    {W : World} {base : Nat} {args : Array Value} {ds gs : List (DataW H)} {before : List MemPlace}
    (hval : ∀ (j : Nat) t v, fn.params[j]? = some t → args[j]? = some v → Value.okWide P W .any base t v)
    (hW : DataW.Whole enc P fn.params.toList s.vars apart W args.toList ds gs before) :
    Calls P f args W fun e W' => ∃ v, e = .returned v ∧ s.post enc P fn apart fresh handsOn false W args v W' := by
  have hin' : ∀ t ∈ ts, t ∈ book ∧ P.readableRec t = true ∧ t < P.types.size := by
    intro t ht
    have := List.all_eq_true.1 hin t ht
    simp only [Bool.and_eq_true, decide_eq_true_eq] at this
    exact ⟨by simpa using this.1.1, this.1.2, this.2⟩
  have hW' := hW
  have hlt := hW.lt
  obtain ⟨p, q, hA, hV, rfl, hfz, hnd⟩ := hW
  rw [hv] at hV
  have hg : gs = [] ∧ q = [] := by
    cases gs with
    | nil => exact ⟨rfl, hV⟩
    | cons g gs => exact hV.elim
  obtain ⟨rfl, rfl⟩ := hg
  rw [hts] at hA
  obtain ⟨xs, h1, h2⟩ := args_read hbook (fun t ht => (hin' t ht).1) hA (fun j t v ht hv => ⟨W, .any, base, hval j t v (by rw [← Array.getElem?_toList, hts]; exact ht) (by simpa using hv)⟩)
  obtain ⟨H', hc⟩ := hlaw xs h1
  refine (calls_of_callW ok hc h2).mono ?_
  rintro e W' ⟨rfl, hb⟩
  refine ⟨_, rfl, ?_⟩
  obtain ⟨k1, k2, k3⟩ := hs ds (trodAll_length hA)
  refine ⟨ds, [], p ++ [], [], p, [], hW', ?_, ?_, ?_, ?_, fun h => by cases h⟩
  · rw [List.append_nil, k1, hrt]
    have hsz : fn.resultTypes.size = 1 := by rw [← Array.length_toList, hrt]; rfl
    rw [hsz]
    exact ChangeShapes.trodAll_mk1 (RowKit.shut_bool htb true)
  · rw [List.append_nil, k2, hts]
    exact below_trodAll hl hb (fun t ht => (hin' t ht).2) hA (fun x hx => hlt x (by simpa using hx))
  · rw [List.append_nil, k3, hv]
    rfl
  · exact hb.frame _

end
end Go.AM
end
section
/- The abstract machine, part 27: one rewrite an operation. -/
namespace Go.AM

section
variable {P : Program} {pol : Pol} {C : Call} {L : MBody → Body} {fn fr : Nat} {ops : Array Oper} {r : List Oper} {t : List V} {H : Heap} {d : Option Nat} {ty u : TypeId} {ps : String} {af : Array Edge} {x y z : Operand}

theorem st_guard {op : Op} {j : Nat} {want : Bool} : runOps P pol C fn fr ops ({ dst := d, op := op, type := ty, pos := ps, after := af, guard := some (j, want) } :: r) t H =
    match ((ops[j]?).bind (·.dst)).bind (t[·]?) with
    | some (.bool b) => if b == want then runOps P pol C fn fr ops ({ dst := d, op := op, type := ty, pos := ps, after := af, guard := none } :: r) t H else runOps P pol C fn fr ops r (putT t d nov) H
    | some (.tuple []) => runOps P pol C fn fr ops r (putT t d nov) H
    | _ => none := by
  have e : wantedV ops t { dst := d, op := op, type := ty, pos := ps, after := af, guard := some (j, want) } = match ((ops[j]?).bind (·.dst)).bind (t[·]?) with
    | some (.bool b) => some (b == want)
    | some (.tuple []) => some false
    | _ => none := rfl
  simp only [runOps, e]
  generalize ((ops[j]?).bind (·.dst)).bind (t[·]?) = s
  cases s with
  | none => rfl
  | some v =>
    cases v with
    | bool b => cases b <;> cases want <;> rfl
    | tuple l => cases l <;> rfl
    | _ => rfl

theorem st_other {op : Op} : runOps P pol C fn fr ops ({ dst := d, op := op, type := ty, pos := ps, after := af, guard := none } :: r) t H =
    match evOp P (pol.mt fn) fr (hget H) (rho t) { dst := d, op := op, type := ty, pos := ps, after := af, guard := none } with
    | some (.val v w) => runOps P pol C fn fr ops r (putT t d v) (wr H w)
    | some (.panic v) => some (.panic v, t, H)
    | some (.call f args) => (match callOp pol C fn fr d f args H with
      | some (.ret v, H') => runOps P pol C fn fr ops r (putT t d v) H'
      | some (.pan v, H') => some (.panic v, t, H')
      | none => none)
    | none => none := by
  simp only [runOps, wantedV, opOne]
  cases evOp P (pol.mt fn) fr (hget H) (rho t) { dst := d, op := op, type := ty, pos := ps, after := af, guard := none } with
  | none => rfl
  | some s =>
    cases s with
    | val v w => rfl
    | panic v => rfl
    | call f args =>
      simp only
      cases callOp pol C fn fr d f args H with
      | none => rfl
      | some q => obtain ⟨q, H'⟩ := q; cases q <;> rfl

/-! ### Code: what is still to be done, as a list -/

inductive It where
  | code (c : Code)
  | ops (a : Array Oper) (l : List Oper)
  | opsT (a : Array Oper) (l : List Oper) (T : List FP)
  | block (id : Nat)

def U (P : Program) (pol : Pol) (C : Call) (L : MBody → Body) (fn fr : Nat) : List It → Ex → List V → Heap → Out
  | [], e, t, H => some (e, t, H)
  | .code c :: k, e, t, H => (match e with
    | .normal => (exec P pol C L fn fr c t H).bind fun x => U P pol C L fn fr k x.1 x.2.1 x.2.2
    | e => U P pol C L fn fr k e t H)
  | .ops a l :: k, e, t, H => (match e with
    | .normal => (runOps P pol C fn fr a l t H).bind fun x => U P pol C L fn fr k x.1 x.2.1 x.2.2
    | e => U P pol C L fn fr k e t H)
  | .opsT a l T :: k, e, t, H => (match e with
    | .normal => (runOpsT P pol C fn fr a l t H).bind fun x => if okT (Region.before a) (loud (T.reverse ++ x.2.2)) then U P pol C L fn fr k .normal x.1 x.2.1 else none
    | e => U P pol C L fn fr k e t H)
  | .block id :: k, e, t, H => (match e with
    | .exit i => if i = id then U P pol C L fn fr k .normal t H else U P pol C L fn fr k (.exit i) t H
    | e => U P pol C L fn fr k e t H)

section
variable {k : List It}

theorem u_start (c : Code) : exec P pol C L fn fr c t H = U P pol C L fn fr [.code c] .normal t H := by
  simp only [U]
  cases exec P pol C L fn fr c t H with
  | none => rfl
  | some x => rfl

theorem u_nil {e : Ex} : U P pol C L fn fr [] e t H = some (e, t, H) := rfl
theorem u_seq {a b : Code} : U P pol C L fn fr (.code (.seq a b) :: k) .normal t H = U P pol C L fn fr (.code a :: .code b :: k) .normal t H := by
  simp only [U, exec]
  cases exec P pol C L fn fr a t H with
  | none => rfl
  | some x => obtain ⟨e, t1, H1⟩ := x; cases e <;> rfl
theorem u_region {id : Nat} {l : List Oper} : U P pol C L fn fr (.code (.region id l.toArray false) :: k) .normal t H = U P pol C L fn fr (.ops l.toArray l :: k) .normal t H := by
  simp only [U, exec, Bool.false_eq_true, if_false]
theorem u_draw {id : Nat} {l : List Oper} : U P pol C L fn fr (.code (.region id l.toArray true) :: k) .normal t H = U P pol C L fn fr (.opsT l.toArray l [] :: k) .normal t H := by
  simp only [U, exec, if_true]
  cases runOpsT P pol C fn fr l.toArray l t H with
  | none => rfl
  | some x =>
    obtain ⟨t1, H1, T1⟩ := x
    by_cases h : okT (Region.before l.toArray) (loud T1) = true
    · simp [h]
    · simp [h]
theorem u_ops_nil {a : Array Oper} : U P pol C L fn fr (.ops a [] :: k) .normal t H = U P pol C L fn fr k .normal t H := rfl
theorem u_opsT_nil {a : Array Oper} {T : List FP} : U P pol C L fn fr (.opsT a [] T :: k) .normal t H = if okT (Region.before a) (loud T.reverse) then U P pol C L fn fr k .normal t H else none := by
  simp only [U, runOpsT, Option.bind_some, List.append_nil]
theorem u_skip : U P pol C L fn fr (.code .skip :: k) .normal t H = U P pol C L fn fr k .normal t H := rfl
theorem u_ret : U P pol C L fn fr (.code .ret :: k) .normal t H = U P pol C L fn fr k .ret t H := rfl
theorem u_exit {id : Nat} : U P pol C L fn fr (.code (.exit id) :: k) .normal t H = U P pol C L fn fr k (.exit id) t H := rfl
theorem u_code_ret {c : Code} : U P pol C L fn fr (.code c :: k) .ret t H = U P pol C L fn fr k .ret t H := rfl
theorem u_code_exit {c : Code} {i : Nat} : U P pol C L fn fr (.code c :: k) (.exit i) t H = U P pol C L fn fr k (.exit i) t H := rfl
theorem u_code_panic {c : Code} {v : V} : U P pol C L fn fr (.code c :: k) (.panic v) t H = U P pol C L fn fr k (.panic v) t H := rfl
theorem u_block_normal {i : Nat} : U P pol C L fn fr (.block i :: k) .normal t H = U P pol C L fn fr k .normal t H := rfl
theorem u_block_ret {i : Nat} : U P pol C L fn fr (.block i :: k) .ret t H = U P pol C L fn fr k .ret t H := rfl
theorem u_block_panic {i : Nat} {v : V} : U P pol C L fn fr (.block i :: k) (.panic v) t H = U P pol C L fn fr k (.panic v) t H := rfl
theorem u_block_exit {i j : Nat} : U P pol C L fn fr (.block i :: k) (.exit j) t H = if j = i then U P pol C L fn fr k .normal t H else U P pol C L fn fr k (.exit j) t H := rfl
theorem u_block {id : Nat} {b : Code} : U P pol C L fn fr (.code (.block id b) :: k) .normal t H = U P pol C L fn fr (.code b :: .block id :: k) .normal t H := by
  simp only [U, exec]
  cases exec P pol C L fn fr b t H with
  | none => rfl
  | some x =>
    obtain ⟨e, t1, H1⟩ := x
    cases e <;> first | rfl | (simp only [Option.bind_some]; split <;> rfl)
def round (P : Program) (pol : Pol) (C : Call) (L : MBody → Body) (fn fr : Nat) (b : Code) : MBody := fun t H => match forget pol fn fr (fstRegion b) t H with
  | some (t, H) => (match headNext b with
    | none => [exec P pol C L fn fr b t H]
    | some x => (match nextC (hget H) (rho t x) with
      | some cs => cs.map fun c => execF P pol C L fn fr b c.1 c.2 t H
      | none => [none]))
  | none => [none]
/-! One operation. -/

theorem u_guard {a : Array Oper} {op : Op} {j : Nat} {want b : Bool} (h : ((a[j]?).bind (·.dst)).bind (t[·]?) = some (.bool b)) :
    U P pol C L fn fr (.ops a ({ dst := d, op := op, type := ty, pos := ps, after := af, guard := some (j, want) } :: r) :: k) .normal t H =
      if b = want then U P pol C L fn fr (.ops a ({ dst := d, op := op, type := ty, pos := ps, after := af, guard := none } :: r) :: k) .normal t H else U P pol C L fn fr (.ops a r :: k) .normal (putT t d nov) H := by
  simp only [U]
  rw [st_guard, h]
  simp only
  cases b <;> cases want <;> rfl


theorem u_other {a : Array Oper} {op : Op} : U P pol C L fn fr (.ops a ({ dst := d, op := op, type := ty, pos := ps, after := af, guard := none } :: r) :: k) .normal t H =
    match evOp P (pol.mt fn) fr (hget H) (rho t) { dst := d, op := op, type := ty, pos := ps, after := af, guard := none } with
    | some (.val v w) => U P pol C L fn fr (.ops a r :: k) .normal (putT t d v) (wr H w)
    | some (.panic v) => U P pol C L fn fr k (.panic v) t H
    | some (.call f args) => (match callOp pol C fn fr d f args H with
      | some (.ret v, H') => U P pol C L fn fr (.ops a r :: k) .normal (putT t d v) H'
      | some (.pan v, H') => U P pol C L fn fr k (.panic v) t H'
      | none => none)
    | none => none := by
  simp only [U]
  rw [st_other]
  cases evOp P (pol.mt fn) fr (hget H) (rho t) { dst := d, op := op, type := ty, pos := ps, after := af, guard := none } with
  | none => rfl
  | some s =>
    cases s with
    | val v w => rfl
    | panic v => rfl
    | call f args =>
      simp only
      cases callOp pol C fn fr d f args H with
      | none => rfl
      | some q => obtain ⟨q, H'⟩ := q; cases q <;> rfl
/-! Without what must be found first. -/
theorem u_if {c : Operand} {a b : Code} : U P pol C L fn fr (.code (.cond c a b) :: k) .normal t H =
    match rho t c with
    | .bool v => if v = true then U P pol C L fn fr (.code a :: k) .normal t H else U P pol C L fn fr (.code b :: k) .normal t H
    | _ => none := by
  simp only [U, exec]
  cases rho t c with
  | bool v => cases v <;> rfl
  | _ => rfl
theorem u_when {a : Array Oper} {op : Op} {j : Nat} {want : Bool} :
    U P pol C L fn fr (.ops a ({ dst := d, op := op, type := ty, pos := ps, after := af, guard := some (j, want) } :: r) :: k) .normal t H =
      match ((a[j]?).bind (·.dst)).bind (t[·]?) with
      | some (.bool b) => if b = want then U P pol C L fn fr (.ops a ({ dst := d, op := op, type := ty, pos := ps, after := af, guard := none } :: r) :: k) .normal t H else U P pol C L fn fr (.ops a r :: k) .normal (putT t d nov) H
      | some (.tuple []) => U P pol C L fn fr (.ops a r :: k) .normal (putT t d nov) H
      | _ => none := by
  cases h : ((a[j]?).bind (·.dst)).bind (t[·]?) with
  | none => simp only [U]; rw [st_guard, h]; rfl
  | some v =>
    cases v with
    | bool b => exact u_guard h
    | tuple l => simp only [U]; rw [st_guard, h]; cases l <;> rfl
    | _ => simp only [U]; rw [st_guard, h]; rfl

end
end

section
variable {P : Program} {pol : Pol} {C : Call} {fn fr : Nat} {t : List V} {H : Heap} {u : TypeId} {x y : Operand} {k : IntKind} {m n : Int} {g : Get} {mt : Nat → Bool}

/-! ### What operations come to -/
theorem b_add : binV P .add u x y (.int k m) (.int k n) = some (.int k (k.wrap (m + n))) := by simp only [binV, binI, if_true]
theorem b_sub : binV P .sub u x y (.int k m) (.int k n) = some (.int k (k.wrap (m - n))) := by simp only [binV, binI, if_true]
theorem b_mul : binV P .mul u x y (.int k m) (.int k n) = some (.int k (k.wrap (m * n))) := by simp only [binV, binI, if_true]
theorem b_eql : binV P .eql u x y (.int k m) (.int k n) = some (.bool (m == n)) := by simp only [binV, binI, if_true]
theorem b_neq : binV P .neq u x y (.int k m) (.int k n) = some (.bool (m != n)) := by simp only [binV, binI, if_true]
theorem b_lss : binV P .lss u x y (.int k m) (.int k n) = some (.bool (decide (m < n))) := by simp only [binV, binI, if_true]
theorem b_leq : binV P .leq u x y (.int k m) (.int k n) = some (.bool (decide (m ≤ n))) := by simp only [binV, binI, if_true]
theorem b_gtr : binV P .gtr u x y (.int k m) (.int k n) = some (.bool (decide (m > n))) := by simp only [binV, binI, if_true]
theorem b_geq : binV P .geq u x y (.int k m) (.int k n) = some (.bool (decide (m ≥ n))) := by simp only [binV, binI, if_true]
theorem b_sadd {a b : List UInt8} : binV P .add u x y (.str a) (.str b) = binS .add a b := rfl
theorem b_seql {a b : List UInt8} : binV P .eql u x y (.str a) (.str b) = some (.bool (a == b)) := rfl
theorem b_sneq {a b : List UInt8} : binV P .neq u x y (.str a) (.str b) = some (.bool (!(a == b))) := rfl

theorem oc_int : ofConst (.int k n) = .int k n := rfl
theorem oc_bool {b : Bool} : ofConst (.bool b) = .bool b := rfl
theorem oc_str {s : ByteArray} : ofConst (.string s) = .str s.data.toList := rfl
theorem oc_nilslice : ofConst (.slice none 0 0) = .nilslice := rfl
theorem oc_nilptr : ofConst (.pointer none) = .nilptr := rfl
theorem oc_nilmap : ofConst (.map none) = .nilmap := rfl
theorem oc_nilfunc : ofConst .nilFunc = .nilfunc := rfl
theorem oc_nilface : ofConst .nilIface = .nilface := rfl

theorem rd_of {d : TypeDesc} {q : Nat} (h : P.underlying u = some d) (hs : sz P u = some q) (ha : aggD d = false) (cs : List V) (o : Nat) : readAt P u cs o = cs[o]? := by
  simp only [readAt, h, hs, ha, Bool.false_eq_true, if_false]
theorem ia_of {e : TypeId} {q : Nat} (h : P.underlying u = some (.slice e)) (hs : sz P e = some q) (cs : List V) (len : Nat) (full : Bool) :
    indexAddrV P u (.islice cs len full) (.int k n) = if 0 ≤ n ∧ n < len ∧ cs.length = len * q ∧ 0 < q then some (.iptr cs (n.toNat * q)) else none := by
  simp only [indexAddrV, h, hs]
theorem ln_islice {e : TypeId} (h : P.underlying u = some (.slice e)) (cs : List V) (len : Nat) (full : Bool) : lenV P g u (.islice cs len full) = some (.int .i64 len) := by simp only [lenV, h]
theorem ln_nil {e : TypeId} (h : P.underlying u = some (.slice e)) : lenV P g u .nilslice = some (.int .i64 0) := by simp only [lenV, h]
theorem ln_str (h : P.underlying u = some .string) (s : List UInt8) : lenV P g u (.str s) = some (.int .i64 s.length) := by simp only [lenV, h]

theorem bi_len {ts : List TypeId} {d : Option Nat} {v : V} : builtinV P mt fr g d .len (u :: ts).toArray [v] = (lenV P g u v).map fun v => .val v none := rfl
theorem bi_max {ts : Array TypeId} {d : Option Nat} {v : V} {l : List V} : builtinV P mt fr g d .max ts (v :: l) = (minV true v l).map fun v => .val v none := by cases l <;> rfl
theorem bi_min {ts : Array TypeId} {d : Option Nat} {v : V} {l : List V} : builtinV P mt fr g d .min ts (v :: l) = (minV false v l).map fun v => .val v none := by cases l <;> rfl
theorem mx_nil {v : V} {b : Bool} : minV b v [] = some v := rfl
theorem mx_one {b : Bool} {l : List V} : minV b (.int k m) (.int k n :: l) = minV b (.int k (if b then (if n > m then n else m) else (if n < m then n else m))) l := rfl

/-! ### Forgetting -/
theorem refs_none : ∀ (v : V), v.refs (fun _ _ => false) = false := by
  intro v
  refine V.rec (motive_1 := fun v => v.refs (fun _ _ => false) = false) (motive_2 := fun l => refsL (fun _ _ => false) l = false) ?_ ?_ ?_ ?_ ?_ ?_ ?_ ?_ ?_ ?_ ?_ ?_ ?_ ?_ ?_ ?_ ?_ ?_ ?_ ?_ ?_ ?_ v <;> intros <;> simp_all [V.refs, refsL]
end
end Go.AM
end
