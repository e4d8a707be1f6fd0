/- This file holds in one the texts An25, An26, Bx14; each says at its head what it proves. -/
import Derived.Test.YteagpfbdmiihaaaGreatDoorT7
import Derived.Test.YteagpfbdmiihaaaGreatDoorT13
import Derived.ProofKit
import Derived.OpenShut
set_option linter.unusedSimpArgs false
set_option linter.unusedVariables false
section
namespace Go.AM
def Qf4 (R : TypeId -> List V -> Prop) : List TypeId -> List V -> Prop
 | [], xs => xs = []
 | t :: ts, xs => ∃ y r, R t y /\ Qf4 R ts r /\ xs = y ++ r
def Qg2 (P : Program) : Nat -> TypeId -> List V -> Prop
 | 0, _, _ => False
 | n + 1, t, xs => match P.underlying t with
   | some .bool => ∃ b, xs = [.bool b]
   | some (.int k) => ∃ m, xs = [.int k m] /\ (Lit.int k m).wf = true
   | some .string => ∃ s : List UInt8, xs = [.str s] /\ s.length <= maxLen
   | some (.slice e) => xs = [.nS] \/ ∃ ys : List (List V), xs = [.iS ys.flatten ys.length false] /\ ys.length <= maxLen /\ ∀ y ∈ ys, Qg2 P n e y
   | some (.struct fs) => Qf4 (Qg2 P n) (fs.toList.map (·.type)) xs
   | some (.array k e) => Qf4 (Qg2 P n) (List.replicate k e) xs
   | _ => False
def Qdb (P : Program) : Nat -> List Field -> Nat -> Bool
 | o, [], n => o == n
 | o, f :: r, n => f.offset == o && Qdb P (o + P.cellsOf f.type) r n
def Qr2 (P : Program) (book : List TypeId) : Bool :=
 book.all fun t => match P.underlying t with
  | some .bool | some (.int _) | some .string => true
  | some (.slice e) => book.contains e
  | some (.struct fs) => Qdb P 0 fs.toList (P.cellsOf t) && fs.toList.all fun f => book.contains f.type
  | some (.array k e) => P.cellsOf t == k * P.cellsOf e && book.contains e
  | _ => false
abbrev Qfw (P : Program) (W : World) : Env := bare (Qv P) W fun _ _ => False
theorem Q7w (a : Addr) (m j : Nat) : (a.add m).add j = a.add (m + j) := by
 unfold Addr.add
 by_cases hj : j = 0
 . subst hj; simp
 . by_cases hm : m = 0
   . subst hm; simp [hj]
   . have : m + j ≠ 0 := by omega
     simp [hj, hm, Zl0]
section
variable {H : Type} {enc : TypeId × Value -> H} {P : Program} {W : World} {book : List TypeId}
theorem Q3u {a : Addr} {vs : List Value} (h : ∀ i v, vs[i]? = some v -> W.cell? (a.add i) = some v) : Qdi (Qfw P W) a vs := by
 cases vs with
 | nil => exact .inl rfl
 | cons v r =>
   right
   have h0 := h 0 v rfl
   have hs : a.spot = none := by
    have e : a.add 0 = a := by simp [Addr.add]
    rw [e] at h0
    unfold World.cell? at h0
    split at h0
    . cases hs : a.spot with
      | none => rfl
      | some s => simp [hs] at h0
    . cases h0
   refine ⟨hs, fun i v hv => ⟨?_, fun hm => hm⟩⟩
   have := h i v hv
   have e : a.add i = ⟨a.block, a.off + i, none⟩ := by
    obtain ⟨b, o, s⟩ := a
    simp only at hs
    subst hs
    unfold Addr.add
    split <;> simp_all
   rw [e] at this
   exact this
def Qm9 (P : Program) (W : World) (n : Nat) (t : TypeId) (cs : List Value) : Prop := ∃ xs, Qg2 P n t xs /\ Qf (Qfw P W) xs cs /\ Qk xs = true
theorem Qgd {n : Nat} {cs : List Value} : ∀ (fs : List Field) (o : Nat), Qdb P o fs cs.length = true -> (∀ f ∈ fs, Qm9 P W n f.type ((cs.drop f.offset).take (P.cellsOf f.type))) ->
 ∃ xs, Qf4 (Qg2 P n) (fs.map (·.type)) xs /\ Qf (Qfw P W) xs (cs.drop o) /\ Qk xs = true
 | [], o, ht, _ => by
   simp only [Qdb, beq_iff_eq] at ht
   subst ht
   exact ⟨[], rfl, by rw [List.drop_length]; exact .nil, rfl⟩
 | f :: r, o, ht, h => by
   simp only [Qdb, Zlm, beq_iff_eq] at ht
   obtain ⟨rfl, ht⟩ := ht
   obtain ⟨y, h1, h2, h3⟩ := h f (by simp)
   obtain ⟨xs, g1, g2, g3⟩ := Qgd r _ ht (fun g hg => h g (by simp [hg]))
   refine ⟨y ++ xs, ⟨y, xs, h1, g1, rfl⟩, ?_, Qer h3 g3⟩
   have e : cs.drop f.offset = (cs.drop f.offset).take (P.cellsOf f.type) ++ cs.drop (f.offset + P.cellsOf f.type) := by
    rw [<- Zl1, Zly]
   rw [e]
   exact h2.append g2
theorem Qfb {n c : Nat} {e : TypeId} {cs : List Value} : ∀ (k i : Nat), (∀ j, i <= j -> j < i + k -> Qm9 P W n e ((cs.drop (j * c)).take c)) -> cs.length = (i + k) * c ->
 ∃ xs, Qf4 (Qg2 P n) (List.replicate k e) xs /\ Qf (Qfw P W) xs (cs.drop (i * c)) /\ Qk xs = true
 | 0, i, _, hl => by
   refine ⟨[], rfl, ?_, rfl⟩
   rw [Zl2 (by rw [hl]; simp)]
   exact .nil
 | k + 1, i, h, hl => by
   obtain ⟨y, h1, h2, h3⟩ := h i (Zk0 _) (by omega)
   obtain ⟨xs, g1, g2, g3⟩ := Qfb k (i + 1) (fun j hj hj' => h j (by omega) (by omega)) (by rw [hl]; congr 1; omega)
   refine ⟨y ++ xs, ⟨y, xs, h1, g1, rfl⟩, ?_, Qer h3 g3⟩
   have e : cs.drop (i * c) = (cs.drop (i * c)).take c ++ cs.drop ((i + 1) * c) := by
    rw [Nat.succ_mul, <- Zl1, Zly]
   rw [e]
   exact h2.append g2
theorem Qkg {n c : Nat} {e : TypeId} {a : Addr} : ∀ (len : Nat), (∀ i, i < len -> ∃ cs, W.cells? 0 (a.add (i * c)) c = some cs /\ Qm9 P W n e cs) ->
 ∃ (ys : List (List V)) (vs : List Value), ys.length = len /\ (∀ y ∈ ys, Qg2 P n e y) /\ Qf (Qfw P W) ys.flatten vs /\ Qk ys.flatten = true /\ vs.length = len * c /\ ∀ i v, vs[i]? = some v -> W.cell? (a.add i) = some v
 | 0, _ => ⟨[], [], rfl, (fun _ h => by cases h), .nil, rfl, by simp, fun i v h => by simp at h⟩
 | len + 1, h => by
   obtain ⟨ys, vs, h1, h2, h3, h4, h5, h6⟩ := Qkg len (fun i hi => h i (by omega))
   obtain ⟨cs, hc, y, g1, g2, g3⟩ := h len (by omega)
   obtain ⟨_, hl, hcell⟩ := World.cells?_some hc
   refine ⟨ys ++ [y], vs ++ cs, by simp [h1], ?_, ?_, ?_, by rw [Zl3, h5, hl, Nat.succ_mul], ?_⟩
   . intro z hz
     rcases Zlq.1 hz with hz | hz
     . exact h2 z hz
     . rw [Zll] at hz; subst hz; exact g1
   . rw [Zl4]; simpa using h3.append g2
   . rw [Zl4]; exact Qer h4 (by simpa using g3)
   . intro i v hv
     rcases Zkx i vs.length with hi | hi
     . exact h6 i v (by rwa [Zl5 hi] at hv)
     . rw [Zl6 hi] at hv
       have hlt : i - vs.length < cs.length := (Zl7.1 hv).1
       have := hcell (i - vs.length) (by omega)
       rw [Q7w, hv] at this
       have e1 : len * c + (i - vs.length) = i := by omega
       rwa [e1] at this
theorem Qg5 (hb : Qr2 P book = true) : ∀ (fuel : Nat) (t : TypeId) (cs : List Value) (x : DataW H × List MemPlace), t ∈ book ->
 DataW.trod enc P W 0 (fun _ => true) true fuel t cs = some x -> Qm9 P W fuel t cs
 | 0, t, cs, x, _, h => by cases h
 | fuel + 1, t, cs, x, ht, h => by
   have ih := fun t cs x => Qg5 hb fuel t cs x
   have hbt := Zln.1 hb t ht
   unfold Qm9
   unfold Qg2
   cases hu : P.underlying t with
   | none => rw [hu] at hbt; cases hbt
   | some d =>
     rw [hu] at hbt
     cases d with
     | bool =>
       obtain ⟨b, rfl, _⟩ := DataW.trod_bool hu h
       exact ⟨[.bool b], ⟨b, rfl⟩, .cons (by simp [Rel]) .nil, rfl⟩
     | int k =>
       obtain ⟨m, rfl, _, hw⟩ := DataW.trod_int hu h
       exact ⟨[.int k m], ⟨m, rfl, hw⟩, .cons (by simp [Rel]) .nil, rfl⟩
     | string =>
       obtain ⟨s, rfl, _, hs⟩ := DataW.trod_string hu h
       refine ⟨[.str s.data.toList], ⟨s.data.toList, rfl, by rw [<- Lib.size_eq]; exact hs⟩, .cons (by simp [Rel]) .nil, rfl⟩
     | slice e =>
       have he : e ∈ book := by simpa using hbt
       rcases DataW.trod_slice hu h with ⟨rfl, _⟩ | ⟨a, len, cap, elems, rest, n, hn, rfl, _, _, hlc, hcm, hel, hread, _⟩
       . exact ⟨[.nS], .inl rfl, .cons (by simp [Rel]) .nil, rfl⟩
       . cases hn
         obtain ⟨ys, vs, h1, h2, h3, h4, h5, h6⟩ := Qkg (P := P) (W := W) (n := fuel) (c := P.cellsOf e) (e := e) (a := a) len (fun i hi => by
          have := hread i hi
          have hx : elems[i]? = some elems[i] := Zkv (by omega)
          rw [hx] at this
          cases hc : W.cells? 0 (a.add (i * P.cellsOf e)) (P.cellsOf e) with
          | none => rw [hc] at this; cases this
          | some cs => rw [hc] at this; exact ⟨cs, rfl, ih e cs _ he this⟩)
         refine ⟨[.iS ys.flatten ys.length false], .inr ⟨ys, rfl, by omega, h2⟩, .cons ?_ .nil, rfl⟩
         simp only [Rel]
         exact ⟨a, cap, vs, by rw [h1], by omega, (fun h => by cases h), Q3u h6, h3, h4⟩
     | struct fs =>
       simp only [Zlm, Zln] at hbt
       obtain ⟨xs, n, hn, _, hl, hxl, hread⟩ := DataW.trod_struct hu h
       cases hn
       obtain ⟨ys, g1, g2, g3⟩ := Qgd (P := P) (W := W) (n := fuel) (cs := cs) fs.toList 0 (by rw [hl]; exact hbt.1) (fun f hf => by
        obtain ⟨i, hi⟩ := Zl8.1 hf
        have hi' : fs[i]? = some f := by simpa using hi
        have hil : i < fs.size := (Zk4.1 hi').1
        have := hread i f hi'
        have hx : xs[i]? = some xs[i] := Zkv (by omega)
        rw [hx] at this
        exact ih _ _ _ (by simpa using hbt.2 f hf) this)
       exact ⟨ys, g1, by simpa using g2, g3⟩
     | array k e =>
       simp only [Zlm, beq_iff_eq] at hbt
       obtain ⟨xs, n, hn, _, hl, hxl, hread⟩ := DataW.trod_array hu h
       cases hn
       obtain ⟨ys, g1, g2, g3⟩ := Qfb (P := P) (W := W) (n := fuel) (c := P.cellsOf e) (e := e) (cs := cs) k 0 (fun j _ hj => by
        have := hread j (by omega)
        have hx : xs[j]? = some xs[j] := Zkv (by omega)
        rw [hx] at this
        exact ih _ _ _ (by simpa using hbt.2) this) (by rw [hl, hbt.1]; simp)
       exact ⟨ys, g1, by simpa using g2, g3⟩
     | _ => cases hbt
def Qq0 (P : Program) (n : Nat) (t : TypeId) (x : V) : Prop :=
 match P.underlying t with
 | some (.struct _) | some (.array _ _) => ∃ cs, x = .agg cs /\ Qg2 P n t cs
 | _ => Qg2 P n t [x]
def Qe7 (P : Program) : List TypeId -> List V -> Prop
 | [], xs => xs = []
 | t :: ts, xs => ∃ n y r, Qq0 P n t y /\ Qe7 P ts r /\ xs = y :: r
theorem Qj1 (hb : Qr2 P book = true) : ∀ {ts : List TypeId} {vs : List Value} {ds : List (DataW H)} {ps : List MemPlace}, (∀ t ∈ ts, t ∈ book) ->
 DataW.TrodAll enc P W 0 (fun _ => true) true ts vs ds ps -> (∀ (j : Nat) t v, ts[j]? = some t -> vs[j]? = some v -> ∃ w r base, Value.okWide P w r base t v) ->
 ∃ xs, Qe7 P ts xs /\ Qf (Qfw P W) xs vs
 | [], [], [], _, _, _, _ => ⟨[], rfl, .nil⟩
 | [], _ :: _, _, _, _, h, _ => h.elim
 | [], [], _ :: _, _, _, h, _ => h.elim
 | _ :: _, [], _, _, _, h, _ => h.elim
 | _ :: _, _ :: _, [], _, _, h, _ => h.elim
 | t :: ts, v :: vs, d :: ds, ps, ht, h, hok => by
   obtain ⟨p, q, ⟨fuel, h1⟩, h2, _⟩ := h
   obtain ⟨ys, g1, g2, g3⟩ := Qg5 hb fuel t _ _ (ht t (by simp)) h1
   obtain ⟨xs, k1, k2⟩ := Qj1 hb (fun u hu => ht u (by simp [hu])) h2 (fun j u x hu hx => hok (j + 1) u x hu hx)
   obtain ⟨w, r, base, hw⟩ := hok 0 t v rfl rfl
   by_cases hagg : ∃ cs : Array Value, v = .agg cs /\ (match P.underlying t with | some (.struct _) | some (.array _ _) => True | _ => False)
   . obtain ⟨cs, rfl, hm⟩ := hagg
     refine ⟨.agg ys :: xs, ⟨fuel, _, _, ?_, k1, rfl⟩, .cons ?_ k2⟩
     . unfold Qq0
       split
       . exact ⟨ys, rfl, g1⟩
       . exact ⟨ys, rfl, g1⟩
       . rename_i q1 q2
         split at hm
         . rename_i fs hh; exact absurd hh (q1 fs)
         . rename_i k e hh; exact absurd hh (q2 k e)
         . exact hm.elim
     . simp only [Rel]
       exact ⟨cs.toList, rfl, g2⟩
   . have hne : ∀ fs, P.underlying t ≠ some (.struct fs) := by
      intro fs hu
      unfold Value.okWide at hw
      rw [hu] at hw
      obtain ⟨cs, rfl, _⟩ := hw
      exact hagg ⟨cs, rfl, by rw [hu]; trivial⟩
     have hne2 : ∀ k e, P.underlying t ≠ some (.array k e) := by
      intro k e hu
      unfold Value.okWide at hw
      rw [hu] at hw
      obtain ⟨cs, rfl, _⟩ := hw
      exact hagg ⟨cs, rfl, by rw [hu]; trivial⟩
     have hv : v.cells.toList = [v] := by
      cases v with
      | agg cs =>
        exfalso
        have hbt := Zln.1 hb t (ht t (by simp))
        cases hu : P.underlying t with
        | none => rw [hu] at hbt; cases hbt
        | some d => cases d <;> first
          | (rw [hu] at hbt; cases hbt; done)
          | exact hne _ hu
          | exact hne2 _ _ hu
          | (simp [Value.okWide, hu, Cell.okWide, Cell.ok] at hw; done)
      | _ => rfl
     rw [hv] at g2
     cases ys with
     | nil => exact absurd g2 (by simp [Qf])
     | cons y r =>
       obtain ⟨v', r', e, q1, q2⟩ := Qf.cons_iff.1 g2
       cases e
       cases r with
       | cons z r => exact absurd q2 (by intro h; have := h.length; simp at this)
       | nil =>
         refine ⟨y :: xs, ⟨fuel, _, _, ?_, k1, rfl⟩, .cons q1 k2⟩
         unfold Qq0
         split
         . rename_i fs hh; exact absurd hh (hne fs)
         . rename_i k e hh; exact absurd hh (hne2 k e)
         . exact g1
end
end Go.AM
end
section
namespace Go.AM
section
variable {P : Program} {pol : Pol}
theorem Sim.start (W : World) : Sim W.heap.size (fun _ _ => False) [] (Qfw P W) where
 dom := fun f s => rfl
 bsz := Zk0 _
 fb := fun _ _ h => h.elim
 fmod := fun _ _ h => h
 modsz := fun _ _ h => h.elim
 obj := fun f s o h => by simp [Qb] at h
 nreg := fun f s n x h => by cases h
 inj := fun f s o _ _ _ _ h => by simp [Qb] at h
theorem Qmh (ok : Okay P pol) {f : FuncId} {xs : List V} {args : Array Value} {W : World} {b : Bool} {H' : Heap} (h : Q5 P pol f xs [] = some (.ret (.bool b), H'))
 (hr : Qf (Qfw P W) xs args.toList) : Calls P f args W fun e W' => e = .returned (.bool b) /\ RowKit.Below W.heap.size W W' := by
 have := ((Qgb ok).1 f xs [] _ H' h).2 W.heap.size (fun _ _ => False) (Qfw P W) args.toList (Sim.start W) rfl hr
 refine this.mono ?_
 rintro e w' ⟨E', rfl, ⟨c, rfl, hc⟩, S', X, _⟩
 simp only [Rel] at hc
 subst hc
 exact ⟨rfl, X.rest.2.1, X.rest.1, X.rest.2.2, X.size, X.old⟩
theorem Qc7 {H : Type} {enc : TypeId × Value -> H} (hl : laidOutB P = true) {W W' : World} (hb : RowKit.Below W.heap.size W W') : ∀ {ts : List TypeId} {vs : List Value} {ds : List (DataW H)} {ps : List MemPlace},
 (∀ t ∈ ts, P.readableRec t = true /\ t < P.types.size) -> DataW.TrodAll enc P W 0 (fun _ => true) true ts vs ds ps -> (∀ x ∈ ps, x.block < W.heap.size) -> DataW.TrodAll enc P W' 0 (fun b => decide (b < W.heap.size)) true ts vs ds ps
 | [], [], [], _, _, h, _ => h
 | [], _ :: _, _, _, _, h, _ => h.elim
 | [], [], _ :: _, _, _, h, _ => h.elim
 | _ :: _, [], _, _, _, h, _ => h.elim
 | _ :: _, _ :: _, [], _, _, h, _ => h.elim
 | t :: ts, v :: vs, d :: ds, ps, ht, h, hlt => by
   obtain ⟨p, q, h1, h2, rfl⟩ := h
   exact ⟨p, q, RowKit.Below.trod hl (ht t (by simp)).1 (ht t (by simp)).2 h1 hb (fun x hx => hlt x (by simp [hx])), Qc7 hl hb (fun u hu => ht u (by simp [hu])) h2 (fun x hx => hlt x (by simp [hx])), rfl⟩
theorem Qb1 {H : Type} {enc : TypeId × Value -> H} {W : World} {base : Nat} {sp : Nat -> Bool} {hd : Bool} : ∀ {ts : List TypeId} {vs : List Value} {ds : List (DataW H)} {ps : List MemPlace},
 DataW.TrodAll enc P W base sp hd ts vs ds ps -> ds.length = ts.length
 | [], [], [], _, _ => rfl
 | [], _ :: _, _, _, h => h.elim
 | [], [], _ :: _, _, h => h.elim
 | _ :: _, [], _, _, h => h.elim
 | _ :: _, _ :: _, [], _, h => h.elim
 | t :: ts, v :: vs, d :: ds, ps, h => by
   obtain ⟨p, q, h1, h2, rfl⟩ := h
   simp [Qb1 h2]
theorem law_contract {H : Type} {enc : TypeId × Value -> H} (ok : Okay P pol) (hl : laidOutB P = true) {f : FuncId} {fn : Func} {ts book : List TypeId} {tb : TypeId} (hts : fn.params.toList = ts) (hrt : fn.resultTypes.toList = [tb])
 (htb : P.underlying tb = some .bool) (hbook : Qr2 P book = true) (hin : ts.all (fun t => book.contains t && P.readableRec t && decide (t < P.types.size)) = true)
 {s : ChangeSpec} (hv : s.vars = []) (hs : ∀ ds : List (DataW H), ds.length = ts.length -> (s.fn H ds).results = [.lit (.bool true)] /\ (s.fn H ds).args = ds /\ (s.fn H ds).vars = [])
 (hlaw : ∀ xs, Qe7 P ts xs -> ∃ H', Q5 P pol f xs [] = some (.ret (.bool true), H')) {apart fresh handsOn : Bool}
 {W : World} {base : Nat} {args : Array Value} {ds gs : List (DataW H)} {before : List MemPlace}
 (hval : ∀ (j : Nat) t v, fn.params[j]? = some t -> args[j]? = some v -> Value.okWide P W .any base t v)
 (hW : DataW.Whole enc P fn.params.toList s.vars apart W args.toList ds gs before) :
 Calls P f args W fun e W' => ∃ v, e = .returned v /\ s.post enc P fn apart fresh handsOn false W args v W' := by
 have hin' : ∀ t ∈ ts, t ∈ book /\ P.readableRec t = true /\ t < P.types.size := by
  intro t ht
  have := Zln.1 hin t ht
  simp only [Zlm, decide_eq_true_eq] at this
  exact ⟨by simpa using this.1.1, this.1.2, this.2⟩
 have hW' := hW
 have hlt := hW.lt
 obtain ⟨p, q, hA, hV, rfl, hfz, hnd⟩ := hW
 rw [hv] at hV
 have hg : gs = [] /\ q = [] := by
  cases gs with
  | nil => exact ⟨rfl, hV⟩
  | cons g gs => exact hV.elim
 obtain ⟨rfl, rfl⟩ := hg
 rw [hts] at hA
 obtain ⟨xs, h1, h2⟩ := Qj1 hbook (fun t ht => (hin' t ht).1) hA (fun j t v ht hv => ⟨W, .any, base, hval j t v (by rw [<- Zl9, hts]; exact ht) (by simpa using hv)⟩)
 obtain ⟨H', hc⟩ := hlaw xs h1
 refine (Qmh ok hc h2).mono ?_
 rintro e W' ⟨rfl, hb⟩
 refine ⟨_, rfl, ?_⟩
 obtain ⟨k1, k2, k3⟩ := hs ds (Qb1 hA)
 refine ⟨ds, [], p ++ [], [], p, [], hW', ?_, ?_, ?_, ?_, fun h => by cases h⟩
 . rw [Zma, k1, hrt]
   have hsz : fn.resultTypes.size = 1 := by rw [<- Zmb, hrt]; rfl
   rw [hsz]
   exact ChangeShapes.trodAll_mk1 (RowKit.shut_bool htb true)
 . rw [Zma, k2, hts]
   exact Qc7 hl hb (fun t ht => (hin' t ht).2) hA (fun x hx => hlt x (by simpa using hx))
 . rw [Zma, k3, hv]
   rfl
 . exact hb.frame _
end
end Go.AM
end
section
namespace Go.AM.BM
abbrev Prim := Nat -> Option Nat -> Get -> List V -> Option (V × Option (Nat × Nat × O))
abbrev Qbj := Nat -> Get -> List V -> Option (V × List (Nat × Nat × O))
structure Pol where
 prim : FuncId -> Option Prim
 loop : FuncId -> Nat -> Option (List V -> Heap -> Option (List V × Heap)) := fun _ _ => none
 /-- What they answer becomes cells that no longer change. -/
 fix : FuncId -> Bool := fun _ => false
 /-- Which of their arguments becomes cells that no longer change. -/
 fixA : FuncId -> Option Nat := fun _ => none
 /-- Functions answered at once, with any number of writes. -/
 prims : FuncId -> Option Qbj := fun _ => none
def eqbG : Option O -> Option O -> Bool
 | none, none => true
 | some a, some b => a.eqb b
 | _, _ => false
theorem Qvh : ∀ (a b : Option O), eqbG a b = true ↔ a = b := by
 intro a b
 cases a <;> cases b <;> simp [eqbG, O.eqb_iff]
def Qfj : Frame -> Nat
 | [] => 0
 | (k, _) :: r => max (k + 1) (Qfj r)
def Q8 : Heap -> Nat
 | [] => 0
 | f :: _ => Qfj f
def wrL : Heap -> List (Nat × Nat × O) -> Heap
 | H, [] => H
 | H, (f, s, o) :: r => wrL (hset H f s o) r
def atN (o : Oper) (nm : Nat) : Oper := { o with dst := some nm }
def Qfu (P : Program) (g : Get) (nm : Nat) (t t2 : TypeId) (s x : V) : Option (V × List (Nat × Nat × O)) :=
 match P.underlying t, s with
 | some (.slice e), .mS f sl 0 len none e' => (match sz P e, byt P e, zeroCells P e with
   | some n, some by_, some z => if z.length = n /\ e' = n /\ 0 < n then
     (match g f sl, g 0 nm, Y8 P g t2 n by_ z x with
     | some (.cells xs), none, some (new, m + 1) => if xs.length = len * n /\ Yw (len + (m + 1)) by_ /\ new.all V.scalar then
        some (.mS 0 nm 0 (len + (m + 1)) none n, [(f, sl, .dead), (0, nm, .cells (xs ++ new))]) else none
     | _, _, _ => none) else none
   | _, _, _ => none)
 | _, _ => none
def Qfs (P : Program) (g : Get) (t : TypeId) (s : V) : Option (V × List (Nat × Nat × O)) :=
 match P.underlying t with
 | some (.slice e) => (match sz P e, zeroCells P e, s with
   | some _, some _, .nS => some (.tuple [], [])
   | some n, some z, .mS f sl o len _ e' => if len = 0 then some (.tuple [], []) else (match g f sl with
     | some (.cells xs) => if e' = n /\ z.length = n /\ o + len * n <= xs.length /\ 0 < n then some (.tuple [], [(f, sl, .cells (splice xs o (zerosN z len)))]) else none
     | _ => none)
   | _, _, _ => none)
 | _ => none
def Qpe (P : Program) (g : Get) (t : TypeId) (x l h : V) : Option (V × List (Nat × Nat × O)) :=
 match P.underlying t, x, l, h with
 | some (.slice e), .mS f s o len none e', .int _ l, .int _ h => (match sz P e, g f s with
   | some n, some (.cells xs) => if e' = n /\ (len : Int) < h /\ 0 <= l /\ l < h /\ o + h.toNat * n <= xs.length /\ 0 < n then some (.mS f s (o + l.toNat * n) (h - l).toNat none n, []) else none
   | _, _ => none)
 | _, _, _, _ => none
def Jx (P : Program) (g : Get) (r : Operand -> V) (nm : Nat) (o : Op) : Option (V × List (Nat × Nat × O)) :=
 match o with
 | .slice t x (some l) (some h) none => Qpe P g t (r x) (r l) (r h)
 | .call c => (match c.callee, c.args.toList, c.argTypes.toList with
   | .builtin .append, [s, x], t :: t2 :: _ => Qfu P g nm t t2 (r s) (r x)
   | .builtin .clear, [s], [t] => Qfs P g t (r s)
   | _, _, _ => none)
 | _ => none
section
variable (P : Program) (pol : Pol) (C : Call)
def Qgt (g : Get) (v : V) : Option (V × Option (Nat × Nat × O)) := match v with
 | .mS f s o len cap esz => (match g f s with
   | some (.cells xs) => if o + len * esz <= xs.length /\ Qk xs = true then some (.iS ((xs.drop o).take (len * esz)) len (cap == some len), some (f, s, .dead)) else none
   | _ => none)
 | v => some (v, none)
def Qug (g : Get) (v : V) : Option (V × Option (Nat × Nat × O)) := match v with
 | .tuple (x :: r) => (Qgt g x).map fun y => (.tuple (y.1 :: r), y.2)
 | v => Qgt g v
def Qto (b : Bool) (x : Option (Rt × Heap)) : Option (Rt × Heap) := match b with
 | false => x
 | true => (match x with
   | some (.ret v, H) => (match Qug (Qb H) v with
     | some (v', w) => some (.ret v', wr H w)
     | none => none)
   | x => x)
def Qi4 (g : Get) (i : Option Nat) (args : List V) : Option (List V × Option (Nat × Nat × O)) := match i with
 | none => some (args, none)
 | some i => (match args[i]? with
   | some x => (match Qgt g x with
     | some (y, w) => some (args.set i y, w)
     | none => none)
   | none => none)
def callOp (nm : Nat) (f : FuncId) (args : List V) (H : Heap) : Option (Rt × Heap) :=
 match pol.prims f with
 | some g => (g nm (Qb H) args).map fun x => (.ret x.1, wrL H x.2)
 | none => (match pol.prim f with
   | some g => (g 0 (some nm) (Qb H) args).map fun x => (.ret x.1, wr H x.2)
   | none => (match Qi4 (Qb H) (pol.fixA f) args with
     | some (as, w) => Qto (pol.fix f) (C (some f) as (wr H w))
     | none => none))
def Ze (nm : Nat) (t : List V) (H : Heap) (o : Oper) : Option (Ex × List V × Heap) :=
 match Ql P (fun _ => true) 0 (Qb H) (rho t) (atN o nm) with
 | none => (match Jx P (Qb H) (rho t) nm o.op with
   | some (v, ws) => some (.normal, Qe t o.dst v, wrL H ws)
   | none => none)
 | some (.val v w) => some (.normal, Qe t o.dst v, wr H w)
 | some (.panic v) => some (.panic v, t, H)
 | some (.call f args) => (match callOp pol C (Q8 H) f args H with
   | some (.ret v, H') => some (.normal, Qe t o.dst v, H')
   | some (.pan v, H') => some (.panic v, t, H')
   | none => none)
 | some (.round f s args) => (match C none (.yield f s :: args) H with
   | some (.ret v, H') => some (.normal, Qe t o.dst v, H')
   | _ => none)
def Zg (ops : Array Oper) : List Oper -> List V -> Heap -> Option (Ex × List V × Heap)
 | [], t, H => some (.normal, t, H)
 | o :: r, t, H => match Zu ops t o with
   | none => none
   | some false => Zg ops r (Qe t o.dst nov) H
   | some true => (match Ze P pol C (Q8 H) t H o with
     | some (.normal, t, H) => Zg ops r t H
     | x => x)
def Zs (body : Kb) : Nat -> Kb
 | 0, _, _ => none
 | n + 1, t, H => match body t H with
   | some (.normal, t, H) => Zs body n t H
   | r => r
end
inductive FP where
 | quiet
 | ids (r w : List (Nat × Nat)) (fresh : Bool)
 | call (k : Nat -> Nat -> Bool)
 | all
def FP.indep : FP -> FP -> Bool
 | .quiet, _ | _, .quiet => true
 | .ids r w _, .ids r' w' _ => !Qcp w r' && !Qcp w w' && !Qcp w' r
 | .call k, .ids r w fresh => (w.isEmpty || fresh) && r.all fun x => k x.1 x.2
 | .ids r w _, .call k => w.isEmpty && r.all fun x => k x.1 x.2
 | _, _ => false
def Qd8 (ws : List (Nat × Nat × O)) : List (Nat × Nat) := ws.map fun x => (x.1, x.2.1)
def Bo (nm : Nat) (H : Heap) : List (Nat × Nat × O) -> Bool
 | [(f, s, _)] => Nat.beq f 0 && Nat.beq s nm && (Qb H 0 nm).isNone
 | _ => false
def Qhc (lim : Nat) (H H1 : Heap) : Nat -> Nat -> Bool := fun f s => Nat.ble lim (Q8 H) && eqbG (Qb H f s) (Qb H1 f s)
section
variable (P : Program) (pol : Pol) (C : Call)
def Z8 (lim nm : Nat) (t : List V) (H H1 : Heap) (o : Oper) : FP :=
 if Qa o.op then .quiet else if Qd o.op then .all else
 match Ql P (fun _ => true) 0 (Qb H) (rho t) (atN o nm) with
 | some (.val _ w) => .ids (Yz 0 (rho t) (atN o nm)) (Qd8 w.toList) (Bo nm H w.toList)
 | none => (match Jx P (Qb H) (rho t) nm o.op with
   | some (_, ws) => .ids (Yz 0 (rho t) (atN o nm)) (Qd8 ws) (Bo nm H ws)
   | none => .all)
 | some (.call _ _) => .call (Qhc lim H H1)
 | _ => .all
def Q7 (ops : Array Oper) (lim : Nat) : Nat -> List Oper -> List V -> Heap -> Option (List V × Heap × List FP)
 | _, [], t, H => some (t, H, [])
 | nm, o :: r, t, H => match Zu ops t o with
   | none => none
   | some false => (match Q7 ops lim (nm + 1) r (Qe t o.dst nov) H with
     | some (t', H', T) => some (t', H', .quiet :: T)
     | none => none)
   | some true => (match Ze P pol C nm t H o with
     | some (.normal, t1, H1) => (match Q7 ops lim (nm + 1) r t1 H1 with
       | some (t', H', T) => some (t', H', Z8 P lim nm t H H1 o :: T)
       | none => none)
     | _ => none)
end
def okT (bef : Array Nat) : List (FP × Nat) -> Bool
 | [] => true
 | (a, i) :: r => r.all (fun (b, j) => (bef.getD j 0).testBit i || a.indep b) && okT bef r
def FP.loud : FP -> Bool
 | .quiet => false
 | _ => true
def loud (T : List FP) : List (FP × Nat) := T.zipIdx.filter fun x => x.1.loud
def Bl (s : Nat) (t : List V) (H : Heap) : Out :=
 match Qb H 0 s with
 | some (.loop st pend _ _ _) => if st = 1 then none else
    (match pend with
    | none => some (.normal, t, hset H 0 s .dead)
    | some none => some (.ret, t, hset H 0 s .dead)
    | some (some i) => some (.exit i, t, hset H 0 s .dead))
 | _ => none
section
variable (P : Program) (pol : Pol) (C : Call) (L : Kb -> Kb) (fn : Nat)
mutual
def Za : Code -> Kb
 | .skip => fun t H => some (.normal, t, H)
 | .region _ ops draw => fun t H => if draw then (match Qb H 0 (Q8 H + ops.size) with
    | some _ => none
    | none => (match Q7 P pol C ops (Q8 H + ops.size) (Q8 H) ops.toList t (hset H 0 (Q8 H + ops.size) .dead) with
      | some (t', H', T) => if okT (Region.before ops) (loud T) then some (.normal, t', H') else none
      | none => none)) else Zg P pol C ops ops.toList t H
 | .seq a b => fun t H => (match Za a t H with
   | some (.normal, t, H) => Za b t H
   | r => r)
 | .cond c x y => fun t H => (match rho t c with
   | .bool b => if b then Za x t H else Za y t H
   | _ => none)
 | .block id b => fun t H => (match Za b t H with
   | some (.exit i, t, H) => if i = id then some (.normal, t, H) else some (.exit i, t, H)
   | r => r)
 | .loop b => fun t H => (match pol.loop fn (Zp b) with
   | some g => (g t H).map fun x => (.normal, x.1, x.2)
   | none => L (fun t H => match Zt b with
     | none => Za b t H
     | some x => (match Yt (Qb H) (rho t x) with
       | some [c] => Z0 b c.1 c.2 t H
       | _ => none)) t H)
 | .exit id => fun t H => some (.exit id, t, H)
 | .ret => fun t H => some (.ret, t, H)
 | .rangeFunc g _ a b => fun t H => (match rho t g with
   | .func (.func f) first cap => (match Qb H 0 (Q8 H) with
     | none => (match C (some f) (first ++ [.yield 0 (Q8 H)] ++ cap) (hset H 0 (Q8 H) (.loop 0 none fn (Zf a b) t)) with
       | some (.ret _, H2) => Bl (Q8 H) t H2
       | _ => none)
     | some _ => none)
   | _ => none)
 | _ => fun _ _ => none
def Z0 : Code -> V -> Option (Nat × Nat × O) -> Kb
 | .region _ ops _ => fun v w t H => (match ops.toList with
   | o :: r => Zg P pol C ops r (Qe t o.dst v) (wr H w)
   | [] => none)
 | .seq a b => fun v w t H => (match Z0 a v w t H with
   | some (.normal, t, H) => Za b t H
   | r => r)
 | _ => fun _ _ _ _ => none
end
def Xl (fo so : Nat) (e : Ex) (H : Heap) : Option (Rt × Heap) :=
 match Qb H fo so with
 | some (.loop _ _ fL rid t0) => (match e with
   | .normal => some (.ret (.bool true), hset H fo so (.loop 0 none fL rid t0))
   | .ret => some (.ret (.bool false), hset H fo so (.loop 2 (some none) fL rid t0))
   | .exit i => some (.ret (.bool false), hset H fo so (.loop 2 (some (some i)) fL rid t0))
   | .panic _ => none)
 | _ => none
def B6 (fo so : Nat) (args : List V) (H : Heap) : Option (Rt × Heap) :=
 match Qb H fo so with
 | some (.loop 0 _ fL rid t0) => (match Qv P fL rid with
   | some (ps, a, b) => if args.length = ps.size then
      (match Za P pol C L fL a (Xz t0 (ps.toList.zip args)) H with
      | some (.normal, t1, H1) => (match Qb H1 fo so with
        | some (.loop 0 pend fL' rid' t0') => (match Za P pol C L fL b t1 (hset H1 fo so (.loop 1 pend fL' rid' t0')) with
          | some (e, _, H2) => Xl fo so e H2
          | none => none)
        | _ => none)
      | _ => none) else none
   | none => none)
 | _ => none
def Qgs : Code -> Option (Array Oper × List Oper × Option Nat × Operand)
 | .region _ ops false => (match ops.toList.reverse with
   | o :: r => (match o.guard, o.op with
     | none, .defer c => (match c.callee, c.args.toList with
       | .value x, [] => some (ops, r.reverse, o.dst, x)
       | _, _ => none)
     | _, _ => none)
   | [] => none)
 | _ => none
def Qhp : Code -> Bool
 | .seq a b => (Qgs a).isSome || Qhp b
 | _ => false
def noD : Out -> Option (Ex × List V × Heap × List V)
 | some (e, t, H) => some (e, t, H, [])
 | none => none
def Qcz (fn : Nat) : Code -> List V -> Heap -> Option (Ex × List V × Heap × List V)
 | .seq a b, t, H => (match Qgs a with
   | some (ops, l, d, x) => (match Zg P pol C ops l t H with
     | some (.normal, t1, H1) => (match rho t1 x with
       | .func f p q => (match Qcz fn b (Qe t1 d nov) H1 with
         | some (ex, t2, H2, ds) => some (ex, t2, H2, ds ++ [.func f p q])
         | none => none)
       | _ => none)
     | _ => none)
   | none => if (Q6 a).isEmpty then (match Za P pol C L fn a t H with
      | some (.normal, t1, H1) => Qcz fn b t1 H1
      | some (e, t1, H1) => some (e, t1, H1, [])
      | none => none)
     else noD (Za P pol C L fn (.seq a b) t H))
 | c, t, H => noD (Za P pol C L fn c t H)
def Qjn (g : FuncId) : Bool := match P.funcs[g]? with
 | some F => (match F.body with
   | some c => (Q6 c).isEmpty && !Qhp c
   | none => false)
 | none => false
def Qcj : List V -> Heap -> Option Heap
 | [], H => some H
 | .func (.func g) first cap :: ds, H => if Qjn P g then (match C (some g) (first ++ cap) H with
   | some (.ret _, H') => Qcj ds H'
   | _ => none) else none
 | _, _ => none
def Qtj (f : FuncId) (F : Func) (c : Code) (args : List V) (H : Heap) : Option (Rt × Heap) :=
 match Qcz P pol C L f c (args ++ List.replicate (F.ntmps - args.length) .bad) H with
 | some (.normal, t, H', ds) | some (.ret, t, H', ds) => (match Qcj P C ds H' with
   | some H2 => (match Qa4 P F t H2 with
     | some v => some (.ret v, H2)
     | none => none)
   | none => none)
 | _ => none
def Qaj (f : FuncId) (args : List V) (H : Heap) : Option (Rt × Heap) :=
 match P.funcs[f]? with
 | some F => (match F.body with
   | some c => if Qhp c then Qtj P pol C L f F c args H else (match Za P pol C L f c (args ++ List.replicate (F.ntmps - args.length) .bad) H with
     | some (.normal, t, H') | some (.ret, t, H') => (match Qa4 P F t H' with
       | some v => some (.ret v, H')
       | none => none)
     | some (.panic v, _, H') => some (.pan v, H')
     | _ => none)
   | none => none)
 | none => none
def Qcg (f : Option FuncId) (args : List V) (H : Heap) : Option (Rt × Heap) :=
 match f with
 | some f => Qaj P pol C L f args H
 | none => (match args with
   | .yield fo so :: rest => B6 P pol C L fo so rest H
   | _ => none)
end
def callN (P : Program) (pol : Pol) : Nat -> Call
 | 0 => fun _ _ _ => none
 | n + 1 => Qcg P pol (callN P pol n) (fun b => Zs b n)
end Go.AM.BM
end
