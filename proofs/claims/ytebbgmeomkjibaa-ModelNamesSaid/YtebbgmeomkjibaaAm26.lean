/- The abstract machine, part 26: a law that the machine answers with true is a row that holds. -/
import Derived.Test.YtebbgmeomkjibaaAm25
set_option linter.unusedSimpArgs false
set_option linter.unusedVariables false
namespace Go.AM

section
variable {P : Program} {pol : Pol}

theorem Sim.start (W : World) : Sim W.heap.size (fun _ _ => False) [] (open_ W) where
  dom := fun f s => rfl
  bsz := Nat.le_refl _
  fb := fun _ _ h => h.elim
  fmod := fun _ _ h => h
  modsz := fun _ _ h => h.elim
  obj := fun f s o h => by simp [hget] at h
  nreg := fun f s n x h => by cases h
  inj := fun f s o _ _ _ _ h => by simp [hget] at h

/-- What the machine answers, the program answers; of the old memory nothing has changed. -/
theorem calls_of_callW (ok : Okay P pol) {f : FuncId} {xs : List V} {args : Array Value} {W : World} {b : Bool} {H' : Heap} (h : callW P pol f xs [] = some (.ret (.bool b), H'))
    (hr : RelL (open_ W) xs args.toList) : Calls P f args W fun e W' => e = .returned (.bool b) ∧ RowKit.Below W.heap.size W W' := by
  have := (callW_sound ok f xs [] _ H' h).2 W.heap.size (fun _ _ => False) (open_ W) args.toList (Sim.start W) hr
  refine this.mono ?_
  rintro e w' ⟨E', rfl, ⟨c, rfl, hc⟩, S', X, _⟩
  simp only [Rel] at hc
  subst hc
  exact ⟨rfl, X.rest.2.1, X.rest.1, X.rest.2.2, X.size, X.old⟩

theorem below_trodAll {H : Type} {enc : TypeId × Value → H} (hl : laidOutB P = true) {W W' : World} (hb : RowKit.Below W.heap.size W W') : ∀ {ts : List TypeId} {vs : List Value} {ds : List (DataW H)} {ps : List MemPlace},
    (∀ t ∈ ts, P.readableRec t = true ∧ t < P.types.size) → DataW.TrodAll enc P W 0 (fun _ => true) true ts vs ds ps → (∀ x ∈ ps, x.block < W.heap.size) → DataW.TrodAll enc P W' 0 (fun b => decide (b < W.heap.size)) true ts vs ds ps
  | [], [], [], _, _, h, _ => h
  | [], _ :: _, _, _, _, h, _ => h.elim
  | [], [], _ :: _, _, _, h, _ => h.elim
  | _ :: _, [], _, _, _, h, _ => h.elim
  | _ :: _, _ :: _, [], _, _, h, _ => h.elim
  | t :: ts, v :: vs, d :: ds, ps, ht, h, hlt => by
    obtain ⟨p, q, h1, h2, rfl⟩ := h
    exact ⟨p, q, RowKit.Below.trod hl (ht t (by simp)).1 (ht t (by simp)).2 h1 hb (fun x hx => hlt x (by simp [hx])), below_trodAll hl hb (fun u hu => ht u (by simp [hu])) h2 (fun x hx => hlt x (by simp [hx])), rfl⟩

theorem trodAll_length {H : Type} {enc : TypeId × Value → H} {W : World} {base : Nat} {sp : Nat → Bool} {hd : Bool} : ∀ {ts : List TypeId} {vs : List Value} {ds : List (DataW H)} {ps : List MemPlace},
    DataW.TrodAll enc P W base sp hd ts vs ds ps → ds.length = ts.length
  | [], [], [], _, _ => rfl
  | [], _ :: _, _, _, h => h.elim
  | [], [], _ :: _, _, h => h.elim
  | _ :: _, [], _, _, h => h.elim
  | _ :: _, _ :: _, [], _, h => h.elim
  | t :: ts, v :: vs, d :: ds, ps, h => by
    obtain ⟨p, q, h1, h2, rfl⟩ := h
    simp [trodAll_length h2]

/-- The contract of a row of the template: true, whatever the input; each argument reads as it read. -/
theorem law_contract {H : Type} {enc : TypeId × Value → H} (ok : Okay P pol) (hl : laidOutB P = true) {f : FuncId} {fn : Func} {ts book : List TypeId} {tb : TypeId} (hts : fn.params.toList = ts) (hrt : fn.resultTypes.toList = [tb])
    (htb : P.underlying tb = some .bool) (hbook : bookOk P book = true) (hin : ts.all (fun t => book.contains t && P.readableRec t && decide (t < P.types.size)) = true)
    {s : ChangeSpec} (hv : s.vars = []) (hs : ∀ ds : List (DataW H), ds.length = ts.length → (s.fn H ds).results = [.lit (.bool true)] ∧ (s.fn H ds).args = ds ∧ (s.fn H ds).vars = [])
    (hlaw : ∀ xs, ArgsRead P ts xs → ∃ H', callW P pol f xs [] = some (.ret (.bool true), H')) {apart fresh handsOn : Bool}
    {W : World} {base : Nat} {args : Array Value} {ds gs : List (DataW H)} {before : List MemPlace}
    (hval : ∀ (j : Nat) t v, fn.params[j]? = some t → args[j]? = some v → Value.okWide P W .any base t v)
    (hW : DataW.Whole enc P fn.params.toList s.vars apart W args.toList ds gs before) :
    Calls P f args W fun e W' => ∃ v, e = .returned v ∧ s.post enc P fn apart fresh handsOn false W args v W' := by
  have hin' : ∀ t ∈ ts, t ∈ book ∧ P.readableRec t = true ∧ t < P.types.size := by
    intro t ht
    have := List.all_eq_true.1 hin t ht
    simp only [Bool.and_eq_true, decide_eq_true_eq] at this
    exact ⟨by simpa using this.1.1, this.1.2, this.2⟩
  have hW' := hW
  have hlt := hW.lt
  obtain ⟨p, q, hA, hV, rfl, hfz, hnd⟩ := hW
  rw [hv] at hV
  have hg : gs = [] ∧ q = [] := by
    cases gs with
    | nil => exact ⟨rfl, hV⟩
    | cons g gs => exact hV.elim
  obtain ⟨rfl, rfl⟩ := hg
  rw [hts] at hA
  obtain ⟨xs, h1, h2⟩ := args_read hbook (fun t ht => (hin' t ht).1) hA (fun j t v ht hv => ⟨W, .any, base, hval j t v (by rw [← Array.getElem?_toList, hts]; exact ht) (by simpa using hv)⟩)
  obtain ⟨H', hc⟩ := hlaw xs h1
  refine (calls_of_callW ok hc h2).mono ?_
  rintro e W' ⟨rfl, hb⟩
  refine ⟨_, rfl, ?_⟩
  obtain ⟨k1, k2, k3⟩ := hs ds (trodAll_length hA)
  refine ⟨ds, [], p ++ [], [], p, [], hW', ?_, ?_, ?_, ?_, fun h => by cases h⟩
  · rw [List.append_nil, k1, hrt]
    have hsz : fn.resultTypes.size = 1 := by rw [← Array.length_toList, hrt]; rfl
    rw [hsz]
    exact ChangeShapes.trodAll_mk1 (RowKit.shut_bool htb true)
  · rw [List.append_nil, k2, hts]
    exact below_trodAll hl hb (fun t ht => (hin' t ht).2) hA (fun x hx => hlt x (by simpa using hx))
  · rw [List.append_nil, k3, hv]
    rfl
  · exact hb.frame _

end
end Go.AM
