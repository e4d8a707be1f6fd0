/- The abstract machine, part 5: building, slicing, indexing, comparing: as the model does. -/
import Derived.Test.YtebbgmeomkjibaaAm4
set_option linter.unusedSimpArgs false
set_option linter.unusedVariables false
namespace Go.AM
variable {P : Program} {E : Env}

theorem fold_splice (off : Nat) : ∀ (us vs : List Value) (k : Nat), off + k + us.length ≤ vs.length →
    (us.zipIdx k).foldl (fun (cs : Array Value) (x : Value × Nat) => cs.setIfInBounds (off + x.2) x.1) ⟨vs⟩ = ⟨vs.take (off + k) ++ us ++ vs.drop (off + k + us.length)⟩
  | [], vs, k, _ => by simp
  | u :: us, vs, k, h => by
    simp only [List.zipIdx_cons, List.foldl_cons]
    have e : (⟨vs⟩ : Array Value).setIfInBounds (off + k) u = ⟨vs.set (off + k) u⟩ := by simp
    rw [e, fold_splice off us (vs.set (off + k) u) (k + 1) (by simp at h ⊢; omega)]
    congr 1
    have := list_seg_step vs (off + k) u us (by simp at h; omega)
    simpa [Nat.add_assoc, Nat.add_comm 1] using this

theorem fold_splice' (off : Nat) (us vs : List Value) (h : off + us.length ≤ vs.length) :
    (⟨us⟩ : Array Value).zipIdx.foldl (fun (cs : Array Value) (x : Value × Nat) => cs.setIfInBounds (off + x.2) x.1) ⟨vs⟩ = ⟨splice vs off us⟩ := by
  rw [← Array.foldl_toList]
  have := fold_splice off us vs 0 (by simpa using h)
  simpa [splice] using this

theorem fillV_sound (place : Nat → Option (Nat × Nat)) : ∀ (parts : List (Nat × V)) (xs : List V) (vs : List Value) (cparts : List (Nat × Value)) (ys : List V),
    RelL E xs vs → xs.all V.scalar = true → parts.length = cparts.length → (∀ (i : Nat) (p : Nat × V) (c : Nat × Value), parts[i]? = some p → cparts[i]? = some c → p.1 = c.1 ∧ Rel E p.2 c.2) → fillV place xs parts = some ys →
    ∃ us, Instr.fill place ⟨vs⟩ cparts = some ⟨us⟩ ∧ RelL E ys us ∧ ys.all V.scalar = true
  | [], xs, vs, cparts, ys, hr, ha, hl, _, h => by
    cases cparts with
    | cons => simp at hl
    | nil => cases h; exact ⟨vs, rfl, hr, ha⟩
  | (i, v) :: parts, xs, vs, cparts, ys, hr, ha, hl, hp, h => by
    cases cparts with
    | nil => simp at hl
    | cons c cparts =>
      obtain ⟨j, cv⟩ := c
      obtain ⟨h1, h2⟩ := hp 0 _ _ rfl rfl
      simp only at h1 h2
      subst h1
      simp only [fillV] at h
      split at h
      · rename_i off size cs hpl hcs
        split at h
        · rename_i hle
          obtain ⟨us, hus, hrel, hsc⟩ := h2.cells hcs
          have hlen : us.length = size := by rw [← hrel.length]; exact hle.1
          have hxl := hr.length
          have hle2 : off + us.length ≤ vs.length := by rw [← hrel.length, ← hxl]; exact hle.2
          obtain ⟨ws, hws, hr', ha'⟩ := fillV_sound place parts (splice xs off cs) (splice vs off us) cparts ys (hr.splice hrel off) (splice_all off ha hsc) (by simpa using hl)
            (fun i p c a b => hp (i + 1) p c (by simpa using a) (by simpa using b)) h
          refine ⟨ws, ?_, hr', ha'⟩
          simp only [Instr.fill, hpl, hus]
          have hfold := fold_splice' off us vs hle2
          rw [if_neg]
          · rw [hfold]; exact hws
          · simp [hlen]; omega
        · cases h
      · cases h

theorem places_sound (w : World) : ∀ (fs : List Field) (ps : List (Nat × Nat)), places P fs = some ps →
    (fs.mapM (m := Sem) fun f => do pure (f.offset, ← sizeOf f.type)).run P w = .ok ps w
  | [], ps, h => by cases h; rfl
  | f :: fs, ps, h => by
    simp only [places] at h
    split at h
    · rename_i n r h1 h2
      cases h
      simp only [List.mapM_cons, Sem.run_bind, run_sz h1, Result.andThen_ok, Sem.run_pure, places_sound w fs r h2]
    · cases h

theorem zeroCells_sound {t : TypeId} {z : List V} (h : zeroCells P t = some z) (w : World) :
    ∃ zv vs, (zeroValue t).run P w = .ok zv w ∧ zv.cells = ⟨vs⟩ ∧ (∀ E : Env, RelL E z vs) ∧ z.all V.scalar = true := by
  unfold zeroCells at h
  cases hz : zer P t with
  | none => rw [hz] at h; cases h
  | some zv =>
    rw [hz] at h
    simp only [Option.bind_some] at h
    have key : ∀ E : Env, ∃ vs, zv.cells = ⟨vs⟩ ∧ RelL E z vs ∧ z.all V.scalar = true := fun E => (rel_ofConst E zv).cells h
    refine ⟨zv, zv.cells.toList, run_zer hz w, by simp, fun E => ?_, ?_⟩
    · obtain ⟨vs, h1, h2, _⟩ := key E
      rw [h1]; exact h2
    · obtain ⟨vs, _, _, h3⟩ := key { w := w, mu := fun _ _ => none, reg := fun _ _ => none, mod := fun _ _ => False }
      exact h3

theorem buildV_sound {t : TypeId} {parts : List (Nat × V)} {x : V} (w : World) (h : buildV P t parts = some x) (cparts : Array (Nat × Value)) (hl : parts.length = cparts.size)
    (hp : ∀ (i : Nat) (p : Nat × V) (c : Nat × Value), parts[i]? = some p → cparts[i]? = some c → p.1 = c.1 ∧ Rel E p.2 c.2) :
    ∃ v, (Instr.build t cparts).run P w = .ok v w ∧ Rel E x v := by
  unfold buildV at h
  have hp' : ∀ (i : Nat) (p : Nat × V) (c : Nat × Value), parts[i]? = some p → cparts.toList[i]? = some c → p.1 = c.1 ∧ Rel E p.2 c.2 :=
    fun i p c a b => hp i p c a (by simpa using b)
  split at h
  · rename_i z fs hz hu
    obtain ⟨zv, vs, h1, h2, h3, h4⟩ := zeroCells_sound hz w
    split at h
    · rename_i ps hps
      cases hf : fillV (fun i => ps[i]?) z parts with
      | none => rw [hf] at h; cases h
      | some ys =>
        rw [hf] at h; cases h
        obtain ⟨us, hus, hr, _⟩ := fillV_sound (fun i => ps[i]?) parts z vs cparts.toList ys (h3 E) h4 (by simpa using hl) hp' hf
        refine ⟨.agg ⟨us⟩, ?_, by simp only [Rel]; exact ⟨us, rfl, hr⟩⟩
        have hm : (fs.mapM (m := Sem) fun f => do pure (f.offset, ← sizeOf f.type)).run P w = .ok ⟨ps⟩ w := by
          rw [Array.mapM_eq_mapM_toList]
          simp only [Sem.run_map, places_sound w fs.toList ps hps, Result.andThen_ok]
        have hus' : Instr.fill (fun i => (⟨ps⟩ : Array (Nat × Nat))[i]?) ⟨vs⟩ cparts.toList = some ⟨us⟩ := by simpa using hus
        simp only [Instr.build, Sem.run_bind, h1, Result.andThen_ok, run_und hu, hm, h2, hus', Sem.run_pure]
    · cases h
  · rename_i z n e hz hu
    obtain ⟨zv, vs, h1, h2, h3, h4⟩ := zeroCells_sound hz w
    split at h
    · rename_i k hk
      cases hf : fillV (fun i => some (i * k, k)) z parts with
      | none => rw [hf] at h; cases h
      | some ys =>
        rw [hf] at h; cases h
        obtain ⟨us, hus, hr, _⟩ := fillV_sound (fun i => some (i * k, k)) parts z vs cparts.toList ys (h3 E) h4 (by simpa using hl) hp' hf
        refine ⟨.agg ⟨us⟩, ?_, by simp only [Rel]; exact ⟨us, rfl, hr⟩⟩
        simp only [Instr.build, Sem.run_bind, h1, Result.andThen_ok, run_und hu, run_sz hk, h2, hus, Sem.run_pure]
    · cases h
  · cases h

theorem RelL.zerosN {xs : List V} {vs : List Value} (h : RelL E xs vs) : ∀ n, RelL E (zerosN xs n) (zerosN vs n)
  | 0 => .nil
  | n + 1 => h.append (RelL.zerosN h n)

theorem zerosN_length {α : Type} (z : List α) : ∀ n, (zerosN z n).length = n * z.length
  | 0 => by simp [zerosN]
  | n + 1 => by simp [zerosN, zerosN_length z n, Nat.add_mul, Nat.add_comm]

theorem zerosN_all {z : List V} (h : z.all V.scalar = true) : ∀ n, (zerosN z n).all V.scalar = true
  | 0 => rfl
  | n + 1 => by rw [zerosN, List.all_append, h, zerosN_all h n]; rfl

theorem range_zeros (zs : List Value) : ∀ n, ((Array.range (n * zs.length)).map fun i => (⟨zs⟩ : Array Value)[i % (⟨zs⟩ : Array Value).size]!) = ⟨zerosN zs n⟩ := by
  intro n
  apply Array.ext'
  simp only [Array.toList_map, Array.toList_range]
  induction n with
  | zero => simp [AM.zerosN]
  | succ n ih =>
    rw [show (n + 1) * zs.length = zs.length + n * zs.length by rw [Nat.add_mul, Nat.one_mul, Nat.add_comm], List.range_add, List.map_append, AM.zerosN]
    congr 1
    · apply List.ext_getElem?
      intro i
      simp only [List.getElem?_map]
      by_cases hi : i < zs.length
      · simp [hi, Nat.mod_eq_of_lt hi]
      · simp [hi]
    · rw [List.map_map, ← ih]
      apply List.map_congr_left
      intro i _
      simp

theorem cuts_sound {len cap : Nat} {lo hi mx : Option Int} {l h m : Nat} (hc : cuts len cap lo hi mx = some (l, h, m)) :
    (lo.getD 0 = l) ∧ (hi.getD len = h) ∧ (mx.getD cap = m) ∧ l ≤ h ∧ h ≤ m ∧ m ≤ cap ∧ (mx.isSome = true → hi.isSome = true) := by
  unfold cuts at hc
  split at hc
  · rename_i hh
    simp only [Option.some.injEq, Prod.mk.injEq] at hc
    obtain ⟨rfl, rfl, rfl⟩ := hc
    obtain ⟨a, b, c, d, e, f, g⟩ := hh
    refine ⟨?_, ?_, ?_, ?_, ?_, ?_, g⟩ <;> omega
  · cases hc

/-- The optional bounds of a slice expression. -/
def RelO (E : Env) : Option V → Option Value → Prop
  | none, none => True
  | some x, some v => Rel E x v
  | _, _ => False

theorem optInt_sound {x : Option V} {v : Option Value} {i : Option Int} (h : optInt x = some i) (hr : RelO E x v) :
    (i = none ∧ v = none) ∨ ∃ k n, i = some n ∧ v = some (.int k n) := by
  unfold optInt at h
  split at h
  · cases h; cases v with | none => exact .inl ⟨rfl, rfl⟩ | some => exact hr.elim
  · cases h
    cases v with
    | none => exact hr.elim
    | some v => simp only [RelO, Rel] at hr; subst hr; exact .inr ⟨_, _, rfl, rfl⟩
  · cases h

theorem run_sliceBound {k : IntKind} {n : Int} {y m : Nat} {code : BoundsCode} (w : World) (h : n = m) (hy : m ≤ y) :
    (Instr.sliceBound (.int k n) y code).run P w = .ok m w := by
  subst h
  have : (0 : Int) ≤ (m : Int) ∧ (m : Int) ≤ (y : Int) := by omega
  simp [Instr.sliceBound, asIntOf, this]

theorem run_sliceBounds {len cap : Nat} {lo hi mx : Option Int} {l h m : Nat} {vlo vhi vmx : Option Value} (w : World) (b : Bool) (hc : cuts len cap lo hi mx = some (l, h, m))
    (h1 : (lo = none ∧ vlo = none) ∨ ∃ k n, lo = some n ∧ vlo = some (.int k n)) (h2 : (hi = none ∧ vhi = none) ∨ ∃ k n, hi = some n ∧ vhi = some (.int k n))
    (h3 : (mx = none ∧ vmx = none) ∨ ∃ k n, mx = some n ∧ vmx = some (.int k n)) :
    (Instr.sliceBounds b len cap vlo vhi vmx).run P w = .ok (l, h, m) w := by
  obtain ⟨e1, e2, e3, g1, g2, g3, g4⟩ := cuts_sound hc
  rcases h3 with ⟨rfl, rfl⟩ | ⟨k3, n3, rfl, rfl⟩
  · simp only [Option.getD_none, Int.natCast_inj] at e3
    subst e3
    rcases h2 with ⟨rfl, rfl⟩ | ⟨k2, n2, rfl, rfl⟩
    · simp only [Option.getD_none, Int.natCast_inj] at e2
      subst e2
      rcases h1 with ⟨rfl, rfl⟩ | ⟨k1, n1, rfl, rfl⟩
      · simp only [Option.getD_none] at e1
        obtain rfl : l = 0 := by omega
        simp [Instr.sliceBounds]
      · simp only [Option.getD_some] at e1
        simp [Instr.sliceBounds, run_sliceBound w e1 g1]
    · simp only [Option.getD_some] at e2
      rcases h1 with ⟨rfl, rfl⟩ | ⟨k1, n1, rfl, rfl⟩
      · simp only [Option.getD_none] at e1
        obtain rfl : l = 0 := by omega
        simp [Instr.sliceBounds, run_sliceBound w e2 g2]
      · simp only [Option.getD_some] at e1
        simp [Instr.sliceBounds, run_sliceBound w e2 g2, run_sliceBound w e1 g1]
  · simp only [Option.getD_some] at e3
    rcases h2 with ⟨rfl, rfl⟩ | ⟨k2, n2, rfl, rfl⟩
    · simp at g4
    · simp only [Option.getD_some] at e2
      rcases h1 with ⟨rfl, rfl⟩ | ⟨k1, n1, rfl, rfl⟩
      · simp only [Option.getD_none] at e1
        obtain rfl : l = 0 := by omega
        simp [Instr.sliceBounds, run_sliceBound w e3 g3, run_sliceBound w e2 g2]
      · simp only [Option.getD_some] at e1
        simp [Instr.sliceBounds, run_sliceBound w e3 g3, run_sliceBound w e2 g2, run_sliceBound w e1 g1]

end Go.AM
