/- This file holds in one the texts Am43; each says at its head what it proves. -/
import Derived.Test.YtebbgmeomkjibaaG26
set_option linter.unusedSimpArgs false
set_option linter.unusedVariables false
section
/- The abstract machine, part 43: what one operation can't reach. -/
namespace Go.AM

mutual
def V.nf (p : Nat → Nat → Bool) : V → Bool
  | .ptr f s _ | .mslice f s _ _ _ _ | .map f s => !p f s
  | .gslice f s cs _ _ => !p f s && pureL cs && nfL p cs
  | .iptr cs _ | .islice cs _ _ => pureL cs && nfL p cs
  | .func _ a b => nfL p a && nfL p b
  | .face _ v => v.nf p
  | .agg xs | .tuple xs => nfL p xs
  | _ => true
def nfL (p : Nat → Nat → Bool) : List V → Bool
  | [] => true
  | x :: xs => x.nf p && nfL p xs
end
def nfM (p : Nat → Nat → Bool) : List (V × V) → Bool
  | [] => true
  | (k, x) :: r => k.nf p && x.nf p && nfM p r
def O.nf (p : Nat → Nat → Bool) : O → Bool
  | .cells xs => nfL p xs
  | .map es _ _ => nfM p es
  | .iter (some m) _ _ _ => !p m.1 m.2
  | _ => true
mutual
theorem nf_refs {p : Nat → Nat → Bool} : ∀ v : V, v.nf p = true → v.refs p = false
  | .ptr f s _, h | .mslice f s _ _ _ _, h | .map f s, h => by simpa [V.nf, V.refs] using h
  | .gslice f s _ _ _, h => by simp only [V.nf, Bool.and_eq_true, Bool.not_eq_true'] at h; exact h.1.1
  | .func _ a b, h => by simp only [V.nf, Bool.and_eq_true] at h; simp [V.refs, nfL_refs a h.1, nfL_refs b h.2]
  | .face _ v, h => by simp only [V.nf] at h; simp [V.refs, nf_refs v h]
  | .agg xs, h | .tuple xs, h => by simp only [V.nf] at h; simp [V.refs, nfL_refs xs h]
  | .bad, _ | .bool _, _ | .int _ _, _ | .str _, _ | .nilptr, _ | .iptr _ _, _ | .nilslice, _ | .islice _ _ _, _ | .nilmap, _ | .nilfunc, _ | .nilface, _ | .byte, _ => rfl
theorem nfL_refs {p : Nat → Nat → Bool} : ∀ l : List V, nfL p l = true → refsL p l = false
  | [], _ => rfl
  | x :: xs, h => by simp only [nfL, Bool.and_eq_true] at h; simp [refsL, nf_refs x h.1, nfL_refs xs h.2]
end
mutual
theorem nf_pure {p q : Nat → Nat → Bool} : ∀ v : V, v.pure = true → v.nf p = true → v.nf q = true
  | .ptr _ _ _, h, _ | .mslice _ _ _ _ _ _, h, _ | .map _ _, h, _ | .gslice _ _ _ _ _, h, _ => by simp [V.pure] at h
  | .iptr cs _, _, h | .islice cs _ _, _, h => by
    simp only [V.nf, Bool.and_eq_true] at h ⊢
    exact ⟨h.1, nfL_pure cs h.1 h.2⟩
  | .func _ a b, h, h2 => by
    simp only [V.pure, V.nf, Bool.and_eq_true] at h h2 ⊢
    exact ⟨nfL_pure a h.1 h2.1, nfL_pure b h.2 h2.2⟩
  | .face _ v, h, h2 => by simp only [V.pure, V.nf] at h h2 ⊢; exact nf_pure v h h2
  | .agg xs, h, h2 | .tuple xs, h, h2 => by simp only [V.pure, V.nf] at h h2 ⊢; exact nfL_pure xs h h2
  | .bad, _, _ | .bool _, _, _ | .int _ _, _, _ | .str _, _, _ | .nilptr, _, _ | .nilslice, _, _ | .nilmap, _, _ | .nilfunc, _, _ | .nilface, _, _ | .byte, _, _ => rfl
theorem nfL_pure {p q : Nat → Nat → Bool} : ∀ l : List V, pureL l = true → nfL p l = true → nfL q l = true
  | [], _, _ => rfl
  | x :: xs, h, h2 => by
    simp only [pureL, nfL, Bool.and_eq_true] at h h2 ⊢
    exact ⟨nf_pure x h.1 h2.1, nfL_pure xs h.2 h2.2⟩
end
theorem pureL_iff {xs : List V} : pureL xs = true ↔ ∀ x ∈ xs, x.pure = true := by
  induction xs with
  | nil => simp [pureL]
  | cons y ys ih => simp [pureL, ih]
theorem pl_take {xs : List V} (n : Nat) (h : pureL xs = true) : pureL (xs.take n) = true := by
  rw [pureL_iff] at *; intro x hx; exact h x (List.mem_of_mem_take hx)
theorem pl_drop {xs : List V} (n : Nat) (h : pureL xs = true) : pureL (xs.drop n) = true := by
  rw [pureL_iff] at *; intro x hx; exact h x (List.mem_of_mem_drop hx)
theorem pl_app {xs ys : List V} (h : pureL xs = true) (h2 : pureL ys = true) : pureL (xs ++ ys) = true := by
  rw [pureL_iff] at *; intro x hx; rcases List.mem_append.1 hx with q | q
  · exact h x q
  · exact h2 x q

section
variable {p : Nat → Nat → Bool} {P : Program}

theorem nl_get {i : Nat} {x : V} : ∀ {xs : List V} , nfL p xs = true → xs[i]? = some x → x.nf p = true
  | [], _, h => by simp at h
  | y :: ys, h, hx => by
    simp only [nfL, Bool.and_eq_true] at h
    cases i with
    | zero => simp at hx; subst hx; exact h.1
    | succ i => exact nl_get (xs := ys) (i := i) h.2 (by simpa using hx)
theorem nl_iff {xs : List V} : nfL p xs = true ↔ ∀ x ∈ xs, x.nf p = true := by
  induction xs with
  | nil => simp [nfL]
  | cons y ys ih => simp [nfL, ih]
theorem nl_app {xs ys : List V} (h : nfL p xs = true) (h2 : nfL p ys = true) : nfL p (xs ++ ys) = true := by
  rw [nl_iff] at *; intro x hx
  rcases List.mem_append.1 hx with q | q
  · exact h x q
  · exact h2 x q
theorem nl_take {xs : List V} (n : Nat) (h : nfL p xs = true) : nfL p (xs.take n) = true := by
  rw [nl_iff] at *; intro x hx; exact h x (List.mem_of_mem_take hx)
theorem nl_drop {xs : List V} (n : Nat) (h : nfL p xs = true) : nfL p (xs.drop n) = true := by
  rw [nl_iff] at *; intro x hx; exact h x (List.mem_of_mem_drop hx)
theorem nl_set {xs : List V} (n : Nat) {v : V} (h : nfL p xs = true) (hv : v.nf p = true) : nfL p (xs.set n v) = true := by
  rw [nl_iff] at *; intro x hx; rcases List.mem_or_eq_of_mem_set hx with q | q
  · exact h x q
  · subst q; exact hv
theorem nl_splice {xs cs : List V} (o : Nat) (h : nfL p xs = true) (h2 : nfL p cs = true) : nfL p (splice xs o cs) = true :=
  nl_app (nl_app (nl_take _ h) h2) (nl_drop _ h)
theorem nl_zeros {z : List V} (h : nfL p z = true) : ∀ n, nfL p (zerosN z n) = true
  | 0 => rfl
  | n + 1 => nl_app h (nl_zeros h n)
theorem nl_rep (n : Nat) {v : V} (h : v.nf p = true) : nfL p (List.replicate n v) = true := by
  rw [nl_iff]; intro x hx; rw [List.eq_of_mem_replicate hx]; exact h
theorem nm_iff {es : List (V × V)} : nfM p es = true ↔ ∀ e ∈ es, e.1.nf p = true ∧ e.2.nf p = true := by
  induction es with
  | nil => simp [nfM]
  | cons y ys ih => simp [nfM, ih, and_assoc]
theorem nm_set {es : List (V × V)} (n : Nat) {e : V × V} (h : nfM p es = true) (hv : e.1.nf p = true ∧ e.2.nf p = true) : nfM p (es.set n e) = true := by
  rw [nm_iff] at *; intro x hx; rcases List.mem_or_eq_of_mem_set hx with q | q
  · exact h x q
  · subst q; exact hv
theorem nm_app {xs ys : List (V × V)} (h : nfM p xs = true) (h2 : nfM p ys = true) : nfM p (xs ++ ys) = true := by
  rw [nm_iff] at *; intro x hx
  rcases List.mem_append.1 hx with q | q
  · exact h x q
  · exact h2 x q
theorem nm_erase {es : List (V × V)} (n : Nat) (h : nfM p es = true) : nfM p (es.eraseIdx n) = true := by
  rw [nm_iff] at *; intro x hx; exact h x (List.mem_of_mem_eraseIdx hx)

theorem n_ofScalar (v : Value) : (ofScalar v).nf p = true := by
  unfold ofScalar; split <;> rfl
theorem nl_ofScalars (l : List Value) : nfL p (l.map ofScalar) = true := by
  rw [nl_iff]; intro x hx; obtain ⟨v, _, rfl⟩ := List.mem_map.1 hx; exact n_ofScalar v
theorem n_ofConst (v : Value) : (ofConst v).nf p = true := by
  unfold ofConst; split
  · exact nl_ofScalars _
  · exact n_ofScalar _
  · exact nl_ofScalars _
  · exact n_ofScalar _
theorem nl_cells {v : V} {cs : List V} (hv : v.nf p = true) (h : v.cells = some cs) : nfL p cs = true := by
  unfold V.cells at h
  split at h
  · split at h
    · cases h; exact hv
    · cases h
  · cases h
  · cases h
  · cases h; simp only [nfL, hv, Bool.and_true]
theorem nl_zeroCells {t : TypeId} {z : List V} (h : zeroCells P t = some z) : nfL p z = true := by
  unfold zeroCells at h
  cases hz : zer P t with
  | none => rw [hz] at h; cases h
  | some v => rw [hz] at h; exact nl_cells (n_ofConst v) h
theorem n_readAt {t : TypeId} {xs : List V} {o : Nat} {v : V} (hx : nfL p xs = true) (h : readAt P t xs o = some v) : v.nf p = true := by
  unfold readAt at h
  split at h
  · split at h
    · split at h
      · cases h; exact nl_take _ (nl_drop _ hx)
      · cases h
    · exact nl_get hx h
  · cases h
theorem n_partV {t : TypeId} {xs : List V} {o : Nat} {v : V} (hx : nfL p xs = true) (h : partV P t xs o = some v) : v.nf p = true := by
  unfold partV at h
  split at h
  · split at h
    · cases h; exact nl_take _ (nl_drop _ hx)
    · exact nl_get hx h
  · cases h
theorem nl_fill {place : Nat → Option (Nat × Nat)} : ∀ {ps : List (Nat × V)} {cells r : List V}, nfL p cells = true → (∀ x ∈ ps, x.2.nf p = true) → fillV place cells ps = some r → nfL p r = true
  | [], cells, r, h, _, e => by cases e; exact h
  | (i, v) :: rest, cells, r, h, hp, e => by
    unfold fillV at e
    split at e
    · split at e
      · rename_i hc _
        exact nl_fill (nl_splice _ h (nl_cells (hp (i, v) (by simp)) hc)) (fun x hx => hp x (List.mem_cons_of_mem _ hx)) e
      · cases e
    · cases e
theorem n_build {t : TypeId} {ps : List (Nat × V)} {v : V} (hp : ∀ x ∈ ps, x.2.nf p = true) (h : buildV P t ps = some v) : v.nf p = true := by
  unfold buildV at h
  split at h
  · rename_i z fs hz hu
    split at h
    · rename_i q _
      cases hf : fillV (fun i => q[i]?) z ps with
      | none => rw [hf] at h; cases h
      | some r => rw [hf] at h; cases h; exact nl_fill (nl_zeroCells hz) hp hf
    · cases h
  · rename_i z n e hz hu
    split at h
    · rename_i m _
      cases hf : fillV (fun i => some (i * m, m)) z ps with
      | none => rw [hf] at h; cases h
      | some r => rw [hf] at h; cases h; exact nl_fill (nl_zeroCells hz) hp hf
    · cases h
  · cases h
theorem n_binI {op : BinOp} {k : IntKind} {a b : Int} {v : V} (h : binI op k a b = some v) : v.nf p = true := by
  unfold binI at h; split at h <;> (try split at h) <;> first | (cases h; rfl) | cases h
theorem n_shiftI {op : BinOp} {k : IntKind} {a b : Int} {v : V} (h : shiftI op k a b = some v) : v.nf p = true := by
  unfold shiftI at h; split at h
  · cases h
  · split at h <;> first | (cases h; rfl) | cases h
theorem n_binS {op : BinOp} {a b : List UInt8} {v : V} (h : binS op a b = some v) : v.nf p = true := by
  unfold binS at h; split at h <;> (try split at h) <;> first | (cases h; rfl) | cases h
theorem n_binV {op : BinOp} {t : TypeId} {x y : Operand} {a b v : V} (h : binV P op t x y a b = some v) : v.nf p = true := by
  unfold binV at h
  split at h
  · exact n_shiftI h
  · exact n_shiftI h
  · split at h
    · exact n_binI h
    · cases h
  · exact n_binS h
  · obtain ⟨_, _, rfl⟩ := Option.map_eq_some_iff.1 h; rfl
  · obtain ⟨_, _, rfl⟩ := Option.map_eq_some_iff.1 h; rfl
  · cases h
theorem n_unV {op : UnOp} {a v : V} (h : unV op a = some v) : v.nf p = true := by
  unfold unV at h; split at h <;> first | (cases h; rfl) | cases h
theorem nl_ofBytes (l : List UInt8) : nfL p (ofBytes l) = true := by
  rw [nl_iff]; intro x hx; obtain ⟨b, _, rfl⟩ := List.mem_map.1 hx; rfl

def ClG (p : Nat → Nat → Bool) (g : Get) : Prop := ∀ f s o, g f s = some o → p f s = false → o.nf p = true

variable {g : Get} {fr : Nat} {dst : Option Nat} {mt : Nat → Bool}

theorem nl_sc (hg : ClG p g) {esz n : Nat} {v : V} {cs : List V} (hv : v.nf p = true) (h : sliceCells g esz v = some (cs, n)) : nfL p cs = true := by
  unfold sliceCells at h
  split at h
  · cases h; rfl
  · split at h
    · cases h; simp only [V.nf, Bool.and_eq_true] at hv; exact hv.2
    · cases h
  · split at h
    · cases h; simp only [V.nf, Bool.and_eq_true] at hv; exact hv.2
    · cases h
  · split at h
    · rename_i ho
      split at h
      · cases h; exact nl_take _ (nl_drop _ (hg _ _ _ ho (by simpa [V.nf] using hv)))
      · cases h
    · cases h
  · cases h

def WOk (p : Nat → Nat → Bool) (w : Option (Nat × Nat × O)) : Prop := ∀ f s o, w = some (f, s, o) → p f s = false ∧ o.nf p = true
def Step.ok (p : Nat → Nat → Bool) : Step → Prop
  | .val v w => v.nf p = true ∧ WOk p w
  | .call _ args => nfL p args = true
  | .panic v => v.nf p = true
theorem wok_none : WOk p none := fun _ _ _ h => by cases h
theorem wok_some {f s : Nat} {o : O} (h1 : p f s = false) (h2 : o.nf p = true) : WOk p (some (f, s, o)) := fun _ _ _ h => by cases h; exact ⟨h1, h2⟩
theorem ok_new {o : O} {v : Nat → V} {st : Step} (ho : o.nf p = true) (hv : ∀ d, (v d).nf p = true) (hfr : ∀ s, p fr s = false) (h : new g fr dst o v = some st) : st.ok p := by
  unfold new at h
  split at h
  · split at h
    · cases h; exact ⟨hv _, wok_some (hfr _) ho⟩
    · cases h
  · cases h

theorem n_cutI {cells : List V} {len esz : Nat} {full : Bool} {lo hi mx : Option Int} {v : V} (hp : pureL cells = true) (hn : nfL p cells = true) (h : cutI cells len full esz lo hi mx = some v) : v.nf p = true := by
  unfold cutI at h
  split at h
  · split at h
    · cases h; simp only [V.nf, Bool.and_eq_true]; exact ⟨pl_take _ (pl_drop _ hp), nl_take _ (nl_drop _ hn)⟩
    · cases h
  · cases h
theorem n_cutM {f s o len esz : Nat} {cap : Option Nat} {lo hi mx : Option Int} {v : V} (hp : p f s = false) (h : cutM f s o len cap esz lo hi mx = some v) : v.nf p = true := by
  unfold cutM at h
  split at h
  · split at h
    · cases h; simp [V.nf, hp]
    · cases h
  · split at h
    · split at h
      · cases h; simp [V.nf, hp]
      · split at h
        · cases h; simp [V.nf, hp]
        · cases h
    · cases h
theorem n_sliceV {t : TypeId} {x : V} {lo hi mx : Option V} {v : V} (hx : x.nf p = true) (h : sliceV P g t x lo hi mx = some v) : v.nf p = true := by
  unfold sliceV at h
  split at h
  case h_2 => cases h
  split at h
  · split at h
    · split at h
      · cases h
      · split at h
        · cases h; rfl
        · cases h
    · cases h
  · split at h
    · split at h
      · split at h
        · cases h; rfl
        · cases h
      · simp only [V.nf, Bool.and_eq_true] at hx; exact n_cutI hx.1 hx.2 h
      · split at h
        · simp only [V.nf, Bool.and_eq_true] at hx; exact n_cutI hx.1.2 hx.2 h
        · cases h
      · split at h
        · exact n_cutM (by simpa [V.nf] using hx) h
        · cases h
      · cases h
    · cases h
  · split at h
    · split at h
      · split at h
        · split at h
          · exact n_cutM (by simpa [V.nf] using hx) h
          · cases h
        · cases h
      · split at h
        · simp only [V.nf, Bool.and_eq_true] at hx
          exact n_cutI (pl_take _ (pl_drop _ hx.1)) (nl_take _ (nl_drop _ hx.2)) h
        · cases h
      · cases h
    · cases h
  · cases h
theorem n_indexAddr {t : TypeId} {x i v : V} (hx : x.nf p = true) (h : indexAddrV P t x i = some v) : v.nf p = true := by
  unfold indexAddrV at h
  split at h
  case h_2 => cases h
  split at h
  · split at h
    · split at h
      · split at h
        · cases h; simpa [V.nf] using hx
        · cases h; simpa [V.nf] using hx
        · cases h
      · cases h
    · cases h
  · split at h
    · split at h
      · split at h
        · cases h; simpa [V.nf] using hx
        · cases h
      · split at h
        · cases h; simp only [V.nf, Bool.and_eq_true] at hx ⊢; exact ⟨hx.1.2, hx.2⟩
        · cases h
      · split at h
        · cases h; simpa [V.nf] using hx
        · cases h
      · cases h
    · cases h
  · cases h
theorem n_indexV {t : TypeId} {x i v : V} (hx : x.nf p = true) (h : indexV P t x i = some v) : v.nf p = true := by
  unfold indexV at h
  split at h
  case h_2 => cases h
  split at h
  · split at h
    · split at h
      · exact n_partV hx h
      · cases h
    · cases h
  · split at h
    · obtain ⟨_, _, rfl⟩ := Option.map_eq_some_iff.1 h; rfl
    · cases h
  · cases h
theorem n_find {k x : V} {i : Nat} : ∀ {es : List (V × V)} {j : Nat}, nfM p es = true → findKey k es j = some (some (i, x)) → x.nf p = true
  | [], _, _, h => by cases h
  | (k', y) :: r, j, hn, h => by
    simp only [nfM, Bool.and_eq_true] at hn
    unfold findKey at h
    split at h
    · cases h; exact hn.1.2
    · exact n_find hn.2 h
    · cases h
theorem n_lookup (hg : ClG p g) {t : TypeId} {m k v : V} {ok : Bool} (hm : m.nf p = true) (h : lookupV P g t m k ok = some v) : v.nf p = true := by
  unfold lookupV at h
  have dflt : ∀ z : Value, (if ok then V.tuple [ofConst z, .bool false] else ofConst z).nf p = true := by
    intro z; cases ok
    · exact n_ofConst z
    · simp [V.nf, nfL, n_ofConst]
  split at h
  case h_2 => cases h
  split at h
  case h_2 => cases h
  split at h
  case isFalse => cases h
  split at h
  · cases h; exact dflt _
  · split at h
    · rename_i ho
      have hes := hg _ _ _ ho (by simpa [V.nf] using hm)
      split at h
      · rename_i hf
        have hx := n_find hes hf
        cases h; cases ok
        · exact hx
        · simp [V.nf, nfL, hx]
      · cases h; exact dflt _
      · cases h
    · cases h
  · cases h
theorem ok_update (hg : ClG p g) {t : TypeId} {m k x : V} {st : Step} (hm : m.nf p = true) (hk : k.nf p = true) (hx : x.nf p = true) (h : updateV P g t m k x = some st) : st.ok p := by
  unfold updateV at h
  split at h
  case h_2 => cases h
  split at h
  case h_2 => cases h
  split at h
  case isFalse => cases h
  split at h
  case h_2 => cases h
  have hmp := hm
  simp only [V.nf, Bool.not_eq_true'] at hmp
  split at h
  case h_2 => cases h
  rename_i ho
  have hes := hg _ _ _ ho hmp
  split at h
  · cases h; exact ⟨rfl, wok_some hmp (nm_set _ hes ⟨hk, hx⟩)⟩
  · cases h; exact ⟨rfl, wok_some hmp (nm_app hes (by simp [nfM, hk, hx]))⟩
  · cases h
theorem ok_delete (hg : ClG p g) {t : TypeId} {m k : V} {st : Step} (hm : m.nf p = true) (h : deleteV P g t m k = some st) : st.ok p := by
  unfold deleteV at h
  split at h
  case h_2 => cases h
  split at h
  case h_2 => cases h
  split at h
  case isFalse => cases h
  split at h
  · cases h; exact ⟨rfl, wok_none⟩
  · have hmp := hm
    simp only [V.nf, Bool.not_eq_true'] at hmp
    split at h
    case h_2 => cases h
    rename_i ho
    have hes := hg _ _ _ ho hmp
    split at h
    · cases h; exact ⟨rfl, wok_some hmp (nm_erase _ hes)⟩
    · cases h; exact ⟨rfl, wok_some hmp hes⟩
    · cases h
  · cases h
theorem ok_mapEntry (hg : ClG p g) {t : TypeId} {m k : V} {st : Step} (hm : m.nf p = true) (hk : k.nf p = true) (h : mapEntryV P g t m k = some st) : st.ok p := by
  unfold mapEntryV at h
  split at h
  case h_2 => cases h
  split at h
  case h_2 => cases h
  split at h
  case isFalse => cases h
  split at h
  case h_2 => cases h
  have hmp := hm
  simp only [V.nf, Bool.not_eq_true'] at hmp
  split at h
  case h_2 => cases h
  rename_i ho
  have hes := hg _ _ _ ho hmp
  split at h
  · rename_i hf
    have hx := n_find hes hf
    split at h
    · cases h; exact ⟨by simp [V.nf, nfL, hx], wok_some hmp (nm_set _ hes ⟨hk, hx⟩)⟩
    · cases h
  · cases h; exact ⟨by simp [V.nf, nfL, n_ofConst], wok_some hmp (nm_app hes (by simp [nfM, hk, n_ofConst]))⟩
  · cases h
theorem nm_putAt {b : Int} {x : V} (hx : x.nf p = true) : ∀ {es es' : List (V × V)} {bs : List Nat}, nfM p es = true → putAt b x es bs = some es' → nfM p es' = true
  | [], _, _, _, h => by simp [putAt] at h
  | e :: es, es', [], _, h => by simp [putAt] at h
  | e :: es, es', b' :: bs, hn, h => by
    have hn' : (e.1.nf p = true ∧ e.2.nf p = true) ∧ nfM p es = true := by
      obtain ⟨a, c⟩ := e
      simpa only [nfM, Bool.and_eq_true] using hn
    unfold putAt at h
    split at h
    · cases h; simp only [nfM, Bool.and_eq_true]; exact ⟨⟨hn'.1.1, hx⟩, hn'.2⟩
    · obtain ⟨q, hq, rfl⟩ := Option.map_eq_some_iff.1 h
      have := nm_putAt hx hn'.2 hq
      obtain ⟨a, c⟩ := e
      simp only [nfM, Bool.and_eq_true]; exact ⟨hn'.1, this⟩
theorem ok_entryStore (hg : ClG p g) {m s x : V} {st : Step} (hm : m.nf p = true) (hx : x.nf p = true) (h : entryStoreV g m s x = some st) : st.ok p := by
  unfold entryStoreV at h
  split at h
  · have hmp := hm
    simp only [V.nf, Bool.not_eq_true'] at hmp
    split at h
    case h_2 => cases h
    rename_i ho
    have hes := hg _ _ _ ho hmp
    obtain ⟨q, hq, rfl⟩ := Option.map_eq_some_iff.1 h
    exact ⟨rfl, wok_some hmp (nm_putAt hx hes hq)⟩
  · cases h
theorem ok_grown {cs chk : List V} {n esz : Nat} {st : Step} (hc : nfL p cs = true) (hpc : pureL chk = true → pureL cs = true) (hfr : ∀ s, p fr s = false) (h : grown mt g fr dst cs chk n esz = some st) : st.ok p := by
  unfold grown at h
  split at h
  · split at h
    · split at h
      · exact ok_new (o := .cells cs) hc (fun d => by simp [V.nf, hfr]) hfr h
      · cases h
    · split at h
      · rename_i hp
        exact ok_new rfl (fun d => by simp [V.nf, hfr, hc, hpc hp]) hfr h
      · cases h
  · cases h
theorem nl_appSrc (hg : ClG p g) {t2 : TypeId} {n by_ m : Nat} {z cs : List V} {x : V} (hz : nfL p z = true) (hx : x.nf p = true) (h : appSrc P g t2 n by_ z x = some (cs, m)) : nfL p cs = true := by
  unfold appSrc at h
  split at h
  · split at h
    · split at h
      · cases h; exact nl_zeros hz _
      · cases h
    · cases h
  · split at h
    · split at h
      · cases h; exact nl_ofBytes _
      · cases h
    · cases h
  · exact nl_sc hg hx h
  · cases h
theorem ok_appendTo (hg : ClG p g) {n by_ m : Nat} {s : V} {new : List V} {st : Step} (hs : s.nf p = true) (hn : nfL p new = true) (hfr : ∀ s, p fr s = false) (h : appendTo mt fr g dst n by_ s new m = some st) : st.ok p := by
  unfold appendTo at h
  split at h
  · split at h
    · exact ok_grown hn id hfr h
    · cases h
  · simp only [V.nf, Bool.and_eq_true] at hs
    split at h
    · exact ok_grown (nl_app hs.2 hn) (fun hp => pl_app hs.1 hp) hfr h
    · cases h
  · simp only [V.nf, Bool.and_eq_true, Bool.not_eq_true'] at hs
    split at h
    · rename_i hc
      split at h
      · split at h
        · cases h; exact ⟨by simp only [V.nf, Bool.and_eq_true, Bool.not_eq_true']; exact ⟨⟨hs.1.1, pl_app hs.1.2 hc.2.2.1⟩, nl_app hs.2 hn⟩, wok_some hs.1.1 rfl⟩
        · cases h
      · cases h
    · cases h
  · have hmp := hs
    simp only [V.nf, Bool.not_eq_true'] at hmp
    split at h
    case isFalse => cases h
    split at h
    case h_2 => cases h
    rename_i ho
    have hes : nfL p _ = true := hg _ _ _ ho hmp
    split at h
    · split at h
      · split at h
        · cases h; exact ⟨hs, wok_some hmp (nl_splice _ hes hn)⟩
        · cases h
      · split at h
        · exact ok_grown (nl_app (nl_take _ (nl_drop _ hes)) hn) id hfr h
        · cases h
    · split at h
      · cases h; exact ⟨hs, wok_some hmp (nl_splice _ hes hn)⟩
      · cases h
  · cases h
theorem ok_appendV (hg : ClG p g) {t t2 : TypeId} {s x : V} {st : Step} (hs : s.nf p = true) (hx : x.nf p = true) (hfr : ∀ s, p fr s = false) (h : appendV P mt fr g dst t t2 s x = some st) : st.ok p := by
  unfold appendV at h
  split at h
  case h_2 => cases h
  split at h
  case h_2 => cases h
  rename_i z _ _ hz
  split at h
  case isFalse => cases h
  split at h
  · cases h
  · split at h
    · cases h; exact ⟨hs, wok_none⟩
    · cases h
  · rename_i hsrc
    exact ok_appendTo hg hs (nl_appSrc hg (nl_zeroCells hz) hx hsrc) hfr h
theorem ok_copyV (hg : ClG p g) {t : TypeId} {d s : V} {st : Step} (hd : d.nf p = true) (hs : s.nf p = true) (h : copyV P g t d s = some st) : st.ok p := by
  unfold copyV at h
  split at h
  case h_2 => cases h
  split at h
  case h_2 => cases h
  split at h
  case h_2 => cases h
  rename_i n _ cs m hsrc
  have hcs : nfL p cs = true := by
    unfold copySrc at hsrc
    split at hsrc
    · split at hsrc
      · cases hsrc; exact nl_ofBytes _
      · cases hsrc
    · exact nl_sc hg hs hsrc
  unfold copyTo at h
  split at h
  · cases h; exact ⟨rfl, wok_none⟩
  · have hmp := hd
    simp only [V.nf, Bool.not_eq_true'] at hmp
    split at h
    case isFalse => cases h
    split at h
    case h_2 => cases h
    rename_i ho
    have hes : nfL p _ = true := hg _ _ _ ho hmp
    split at h
    · cases h; exact ⟨rfl, wok_some hmp (nl_splice _ hes (nl_take _ hcs))⟩
    · cases h
  · cases h
theorem n_minV {mx : Bool} : ∀ {l : List V} {x v : V}, x.nf p = true → minV mx x l = some v → v.nf p = true
  | [], x, v, hx, h => by unfold minV at h; cases h; exact hx
  | y :: l, x, v, hx, h => by
    unfold minV at h
    split at h
    · rename_i he; cases he
    · rename_i he; cases he; exact n_minV (l := l) rfl h
    · cases h
theorem ok_convert (hg : ClG p g) {s d : TypeId} {x : V} {st : Step} (hx : x.nf p = true) (h : convertV P g s d x = some st) : st.ok p := by
  unfold convertV at h
  split at h
  · cases h; exact ⟨rfl, wok_none⟩
  · cases h; exact ⟨rfl, wok_none⟩
  · split at h
    · cases h; refine ⟨?_, wok_none⟩; simp only [V.nf, Bool.and_eq_true]; exact ⟨pureL_ofBytes _, nl_ofBytes _⟩
    · cases h
  · split at h
    · split at h
      · obtain ⟨_, _, rfl⟩ := Option.map_eq_some_iff.1 h; exact ⟨rfl, wok_none⟩
      · cases h
    · cases h
  · have hmp := hx
    simp only [V.nf, Bool.not_eq_true'] at hmp
    split at h
    case isFalse => cases h
    split at h
    case h_2 => cases h
    rename_i ho
    have hes : nfL p _ = true := hg _ _ _ ho hmp
    split at h
    · rename_i hc
      cases h; exact ⟨by simp only [V.nf, Bool.and_eq_true]; exact ⟨hc.2, hes⟩, wok_some hmp rfl⟩
    · cases h
  · cases h

theorem ok_val {v : V} (h : v.nf p = true) : (Step.val v none).ok p := ⟨h, wok_none⟩
theorem ok_map {o : Option V} {st : Step} (hv : ∀ v, o = some v → v.nf p = true) (h : (o.map fun v => Step.val v none) = some st) : st.ok p := by
  obtain ⟨v, h1, rfl⟩ := Option.map_eq_some_iff.1 h
  exact ok_val (hv v h1)
theorem n_entryAt {e : V × V} {b : Nat} : ∀ {es : List (V × V)} {bs : List Nat}, nfM p es = true → entryAt b es bs = some e → e.1.nf p = true ∧ e.2.nf p = true
  | [], _, _, h => by simp [entryAt] at h
  | x :: es, [], _, h => by simp [entryAt] at h
  | x :: es, b' :: bs, hn, h => by
    rw [nm_iff] at hn
    unfold entryAt at h
    split at h
    · cases h; exact hn _ (by simp)
    · exact n_entryAt (es := es) (nm_iff.2 fun y hy => hn y (List.mem_cons_of_mem _ hy)) h
theorem n_entryV (hg : ClG p g) {x v : V} (hx : x.nf p = true) (h : entryV g x = some v) : v.nf p = true := by
  unfold entryV at h
  split at h
  case h_2 => cases h
  have hxp := hx
  simp only [V.nf, Bool.not_eq_true'] at hxp
  split at h
  case h_2 => cases h
  rename_i m _ _ _ ho
  have hi := hg _ _ _ ho hxp
  simp only [O.nf, Bool.not_eq_true'] at hi
  split at h
  · rename_i hm _
    have hes : nfM p _ = true := hg _ _ _ hm hi
    split at h
    · obtain ⟨e, he, rfl⟩ := Option.map_eq_some_iff.1 h
      have := n_entryAt hes he
      simp [V.nf, nfL, this.1, this.2]
    · cases h
  · cases h
theorem nl_map {r : Operand → V} (hr : ∀ x, (r x).nf p = true) (l : List Operand) : nfL p (l.map r) = true := by
  rw [nl_iff]; intro x hx; obtain ⟨y, _, rfl⟩ := List.mem_map.1 hx; exact hr y
theorem ok_builtin (hg : ClG p g) {b : Builtin} {ts : Array TypeId} {args : List V} {st : Step} (ha : nfL p args = true) (hfr : ∀ s, p fr s = false) (h : builtinV P mt fr g dst b ts args = some st) : st.ok p := by
  unfold builtinV at h
  split at h
  · simp only [nfL, Bool.and_eq_true] at ha
    split at h
    · exact ok_appendV hg ha.1 ha.2.1 hfr h
    · cases h
  · split at h
    · refine ok_map (fun v hv => ?_) h
      unfold lenV at hv
      split at hv <;> (try split at hv) <;> first | (cases hv; rfl) | cases hv
    · cases h
  · split at h
    · refine ok_map (fun v hv => ?_) h
      unfold capV at hv
      split at hv <;> first | (cases hv; rfl) | cases hv
    · cases h
  · simp only [nfL, Bool.and_eq_true] at ha
    split at h
    · exact ok_copyV hg ha.1 ha.2.1 h
    · cases h
  · simp only [nfL, Bool.and_eq_true] at ha
    split at h
    · exact ok_delete hg ha.1 h
    · cases h
  · simp only [nfL, Bool.and_eq_true] at ha
    exact ok_map (fun v hv => n_minV ha.1 hv) h
  · simp only [nfL, Bool.and_eq_true] at ha
    exact ok_map (fun v hv => n_minV ha.1 hv) h
  · cases h

theorem evOp_nf (hg : ClG p g) {r : Operand → V} (hr : ∀ x, (r x).nf p = true) (hfr : ∀ s, p fr s = false) {o : Oper} {st : Step} (h : evOp P mt fr g r o = some st) : st.ok p := by
  unfold evOp at h
  split at h
  · cases h; exact ok_val (hr _)
  · cases h; exact ok_val (hr _)
  · split at h
    · cases h; split <;> exact ok_val (hr _)
    · cases h
  · obtain ⟨z, hz, h⟩ := Option.bind_eq_some_iff.1 h
    exact ok_new (o := .cells z) (nl_zeroCells hz) (fun d => by simp [V.nf, hfr]) hfr h
  · obtain ⟨z, hz, h⟩ := Option.bind_eq_some_iff.1 h
    exact ok_new (o := .cells z) (nl_cells (hr _) hz) (fun d => by simp [V.nf, hfr]) hfr h
  · refine ok_map (fun v hv => n_build (fun x hx => ?_) hv) h
    obtain ⟨y, _, rfl⟩ := List.mem_map.1 hx; exact hr _
  · split at h
    case h_2 => cases h
    split at h
    case h_2 => cases h
    rename_i hz
    split at h
    case isFalse => cases h
    split at h
    case h_2 => cases h
    rename_i cs hf
    have hcs : nfL p cs = true := nl_fill (by split; rfl; exact nl_zeros (nl_zeroCells hz) _) (fun x hx => by obtain ⟨y, _, rfl⟩ := List.mem_map.1 hx; exact hr _) hf
    split at h
    case h_2 => cases h
    split at h
    · exact ok_new (o := .cells cs) hcs (fun d => by simp [V.nf, hfr]) hfr h
    · split at h
      · rename_i hp
        cases h; exact ok_val (by simp [V.nf, hp, hcs])
      · cases h
  · rename_i a _
    have ha := hr a
    split at h
    · rename_i he
      rw [he] at ha
      split at h
      · rename_i ho
        refine ok_map (fun v hv => n_readAt (hg _ _ _ ho (by simpa [V.nf] using ha)) hv) h
      · cases h
    · rename_i he
      rw [he] at ha
      simp only [V.nf, Bool.and_eq_true] at ha
      exact ok_map (fun v hv => n_readAt ha.2 hv) h
    · cases h
  · rename_i a x _
    have ha := hr a
    split at h
    · rename_i he hc _
      rw [he] at ha
      simp only [V.nf, Bool.not_eq_true'] at ha
      split at h
      · rename_i ho
        split at h
        · cases h; exact ⟨rfl, wok_some ha (nl_splice _ (hg _ _ _ ho ha) (nl_cells (hr x) hc))⟩
        · cases h
      · cases h
    · cases h
  · rename_i x _
    have hx := hr x
    split at h <;> first | (rename_i he; cases h; rw [he] at hx; exact ok_val hx) | cases h
  · exact ok_map (fun v hv => n_binV hv) h
  · exact ok_map (fun v hv => n_unV hv) h
  · exact ok_convert hg (hr _) h
  · rename_i x _
    have hx := hr x
    split at h
    case h_2 => cases h
    split at h
    · rename_i he
      split at h
      · cases h; rw [he] at hx; exact ok_val (by simpa [V.nf] using hx)
      · cases h
    · rename_i he
      split at h
      · cases h; rw [he] at hx; simp only [V.nf, Bool.and_eq_true] at hx; exact ok_val (by simp only [V.nf, Bool.and_eq_true]; exact ⟨hx.1.2, hx.2⟩)
      · cases h
    · rename_i he
      split at h
      · cases h; rw [he] at hx; exact ok_val (by simpa [V.nf] using hx)
      · cases h
    · cases h
  · split at h
    · cases h
    · cases h
    · cases h; exact ok_val (by simpa [V.nf] using hr _)
  · cases h; exact ok_val (by simp only [V.nf, Bool.and_eq_true]; exact ⟨nl_map hr _, nl_map hr _⟩)
  · split at h
    · exact ok_new (o := .map [] [] 0) rfl (fun d => by simp [V.nf, hfr]) hfr h
    · split at h
      · exact ok_new (o := .map [] [] 0) rfl (fun d => by simp [V.nf, hfr]) hfr h
      · cases h
    · cases h
  · split at h
    case h_2 => cases h
    split at h
    case h_2 => cases h
    rename_i hz _ _
    split at h
    · exact ok_new (o := .cells _) (nl_zeros (nl_zeroCells hz) _) (fun d => by simp [V.nf, hfr]) hfr h
    · cases h
  · exact ok_map (fun v hv => n_sliceV (hr _) hv) h
  · rename_i x _ _
    have hx := hr x
    split at h
    case h_2 => cases h
    split at h
    case h_2 => cases h
    split at h
    case h_2 => cases h
    split at h
    · cases h
    · split at h
      · rename_i he; cases h; rw [he] at hx; exact ok_val (by simpa [V.nf] using hx)
      · rename_i he; cases h; rw [he] at hx; exact ok_val (by simpa [V.nf] using hx)
      · cases h
  · rename_i x _ _
    have hx := hr x
    split at h
    · rename_i he
      rw [he] at hx
      split at h
      · exact ok_map (fun v hv => n_partV (by simpa [V.nf] using hx) hv) h
      · cases h
    · cases h
  · exact ok_map (fun v hv => n_indexAddr (hr _) hv) h
  · exact ok_map (fun v hv => n_indexV (hr _) hv) h
  · exact ok_map (fun v hv => n_lookup hg (hr _) hv) h
  · exact ok_update hg (hr _) (hr _) (hr _) h
  · exact ok_update hg (hr _) (hr _) (hr _) h
  · rename_i t i _
    have ht := hr t
    split at h
    · rename_i he
      rw [he] at ht
      exact ok_map (fun v hv => nl_get (by simpa [V.nf] using ht) hv) h
    · cases h
  · rename_i x _ _ _ _
    have hx := hr x
    split at h
    · cases h
    · cases h
    · cases h
    · split at h
      · cases h; exact ok_val (by simp [V.nf, nfL, n_ofConst])
      · cases h
    · rename_i he _ _ _
      rw [he] at hx
      simp only [V.nf] at hx
      split at h
      · cases h
        split
        · exact ok_val (by simp [V.nf, nfL, hx])
        · exact ok_val hx
      · split at h
        · cases h; exact ok_val (by simp [V.nf, nfL, n_ofConst])
        · cases h
    · cases h
  · split at h
    · exact ok_builtin hg (nl_map hr _) hfr h
    · rename_i f _
      have hf := hr f
      split at h
      · rename_i he
        rw [he] at hf
        simp only [V.nf, Bool.and_eq_true] at hf
        cases h; exact nl_app (nl_app hf.1 (nl_map hr _)) hf.2
      · cases h
    · cases h
  · rename_i x _
    have hx := hr x
    split at h
    · rename_i he; cases h; rw [he] at hx; exact hx
    · cases h
  · rename_i x _
    have hx := hr x
    unfold rangeV at h
    split at h
    · exact ok_new rfl (fun d => by simp [V.nf, hfr]) hfr h
    · rename_i he
      rw [he] at hx
      simp only [V.nf] at hx
      split at h
      · exact ok_new (by simpa [O.nf] using hx) (fun d => by simp [V.nf, hfr]) hfr h
      · cases h
    · cases h
  · exact ok_map (fun v hv => n_entryV hg (hr _) hv) h
  · exact ok_mapEntry hg (hr _) (hr _) h
  · exact ok_entryStore hg (hr _) (hr _) h
  · cases h
end
end Go.AM
end
