/- This file holds in one the texts An10, An11; each says at its head what it proves. -/
import Derived.Test.YtafhcdagifopeaaGreatDoorT6
import Derived.Laws.BitsLemmas
set_option linter.unusedSimpArgs false
set_option linter.unusedVariables false
section
/- The abstract machine, part 10: new slices, appends, copies: as the model does. -/
namespace Go.AM
variable {P : Program} {E : Env} {B : Nat} {F : Nat → Nat → Prop} {H : Heap}

theorem roomy_le {len bytes : Nat} (h : roomy len bytes = true) : len * bytes ≤ 35184372088832 ∧ len ≤ 35184372088832 := by
  simpa [roomy] using h

theorem growBy_le (newLen : Nat) : ∀ (r c : Nat), c ≤ newLen → Builtin.growBy newLen r c ≤ 2 * newLen + 192
  | 0, c, h => by simp only [Builtin.growBy]; omega
  | r + 1, c, h => by
    simp only [Builtin.growBy]
    split
    · omega
    · by_cases h2 : c + (c + 768) / 4 ≤ newLen
      · exact growBy_le newLen r _ h2
      · have : Builtin.growBy newLen r (c + (c + 768) / 4) = c + (c + 768) / 4 := by
          cases r with
          | zero => rfl
          | succ r => simp only [Builtin.growBy]; rw [if_pos (by omega)]
        rw [this]; omega

theorem nextcap_le {need cap bytes : Nat} (h : cap < need) (hr : roomy need bytes = true) : ¬ (Builtin.nextslicecap need cap * bytes > 2 ^ 48) := by
  obtain ⟨h1, h2⟩ := roomy_le hr
  unfold Builtin.nextslicecap
  split
  · omega
  · split
    · have : 2 * cap * bytes ≤ 2 * (need * bytes) := by
        rw [Nat.mul_assoc]
        exact Nat.mul_le_mul_left _ (Nat.mul_le_mul_right _ (by omega))
      omega
    · have g := growBy_le need 4 cap (by omega)
      have g1 : Builtin.growBy need 4 cap * bytes ≤ (2 * need + 192) * bytes := Nat.mul_le_mul_right _ g
      have g2 : (2 * need + 192) * bytes = 2 * (need * bytes) + 192 * bytes := by rw [Nat.add_mul, Nat.mul_assoc]
      have g3 : 256 * bytes ≤ need * bytes := Nat.mul_le_mul_right _ (by omega)
      omega

theorem zeroCells_fold (zs : Array Value) (n : Nat) : Builtin.zeroCells zs n = ⟨zerosN zs.toList n⟩ := by
  have := range_zeros zs.toList n
  simp only [Array.length_toList] at this
  exact this

inductive Src (P : Program) (w : World) (e : TypeId) (n by_ : Nat) (t2 : TypeId) : Value → Nat → List Value → Prop
  | zeros (k : Int) (kd : IntKind) (zv : Value) (hu : P.underlying t2 = some (.int kd)) (hk : 0 ≤ k) (hr : roomy k.toNat by_ = true) (hz : zer P e = some zv) (hl : zv.cells.size = n) :
      Src P w e n by_ t2 (.int .i64 k) k.toNat (zerosN zv.cells.toList k.toNat)
  | other (x : Value) (m : Nat) (news : List Value) (d : TypeDesc) (hu : P.underlying t2 = some d) (hd : ∀ k, d ≠ .int k)
      (hlen : ∀ w' : World, (Builtin.lenOf x).run P w' = .ok m w') (hc : ∀ w' : World, w'.heap = w.heap → (Builtin.firstCells n m x).run P w' = .ok ⟨news⟩ w') : Src P w e n by_ t2 x m news

theorem run_newRow (w : World) (T : TypeId) (c : Array Value) : (newRow T c).run P w = .ok ⟨w.heap.size, 0, none⟩ { w with heap := w.heap.push (.cells c T) } := rfl

theorem arr0 (a b : Value) : (#[a, b] : Array Value)[0]? = some a := rfl
theorem arr1 (a b : Value) : (#[a, b] : Array Value)[1]? = some b := rfl

theorem run_asInt (w : World) (k : IntKind) (n : Int) : (Go.asInt (.int k n)).run P w = .ok n w := by simp [Go.asInt, asIntOf]

theorem run_append_grow {w : World} {ts : Array TypeId} {t t2 ty e : TypeId} {n by_ m sLen sCap : Nat} {s x : Value} {base : Option Addr} {olds news : List Value} {zv : Value}
    (ht : ts[0]? = some t) (ht2 : ts[1]? = some t2) (hu : P.underlying t = some (.slice e)) (hn : sz P e = some n) (hb : byt P e = some by_) (hz : zer P e = some zv)
    (hs : s = .slice base sLen sCap) (hsrc : Src P w e n by_ t2 x m news)
    (hold : ∀ w' : World, w'.heap = w.heap → (Builtin.firstCells n sLen s).run P w' = .ok ⟨olds⟩ w') (hg : sCap < sLen + m) (hr : roomy (sLen + m) by_ = true) :
    ∃ newCap, sLen + m ≤ newCap ∧ (Builtin.append_ ts ty #[s, x]).run P w = .ok (.slice (some ⟨w.heap.size, 0, none⟩) (sLen + m) newCap)
      { w with heap := w.heap.push (.cells ⟨olds ++ news ++ zerosN zv.cells.toList (newCap - (sLen + m))⟩ e), drawn := w.drawn + 1 } := by
  obtain ⟨ti, hti, hbi⟩ := run_byt hb w
  have hti' : ∀ w' : World, (typeInfo e).run P w' = .ok ti w' := by
    intro w'
    obtain ⟨i2, h2, _⟩ := run_byt hb w'
    unfold typeInfo at hti h2 ⊢
    simp only [Sem.run_bind, run_program, Result.andThen_ok] at hti h2 ⊢
    cases hq : P.info? e with
    | none => rw [hq] at hti; simp at hti
    | some i => rw [hq] at hti; simp at hti; subst hti; simp
  have hnc := nextcap_le hg hr
  obtain ⟨hr1, hr2⟩ := roomy_le hr
  have hmax : IntKind.i64.max = 9223372036854775807 := by decide
  have hbig : ¬ (((sLen + m : Nat) : Int) > IntKind.i64.max) := by rw [hmax]; omega
  refine ⟨sLen + m + (w.tape w.drawn (.appendCap (sLen + m) sCap e)) % (2 ^ 63 - (sLen + m)), by omega, ?_⟩
  have hforced : (Question.appendCap (sLen + m) sCap e).forced = false := rfl
  subst hs
  cases hsrc with
  | zeros k kd zv' hu2 hk hrk hz' hl =>
    rw [hz] at hz'; cases hz'
    have hw : IntKind.i64.wrap k = k := by
      have := (roomy_le hrk).2
      rw [IntKind.wrap_i64]; omega
    have h1 : ¬ (k < 0) := by omega
    have h2 : ¬ (k * (by_ : Int) > 2 ^ 48) := by
      have h3 := (roomy_le hrk).1
      have : ((k.toNat * by_ : Nat) : Int) = k * (by_ : Int) := by push_cast; rw [Int.toNat_of_nonneg hk]
      omega
    have h3 : ¬ (sLen + k.toNat ≤ sCap) := by omega
    have hq : (Question.appendCap (sLen + k.toNat) sCap e).cut (w.tape w.drawn (.appendCap (sLen + k.toNat) sCap e)) =
      sLen + k.toNat + (w.tape w.drawn (.appendCap (sLen + k.toNat) sCap e)) % (2 ^ 63 - (sLen + k.toNat)) := rfl
    have happ : ∀ w' : World, (if k.toNat * n = 0 then Result.ok #[] w' else Result.ok (Builtin.zeroCells zv.cells k.toNat) w') = .ok ⟨zerosN zv.cells.toList k.toNat⟩ w' := by
      intro w'
      split
      · rename_i h0
        have : zerosN zv.cells.toList k.toNat = [] := by
          apply List.eq_nil_of_length_eq_zero
          rw [zerosN_length, Array.length_toList, hl, h0]
        rw [this]
      · rw [zeroCells_fold]
    have hold' := hold { w with drawn := w.drawn + 1 } rfl
    simp only [Builtin.append_, ht, ht2, arr0, arr1, Sem.run_bind, run_und hu, run_und hu2, run_sz hn, hti', hw, Result.andThen_ok, Sem.run_pure, run_asInt, h1, h2, h3, if_true, if_false, hbig, false_and, hbi, hnc, run_choose, hforced, hq, run_askRoom, Sem.run_ite, Bool.not_true, Bool.false_eq_true, hold', run_zer hz]
    rw [happ]
    simp only [Result.andThen_ok, run_newRow, zeroCells_fold, List.append_toArray]
  | other x m news d hu2 hd hlen hc =>
    have hold' := hold { w with drawn := w.drawn + 1 } rfl
    have hc' := hc { w with drawn := w.drawn + 1 } rfl
    have h3 : ¬ (sLen + m ≤ sCap) := by omega
    have hq : (Question.appendCap (sLen + m) sCap e).cut (w.tape w.drawn (.appendCap (sLen + m) sCap e)) =
      sLen + m + (w.tape w.drawn (.appendCap (sLen + m) sCap e)) % (2 ^ 63 - (sLen + m)) := rfl
    simp only [Builtin.append_, ht, ht2, arr0, arr1, Sem.run_bind, run_und hu, run_und hu2, run_sz hn, hti', Result.andThen_ok, Sem.run_pure, h3, if_true, if_false, hbig, false_and, hbi, hnc, run_choose, hforced, hq, run_askRoom, Sem.run_ite, Bool.not_false, Bool.false_eq_true, hold', run_zer hz, hlen, hc', run_newRow, zeroCells_fold]
    simp

theorem run_storeCells_z (P : Program) (g o : Nat) (t : TypeId) (z : Nat × Nat) : ∀ (vs : List Value) (i : Nat) (cur : Array Value) (w : World), w.heap[g]? = some (.cells cur t z) → (z = (0, 0) ∨ o + i + vs.length ≤ z.1) → o + i + vs.length ≤ cur.size → (∀ v ∈ vs, v.oneCell' = true) →
    (storeCells ⟨g, o, none⟩ vs i).run P w = .ok () (w.setRow g (cur.toList.take (o + i) ++ vs ++ cur.toList.drop (o + i + vs.length)).toArray)
  | [], i, cur, w, hg, _, _, _ => by
    simp only [storeCells, List.append_nil, List.length_nil, Nat.add_zero, List.take_append_drop, Array.toArray_toList]
    rw [setRow_self w g cur t z hg]
    rfl
  | v :: rest, i, cur, w, hg, hz, hl, h1 => by
    have hi : o + i < cur.size := by simp at hl; omega
    have hadd : (⟨g, o, none⟩ : Addr).add i = ⟨g, o + i, none⟩ := by unfold Addr.add; split <;> simp_all
    have hcell : w.cell? ⟨g, o + i, none⟩ = some cur[o + i] := by simp [World.cell?, hg, hi]
    have hfro : w.frozen? ⟨g, o + i, none⟩ = false := by
      rcases hz with rfl | hz
      · simp [World.frozen?, hg]
      · obtain ⟨lo, hi'⟩ := z
        simp only [World.frozen?, hg, Bool.and_eq_false_iff, decide_eq_false_iff_not]
        left
        simp only [List.length_cons] at hz
        omega
    have hst : (store ((⟨g, o, none⟩ : Addr).add i) v).run P w = .ok () (w.setRow g (cur.setIfInBounds (o + i) v)) := by
      rw [hadd, run_store P w _ v _ (h1 v (by simp)), hcell]
      simp [hfro, setCell_eq_setRow w g (o + i) cur t z v hg]
    have ih := run_storeCells_z P g o t z rest (i + 1) (cur.setIfInBounds (o + i) v) (w.setRow g (cur.setIfInBounds (o + i) v)) (setRow_heap w g cur _ t _ hg) (hz.imp id (fun h => by simp only [List.length_cons] at h; omega)) (by simp at hl ⊢; omega) (fun x hx => h1 x (by simp [hx]))
    simp only [storeCells, Sem.run_bind, hst, Result.andThen_ok, ih, setRow_setRow]
    congr 3
    have e := list_seg_step cur.toList (o + i) v rest (by simp at hl ⊢; omega)
    simpa [Array.toList_setIfInBounds, Nat.add_assoc] using e
theorem run_append_room {w : World} {ts : Array TypeId} {t t2 ty e : TypeId} {n by_ m sLen sCap b off : Nat} {x : Value} {news : List Value} {cur : Array Value} {T : TypeId} {z : Nat × Nat}
    (ht : ts[0]? = some t) (ht2 : ts[1]? = some t2) (hu : P.underlying t = some (.slice e)) (hn : sz P e = some n) (hb : byt P e = some by_)
    (hsrc : Src P w e n by_ t2 x m news) (hfit : sLen + m ≤ sCap) (hcell : w.heap[b]? = some (.cells cur T z))
    (hsz : off + sLen * n + news.length ≤ cur.size) (h1 : ∀ v ∈ news, v.oneCell' = true) (hz : z = (0, 0) ∨ off + sLen * n + news.length ≤ z.1 := by exact .inl rfl) :
    (Builtin.append_ ts ty #[.slice (some ⟨b, off, none⟩) sLen sCap, x]).run P w = .ok (.slice (some ⟨b, off, none⟩) (sLen + m) sCap)
      (w.setRow b ⟨splice cur.toList (off + sLen * n) news⟩) := by
  obtain ⟨ti, hti, hbi⟩ := run_byt hb w
  have hst := run_storeCells_z P b (off + sLen * n) T z news 0 cur w hcell (by simpa using hz) (by simpa using hsz) h1
  simp only [Nat.add_zero] at hst
  cases hsrc with
  | zeros k kd zv' hu2 hk hrk hz' hl =>
    have hw : IntKind.i64.wrap k = k := by
      have := (roomy_le hrk).2
      rw [IntKind.wrap_i64]; omega
    have g1 : ¬ (k < 0) := by omega
    have g2 : ¬ (k * (by_ : Int) > 2 ^ 48) := by
      have h3 := (roomy_le hrk).1
      have : ((k.toNat * by_ : Nat) : Int) = k * (by_ : Int) := by push_cast; rw [Int.toNat_of_nonneg hk]
      omega
    have happ : (if k.toNat * n = 0 then Result.ok #[] w else Result.ok (Builtin.zeroCells zv'.cells k.toNat) w) = .ok ⟨zerosN zv'.cells.toList k.toNat⟩ w := by
      split
      · rename_i h0
        have : zerosN zv'.cells.toList k.toNat = [] := by
          apply List.eq_nil_of_length_eq_zero
          rw [zerosN_length, Array.length_toList, hl, h0]
        rw [this]
      · rw [zeroCells_fold]
    simp only [Builtin.append_, ht, ht2, arr0, arr1, Sem.run_bind, run_und hu, run_und hu2, run_sz hn, hti, hw, Result.andThen_ok, Sem.run_pure, run_asInt, g1, g2, if_true, if_false, hbi, Sem.run_ite, Bool.not_true, Bool.false_eq_true, run_zer hz', hfit]
    rw [happ]
    simp only [Result.andThen_ok, addr_add, hst, splice]
  | other x m news d hu2 hd hlen hc =>
    have hc' := hc w rfl
    simp only [Builtin.append_, ht, ht2, arr0, arr1, Sem.run_bind, run_und hu, run_und hu2, run_sz hn, Result.andThen_ok, Sem.run_pure, if_true, if_false, Sem.run_ite, Bool.not_false, Bool.false_eq_true, hlen, hc', hfit, addr_add, hst, splice]

theorem run_append_zero {w : World} {ts : Array TypeId} {t t2 ty e : TypeId} {n by_ m sLen sCap : Nat} {base : Option Addr} {x : Value}
    (ht : ts[0]? = some t) (ht2 : ts[1]? = some t2) (hu : P.underlying t = some (.slice e)) (hn : sz P e = some n) (hb : byt P e = some by_)
    (hsrc : Src P w e n by_ t2 x m []) (hm : m = 0) (hfit : sLen ≤ sCap) :
    (Builtin.append_ ts ty #[.slice base sLen sCap, x]).run P w = .ok (.slice base sLen sCap) w := by
  obtain ⟨ti, hti, hbi⟩ := run_byt hb w
  have hst : ∀ a : Addr, (storeCells a []).run P w = .ok () w := fun a => rfl
  have hsrc' : ∃ news, news = [] ∧ Src P w e n by_ t2 x m news := ⟨[], rfl, hsrc⟩
  obtain ⟨news, hnil, hsrc'⟩ := hsrc'
  cases hsrc' with
  | zeros k kd zv' hu2 hk hrk hz' hl =>
    have hw : IntKind.i64.wrap k = k := by
      have := (roomy_le hrk).2
      rw [IntKind.wrap_i64]; omega
    have g1 : ¬ (k < 0) := by omega
    obtain rfl : k = 0 := by omega
    simp only [Builtin.append_, ht, ht2, arr0, arr1, Sem.run_bind, run_und hu, run_und hu2, run_sz hn, hti, hw, Result.andThen_ok, Sem.run_pure, run_asInt, g1, if_true, if_false, Sem.run_ite, Bool.not_true, Bool.false_eq_true, Int.toNat_zero, Nat.zero_mul, Nat.add_zero, hfit, Int.zero_mul]
    cases base <;> simp [hst]
  | other x m news d hu2 hd hlen hc =>
    subst hnil
    subst hm
    have hc' := hc w rfl
    simp only [Builtin.append_, ht, ht2, arr0, arr1, Sem.run_bind, run_und hu, run_und hu2, run_sz hn, Result.andThen_ok, Sem.run_pure, if_true, if_false, Sem.run_ite, Bool.not_false, Bool.false_eq_true, hlen, hc', Nat.add_zero, hfit]
    cases base <;> simp [hst]

end Go.AM
end
section
/- The abstract machine, part 11: appends, copies, new slices and conversions keep the abstract heap true. -/
namespace Go.AM
variable {P : Program} {E : Env} {B : Nat} {F : Nat → Nat → Prop} {H : Heap}

def wr (H : Heap) : Option (Nat × Nat × O) → Heap
  | none => H
  | some (f, s, o) => hset H f s o

def Good (B : Nat) (F : Nat → Nat → Prop) (H : Heap) (E : Env) (st : Step) (r : Result Value) : Prop :=
  ∃ v w E' cv, st = .val v w ∧ Ext H.length B E E' ∧ Sim B F (wr H w) E' ∧ Rel E' v cv ∧ r = .ok cv E'.w

theorem Good.same (S : Sim B F H E) {v : V} {cv : Value} {r : Result Value} (hr : Rel E v cv) (h : r = .ok cv E.w) : Good B F H E (.val v none) r :=
  ⟨v, none, E, cv, rfl, Ext.refl _ _ _, S, hr, h⟩

theorem new_some {g : Get} {fr : Nat} {dst : Option Nat} {o : O} {v : Nat → V} {st : Step} (h : new g fr dst o v = some st) : ∃ d, dst = some d ∧ g fr d = none ∧ st = .val (v d) (some (fr, d, o)) := by
  unfold new at h
  split at h
  · rename_i d
    split at h
    · rename_i hg; cases h; exact ⟨d, rfl, hg, rfl⟩
    · cases h
  · cases h

theorem splice_get {α : Type} (xs cs : List α) (o i : Nat) (h : o + cs.length ≤ xs.length) :
    (splice xs o cs)[i]? = if i < o then xs[i]? else if i < o + cs.length then cs[i - o]? else xs[i]? := by
  unfold splice
  by_cases h1 : i < o
  · rw [if_pos h1, List.append_assoc, List.getElem?_append_left (by simp; omega), List.getElem?_take, if_pos h1]
  · rw [if_neg h1, List.append_assoc, List.getElem?_append_right (by simp; omega)]
    have e : (xs.take o).length = o := by simp; omega
    rw [e]
    by_cases h2 : i < o + cs.length
    · rw [if_pos h2, List.getElem?_append_left (by omega)]
    · rw [if_neg h2, List.getElem?_append_right (by omega), List.getElem?_drop]
      congr 1; omega

theorem splice_append {α : Type} (xs rest cs : List α) (o : Nat) (h : o + cs.length ≤ xs.length) : splice (xs ++ rest) o cs = splice xs o cs ++ rest := by
  unfold splice
  rw [List.take_append_of_le_length (by omega), List.drop_append_of_le_length (by omega)]
  simp

theorem alloc_sound (S : Sim B F H E) {fr : Nat} (hfr : fr < H.length) {dst : Option Nat} {z : List V} {vs : List Value} {st : Step} (T : TypeId)
    (h : new (hget H) fr dst (.cells z) (fun d => .ptr fr d 0) = some st) (hr : RelL E z vs) (hz : z.all V.scalar = true) :
    Good B F H E st (.ok (.pointer (some ⟨E.w.heap.size, 0, none⟩)) { E.w with heap := E.w.heap.push (.cells ⟨vs⟩ T) }) := by
  obtain ⟨d, rfl, hg, rfl⟩ := new_some h
  obtain ⟨X, S'⟩ := S.newCells hfr hg z vs [] T E.w.drawn hr hz
  refine ⟨_, _, _, .pointer (some ⟨E.w.heap.size, 0, none⟩), rfl, X, S', ?_, ?_⟩
  · simp only [Rel]
    exact ⟨E.w.heap.size, upd_same _ _ _ _, rfl⟩
  · simp [Env.newCells, Env.push]

theorem grown_sound (S : Sim B F H E) {mt : Nat → Bool} {fr : Nat} (hfr : fr < H.length) {dst : Option Nat} {cs chk : List V} {n esz newCap : Nat} {st : Step} (T : TypeId)
    (h : grown mt (hget H) fr dst cs chk n esz = some st) {vs rest : List Value} (hr : RelL E cs vs) (hl : vs.length = n * esz) (hcap : n ≤ newCap)
    (hrest : rest.length = (newCap - n) * esz) :
    Good B F H E st (.ok (.slice (some ⟨E.w.heap.size, 0, none⟩) n newCap) { E.w with heap := E.w.heap.push (.cells ⟨vs ++ rest⟩ T), drawn := E.w.drawn + 1 }) := by
  have htot : newCap * esz = n * esz + (newCap - n) * esz := by rw [← Nat.add_mul]; congr 1; omega
  unfold grown at h
  split at h
  case h_2 => cases h
  rename_i d
  split at h
  · split at h
    case isFalse => cases h
    rename_i hsc
    obtain ⟨d', hd, hg, rfl⟩ := new_some h
    cases hd
    obtain ⟨X, S'⟩ := S.newCells hfr hg cs vs rest T (E.w.drawn + 1) hr hsc
    refine ⟨_, _, _, .slice (some ⟨E.w.heap.size, 0, none⟩) n newCap, rfl, X, S', ?_, rfl⟩
    simp only [Rel]
    refine ⟨E.w.heap.size, newCap, T, (vs ++ rest).length, upd_same _ _ _ _, rfl, hcap, (fun k hk => by cases hk), ?_, ?_, ?_⟩
    · have := push_new E (.cells ⟨vs ++ rest⟩ T) (E.w.drawn + 1)
      simp only [Env.newCells, World.shape?, this]
      simp
    · simp; omega
    · intro _; simp; omega
  · obtain ⟨d', hd, hg, rfl⟩ := new_some h
    cases hd
    have hlen : (vs ++ rest).length = newCap * esz := by simp; omega
    obtain ⟨X, S', hrow⟩ := S.newTok hfr hg n (n * esz) (newCap * esz) (vs ++ rest) T (E.w.drawn + 1) (by omega)
    have htake : (vs ++ rest).take (n * esz) = vs := by rw [← hl]; simp
    rw [htake] at hrow
    refine ⟨_, _, _, .slice (some ⟨E.w.heap.size, 0, none⟩) n newCap, rfl, X, S', ?_, rfl⟩
    simp only [Rel]
    refine ⟨E.w.heap.size, 0, newCap, vs, rfl, hcap, hrow, RelL.mono X S.lt _ _ hr, by rw [hr.length, hl], by simp [Env.newTok, upd_same], ?_⟩
    intro n' b' lo hi e
    simp only [Env.newTok, upd_same, Option.some.injEq, Prod.mk.injEq] at e
    obtain ⟨rfl, rfl, rfl, rfl⟩ := e
    exact ⟨Nat.le_refl _, fun _ => ⟨rfl, by omega, by omega⟩⟩

theorem relL_bytes (E : Env) (l : List UInt8) : RelL E (ofBytes l) (l.map fun b => .int .u8 b.toNat) := by
  induction l with
  | nil => exact .nil
  | cons b l ih => exact .cons (by simp [Rel]) ih

theorem firstCells_str (w : World) (l : List UInt8) (k : Nat) : (Builtin.firstCells 1 k (.string ⟨⟨l⟩⟩)).run P w = .ok ⟨(l.map fun b => Value.int .u8 b.toNat).take (k * 1)⟩ w := by
  simp only [Builtin.firstCells, Sem.run_pure]
  congr 1
  have e : (⟨⟨l⟩⟩ : ByteArray).extract 0 k = ⟨⟨l.take k⟩⟩ := by
    have := ByteArray.extract_mk l 0 k
    simpa using this
  rw [e]
  apply Array.ext'
  simp [List.map_take]

theorem appSrc_sound (S : Sim B F H E) {t2 e : TypeId} {n by_ m : Nat} {z new : List V} {x : V} {c : Value} {zv : Value} (hz : zer P e = some zv) (hzc : zeroCells P e = some z) (hzl : z.length = n)
    (h : appSrc P (hget H) t2 n by_ z x = some (new, m)) (hr : Rel E x c) : ∃ news, Src P E.w e n by_ t2 c m news ∧ RelL E new news ∧ news.length = m * n := by
  unfold appSrc at h
  split at h
  · rename_i kd hu
    split at h
    case h_2 => cases h
    rename_i k
    split at h
    case isFalse => cases h
    rename_i hk
    cases h
    simp only [Rel] at hr; subst hr
    obtain ⟨zv', vs, h1, h2, h3, _⟩ := zeroCells_sound hzc E.w
    have : zv' = zv := by
      have := run_zer hz E.w
      rw [this] at h1; cases h1; rfl
    subst this
    have hvl : vs.length = n := by rw [← (h3 E).length]; exact hzl
    have hsrc := Src.zeros (P := P) (w := E.w) (e := e) (n := n) (by_ := by_) (t2 := t2) k kd zv' hu hk.1 hk.2 hz (by rw [h2]; exact hvl)
    rw [h2] at hsrc
    exact ⟨_, hsrc, (h3 E).zerosN _, by rw [zerosN_length]; congr 1⟩
  · rename_i hu
    split at h
    case h_2 => cases h
    rename_i l
    split at h
    case isFalse => cases h
    rename_i hn1
    subst hn1
    cases h
    simp only [Rel] at hr; subst hr
    refine ⟨_, .other _ _ _ .string hu (fun k e => by cases e) (fun w' => by simp [Builtin.lenOf]; rfl) (fun w' _ => ?_), relL_bytes E l, by simp⟩
    have := firstCells_str (P := P) w' l l.length
    rw [this]
    congr 2
    exact List.take_of_length_le (by simp)
  · rename_i el hu
    obtain ⟨a, cap, vs, rfl, h1, h2, h3, h4⟩ := sliceCells_sound (P := P) S h hr
    refine ⟨vs, .other _ _ _ _ hu (fun k e => by cases e) (fun w' => rfl) (fun w' hw => ?_), h2, h3⟩
    have := h4 w' m hw (Nat.le_refl _)
    rw [← h3, List.take_length] at this
    exact this
  · cases h

theorem appendV_sound (S : Sim B F H E) {mt : Nat → Bool} {fr : Nat} (hfr : fr < H.length) {dst : Option Nat} {ts : Array TypeId} {t t2 : TypeId} (ty : TypeId) {s x : V} {cs cx : Value} {st : Step}
    (ht : ts[0]? = some t) (ht2 : ts[1]? = some t2) (h : appendV P mt fr (hget H) dst t t2 s x = some st) (rs : Rel E s cs) (rx : Rel E x cx) :
    Good B F H E st ((Builtin.append_ ts ty #[cs, cx]).run P E.w) := by
  unfold appendV at h
  split at h
  case h_2 => cases h
  rename_i e hu
  split at h
  case h_2 => cases h
  rename_i n by_ z hn hb hzc
  split at h
  case isFalse => cases h
  rename_i hzl
  obtain ⟨zv, zvs, hzrun, hzcells, hzrel, _⟩ := zeroCells_sound hzc E.w
  have hz : zer P e = some zv := by
    unfold zeroCells at hzc
    cases hq : zer P e with
    | none => rw [hq] at hzc; cases hzc
    | some q => have := run_zer hq E.w; rw [hzrun] at this; cases this; rfl
  have hzvl : zvs.length = n := by rw [← (hzrel E).length]; exact hzl
  have hzl2 : ∀ k, (zerosN zv.cells.toList k).length = k * n := by intro k; rw [zerosN_length, hzcells]; simp [hzvl]
  split at h
  · cases h
  · rename_i new hsrc
    split at h
    case isFalse => cases h
    rename_i hsl
    cases h
    obtain ⟨news, hs, hrel, hl⟩ := appSrc_sound S hz hzc hzl hsrc rx
    obtain rfl : news = [] := List.eq_nil_of_length_eq_zero (by simpa using hl)
    refine Good.same S rs ?_
    cases s <;> simp only [isSlice, Bool.false_eq_true] at hsl <;> simp only [Rel] at rs
    · subst rs; exact run_append_zero ht ht2 hu hn hb hs rfl (Nat.le_refl _)
    · obtain ⟨a, cap, vs, rfl, g1, _⟩ := rs; exact run_append_zero ht ht2 hu hn hb hs rfl g1
    · obtain ⟨b, off, cap, vs, rfl, g1, _⟩ := rs; exact run_append_zero ht ht2 hu hn hb hs rfl g1
    · obtain ⟨b, c', T, n', _, rfl, g1, _⟩ := rs; exact run_append_zero ht ht2 hu hn hb hs rfl g1
  · rename_i new m hsrc
    obtain ⟨news, hs, hrel, hl⟩ := appSrc_sound S hz hzc hzl hsrc rx
    replace hl : news.length = (m + 1) * n := hl
    unfold appendTo at h
    split at h
    · -- nil
      split at h
      case isFalse => cases h
      rename_i hr
      simp only [Rel] at rs; subst rs
      obtain ⟨newCap, hcap, hrun⟩ := run_append_grow (ty := ty) (olds := []) (base := none) (sLen := 0) (sCap := 0) ht ht2 hu hn hb hz rfl hs (fun w' _ => by simp [Builtin.firstCells]) (by omega) (by simpa using hr)
      rw [hrun]
      simp only [Nat.zero_add, List.nil_append] at hcap ⊢
      exact grown_sound S hfr e h hrel hl hcap (hzl2 _)
    · -- cells that no longer change, capacity known
      rename_i cs0 len
      split at h
      case isFalse => cases h
      rename_i hr
      obtain ⟨hcl, hr⟩ := hr
      have rs' := rs
      simp only [Rel] at rs
      obtain ⟨a, cap, vs, rfl, g1, g2, g3, g4, g5⟩ := rs
      have := g2 trivial
      subst this
      obtain ⟨_, _, vs', he, _, k3, k4, k5⟩ := sliceCells_sound (P := P) (esz := n) (n := cap) (cs := cs0) S (by simp only [sliceCells, hcl, if_true]) rs'
      have hold : ∀ w' : World, w'.heap = E.w.heap → (Builtin.firstCells n cap (.slice (some a) cap cap)).run P w' = .ok ⟨vs'⟩ w' := by
        intro w' hw
        have := k5 w' cap hw (Nat.le_refl _)
        rw [← k4, List.take_length] at this
        exact this
      obtain ⟨newCap, hcap, hrun⟩ := run_append_grow (ty := ty) ht ht2 hu hn hb hz rfl hs hold (by omega) hr
      rw [hrun]
      exact grown_sound S hfr e h (k3.append hrel) (by simp [k4, hl, Nat.add_mul]) hcap (hzl2 _)
    · -- a token
      rename_i f sl cs0 len e'
      split at h
      case isFalse => cases h
      rename_i hr
      obtain ⟨rfl, hr, hsc⟩ := hr
      split at h
      case h_2 => cases h
      rename_i k hg
      split at h
      case isFalse => cases h
      rename_i hk
      subst hk
      cases h
      have rs' := rs
      simp only [Rel] at rs
      obtain ⟨b, off, cap, vs, rfl, g1, g3, g4, g6, g7, g8⟩ := rs
      obtain ⟨b', lo, hi, c, T, z, o1, o2, o3, o4, o5, o6⟩ := S.obj f sl _ hg
      obtain ⟨_, q⟩ := g8 _ _ _ _ o1
      obtain ⟨rfl, rfl, rfl⟩ := q rfl
      have hvl : vs.length = k * e' := by rw [← g4.length]; exact g6
      have hadd : (k + (m + 1)) * e' = k * e' + (m + 1) * e' := by rw [Nat.add_mul]
      by_cases hfit : k + (m + 1) ≤ cap
      · -- in place
        have hle : (k + (m + 1)) * e' ≤ cap * e' := Nat.mul_le_mul_right _ hfit
        have hnl : off + k * e' + news.length ≤ c.size := by rw [hl]; omega
        have h1 : ∀ v ∈ news, v.oneCell' = true := scalar_mem hrel hsc
        have hrun := run_append_room (ty := ty) ht ht2 hu hn hb hs hfit o3 hnl h1 (o6.imp id (fun h => by rw [hl]; omega))
        obtain ⟨X, S'⟩ := S.growTok o1 o3 (k + (m + 1)) (off + (k + (m + 1)) * e') (by omega) (by omega) (by omega) (splice c.toList (off + k * e') news)
          (by rw [splice_length _ _ _ (by simpa using hnl)]; simp)
          (by
            intro i hi
            rw [splice_get _ _ _ _ (by simpa using hnl)]
            rw [hl]
            by_cases e1 : i < off + k * e'
            · rw [if_pos e1]; simp
            · rw [if_neg e1, if_neg (by omega)]; simp)
        rw [hrun]
        refine ⟨_, _, _, _, rfl, X, S', ?_, rfl⟩
        simp only [Rel]
        refine ⟨b', off, cap, vs ++ news, rfl, hfit, ?_, (RelL.mono X S.lt _ _ g4).append (RelL.mono X S.lt _ _ hrel), ?_, ?_, ?_⟩
        · intro i v hv
          by_cases e1 : i < vs.length
          · rw [List.getElem?_append_left e1] at hv
            exact (g3.mono X) i v hv
          · rw [List.getElem?_append_right (by omega)] at hv
            have hi : i - vs.length < news.length := (List.getElem?_eq_some_iff.1 hv).1
            refine ⟨?_, fun hm => ?_⟩
            · have hs := setRow_heap E.w b' c ⟨splice c.toList (off + k * e') news⟩ T z o3
              simp only [Env.growTok, World.cell?, hs]
              have := splice_get c.toList news (off + k * e') (off + i) (by simpa using hnl)
              rw [if_neg (by omega), if_pos (by omega), show off + i - (off + k * e') = i - vs.length by omega] at this
              simpa [this] using hv
            · simp only [Env.growTok] at hm
              exact hm.2 ⟨trivial, by omega, by omega⟩
        · simp only [List.length_append]
          rw [g6, hrel.length, hl, hadd]
        · have : (E.mu f sl).isSome = true := g7
          simpa [Env.growTok] using this
        · intro n' b2 lo2 hi2 e
          simp only [Env.growTok, upd_same, Option.some.injEq, Prod.mk.injEq] at e
          obtain ⟨rfl, rfl, rfl, rfl⟩ := e
          exact ⟨Nat.le_refl _, fun _ => ⟨rfl, rfl, rfl⟩⟩
      · have hold : ∀ w' : World, w'.heap = E.w.heap → (Builtin.firstCells e' k (.slice (some ⟨b', off, none⟩) k cap)).run P w' = .ok ⟨vs⟩ w' := by
          intro w' hw
          have := run_firstCells_lies (P := P) (g3.lies.heap hw) hvl (Nat.le_refl k) k (cap := cap)
          rw [← hvl, List.take_length] at this
          exact this
        obtain ⟨newCap, hcap, hrun⟩ := run_append_grow (ty := ty) ht ht2 hu hn hb hz rfl hs hold (by omega) hr
        rw [hrun]
        have hrl := hzl2 (newCap - (k + (m + 1)))
        have hcl : (k + (m + 1)) * e' + (newCap - (k + (m + 1))) * e' = newCap * e' := by rw [← Nat.add_mul]; congr 1; omega
        have hlen : (vs ++ news ++ zerosN zv.cells.toList (newCap - (k + (m + 1)))).length = newCap * e' := by
          simp only [List.length_append, hrl, hvl, hl]; omega
        obtain ⟨X, S', hrow⟩ := S.moveTok o1 (k + (m + 1)) ((k + (m + 1)) * e') (newCap * e') (by omega) (vs ++ news ++ zerosN zv.cells.toList (newCap - (k + (m + 1)))) e (E.w.drawn + 1) (by omega)
        have htake : (vs ++ news ++ zerosN zv.cells.toList (newCap - (k + (m + 1)))).take ((k + (m + 1)) * e') = vs ++ news := by
          have : (vs ++ news).length = (k + (m + 1)) * e' := by simp only [List.length_append, hvl, hl]; omega
          rw [← this, List.take_left']
          rfl
        rw [htake] at hrow
        refine ⟨_, _, _, .slice (some ⟨E.w.heap.size, 0, none⟩) (k + (m + 1)) newCap, rfl, X, S', ?_, rfl⟩
        simp only [Rel]
        refine ⟨E.w.heap.size, 0, newCap, vs ++ news, rfl, hcap, hrow, (RelL.mono X S.lt _ _ g4).append (RelL.mono X S.lt _ _ hrel), ?_, ?_, ?_⟩
        · simp only [List.length_append]
          rw [g6, hrel.length, hl, hadd]
        · have : (E.mu f sl).isSome = true := g7
          simpa [Env.moveTok] using this
        · intro n' b2 lo2 hi2 e
          simp only [Env.moveTok, upd_same, Option.some.injEq, Prod.mk.injEq] at e
          obtain ⟨rfl, rfl, rfl, rfl⟩ := e
          exact ⟨Nat.le_refl _, fun _ => ⟨rfl, by omega, by omega⟩⟩
    · rename_i f sl o len cap e'
      split at h
      case isFalse => cases h
      rename_i hr
      obtain ⟨rfl, hr⟩ := hr
      split at h
      case h_2 => cases h
      rename_i xs hg
      have rs' := rs
      simp only [Rel] at rs
      obtain ⟨b, c', T', n', hmu, rfl, g1, g2, g3, g4, g5⟩ := rs
      obtain ⟨b2, c, T, vs, rest, q1, q2, q3, q4, q5, q6, q7, q8⟩ := S.lies hg
      rw [hmu] at q1; cases q1
      have hvl := q5.length
      have hcs : c.size = vs.length + rest.length := by
        have := congrArg List.length q4
        simpa using this
      have hn' : n' = c.size := by
        simp only [World.shape?, q3, Option.some.injEq, Prod.mk.injEq] at g3
        exact g3.2.symm
      have hadd : (len + (m + 1)) * e' = len * e' + (m + 1) * e' := by rw [Nat.add_mul]
      -- the store, where there is room
      have room : o + (len + (m + 1)) * e' ≤ xs.length → new.all V.scalar = true → len + (m + 1) ≤ c' →
          Good B F H E (.val (.mslice f sl o (len + (m + 1)) cap e') (some (f, sl, .cells (splice xs (o + len * e') new)))) ((Builtin.append_ ts ty #[.slice (some ⟨b, o, none⟩) len c', cx]).run P E.w) := by
        intro hle hsc hfit
        have hnl : o + len * e' + news.length ≤ c.size := by rw [hl]; omega
        have hrun := run_append_room (ty := ty) ht ht2 hu hn hb hs hfit q3 hnl (scalar_mem hrel hsc)
        have hnl2 : o + len * e' + news.length ≤ vs.length := by rw [hl]; omega
        obtain ⟨X, S'⟩ := S.setCells hg hmu q3 q4 q6 q2 (splice xs (o + len * e') new) (splice vs (o + len * e') news) (q5.splice hrel _) (splice_all _ q7 hsc)
          (splice_length _ _ _ hnl2)
        rw [hrun]
        refine ⟨_, _, _, .slice (some ⟨b, o, none⟩) (len + (m + 1)) c', rfl, X, S', ?_, ?_⟩
        · simp only [Rel]
          exact ⟨b, c', T', n', X.mu _ _ _ (hget_lt hg) hmu, rfl, hfit, g2, X.shape _ _ _ g3, g4, g5⟩
        · simp only [Env.setRow]
          rw [q4, splice_append _ _ _ _ hnl2]
      split at h
      · rename_i k
        have hk := g2 k rfl
        subst hk
        split at h
        · rename_i hfit
          split at h
          case isFalse => cases h
          rename_i hh
          cases h
          exact room hh.1 hh.2 hfit
        · rename_i hnf
          split at h
          case isFalse => cases h
          rename_i hh
          obtain ⟨_, _, vs', he, _, k3, k4, k5⟩ := sliceCells_sound (P := P) (esz := e') (n := len) (cs := (xs.drop o).take (len * e')) S (by simp only [sliceCells, hg, hh, and_self, if_true]) rs'
          have hold : ∀ w' : World, w'.heap = E.w.heap → (Builtin.firstCells e' len (.slice (some ⟨b, o, none⟩) len c')).run P w' = .ok ⟨vs'⟩ w' := by
            intro w' hw
            have := k5 w' len hw (Nat.le_refl _)
            rw [← k4, List.take_length] at this
            exact this
          obtain ⟨newCap, hcap, hrun⟩ := run_append_grow (ty := ty) ht ht2 hu hn hb hz rfl hs hold (by omega) hr
          rw [hrun]
          exact grown_sound S hfr e h (k3.append hrel) (by simp only [List.length_append, k4, hl]; omega) hcap (hzl2 _)
      · split at h
        case isFalse => cases h
        rename_i hh
        cases h
        refine room hh.1 hh.2.1 ?_
        have e1 := g5 rfl
        have : (len + (m + 1)) * e' ≤ c' * e' := by omega
        exact Nat.le_of_mul_le_mul_right this hh.2.2
    · cases h

end Go.AM
end
