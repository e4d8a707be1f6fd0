/- The abstract machine, part 10: new slices, appends, copies: as the model does. -/
import Derived.Test.YtebbgmeomkjibaaAm9
import Derived.Laws.BitsLemmas
set_option linter.unusedSimpArgs false
set_option linter.unusedVariables false
namespace Go.AM
variable {P : Program} {E : Env} {B : Nat} {F : Nat → Nat → Prop} {H : Heap}

theorem roomy_le {len bytes : Nat} (h : roomy len bytes = true) : len * bytes ≤ 35184372088832 ∧ len ≤ 35184372088832 := by
  simpa [roomy] using h

theorem growBy_le (newLen : Nat) : ∀ (r c : Nat), c ≤ newLen → Builtin.growBy newLen r c ≤ 2 * newLen + 192
  | 0, c, h => by simp only [Builtin.growBy]; omega
  | r + 1, c, h => by
    simp only [Builtin.growBy]
    split
    · omega
    · by_cases h2 : c + (c + 768) / 4 ≤ newLen
      · exact growBy_le newLen r _ h2
      · have : Builtin.growBy newLen r (c + (c + 768) / 4) = c + (c + 768) / 4 := by
          cases r with
          | zero => rfl
          | succ r => simp only [Builtin.growBy]; rw [if_pos (by omega)]
        rw [this]; omega

theorem nextcap_le {need cap bytes : Nat} (h : cap < need) (hr : roomy need bytes = true) : ¬ (Builtin.nextslicecap need cap * bytes > 2 ^ 48) := by
  obtain ⟨h1, h2⟩ := roomy_le hr
  unfold Builtin.nextslicecap
  split
  · omega
  · split
    · have : 2 * cap * bytes ≤ 2 * (need * bytes) := by
        rw [Nat.mul_assoc]
        exact Nat.mul_le_mul_left _ (Nat.mul_le_mul_right _ (by omega))
      omega
    · have g := growBy_le need 4 cap (by omega)
      have g1 : Builtin.growBy need 4 cap * bytes ≤ (2 * need + 192) * bytes := Nat.mul_le_mul_right _ g
      have g2 : (2 * need + 192) * bytes = 2 * (need * bytes) + 192 * bytes := by rw [Nat.add_mul, Nat.mul_assoc]
      have g3 : 256 * bytes ≤ need * bytes := Nat.mul_le_mul_right _ (by omega)
      omega

theorem zeroCells_fold (zs : Array Value) (n : Nat) : Builtin.zeroCells zs n = ⟨zerosN zs.toList n⟩ := by
  have := range_zeros zs.toList n
  simp only [Array.length_toList] at this
  exact this

/-- What is appended, in the model. -/
inductive Src (P : Program) (w : World) (e : TypeId) (n by_ : Nat) (t2 : TypeId) : Value → Nat → List Value → Prop
  | zeros (k : Int) (kd : IntKind) (zv : Value) (hu : P.underlying t2 = some (.int kd)) (hk : 0 ≤ k) (hr : roomy k.toNat by_ = true) (hz : zer P e = some zv) (hl : zv.cells.size = n) :
      Src P w e n by_ t2 (.int .i64 k) k.toNat (zerosN zv.cells.toList k.toNat)
  | other (x : Value) (m : Nat) (news : List Value) (d : TypeDesc) (hu : P.underlying t2 = some d) (hd : ∀ k, d ≠ .int k)
      (hlen : ∀ w' : World, (Builtin.lenOf x).run P w' = .ok m w') (hc : ∀ w' : World, w'.heap = w.heap → (Builtin.firstCells n m x).run P w' = .ok ⟨news⟩ w') : Src P w e n by_ t2 x m news

theorem run_newRow (w : World) (T : TypeId) (c : Array Value) : (newRow T c).run P w = .ok ⟨w.heap.size, 0, none⟩ { w with heap := w.heap.push (.cells c T) } := rfl

theorem arr0 (a b : Value) : (#[a, b] : Array Value)[0]? = some a := rfl
theorem arr1 (a b : Value) : (#[a, b] : Array Value)[1]? = some b := rfl

theorem run_asInt (w : World) (k : IntKind) (n : Int) : (Go.asInt (.int k n)).run P w = .ok n w := by simp [Go.asInt, asIntOf]

theorem run_append_grow {w : World} {ts : Array TypeId} {t t2 ty e : TypeId} {n by_ m sLen sCap : Nat} {s x : Value} {base : Option Addr} {olds news : List Value} {zv : Value}
    (ht : ts[0]? = some t) (ht2 : ts[1]? = some t2) (hu : P.underlying t = some (.slice e)) (hn : sz P e = some n) (hb : byt P e = some by_) (hz : zer P e = some zv)
    (hs : s = .slice base sLen sCap) (hsrc : Src P w e n by_ t2 x m news)
    (hold : ∀ w' : World, w'.heap = w.heap → (Builtin.firstCells n sLen s).run P w' = .ok ⟨olds⟩ w') (hg : sCap < sLen + m) (hr : roomy (sLen + m) by_ = true) :
    ∃ newCap, sLen + m ≤ newCap ∧ (Builtin.append_ ts ty #[s, x]).run P w = .ok (.slice (some ⟨w.heap.size, 0, none⟩) (sLen + m) newCap)
      { w with heap := w.heap.push (.cells ⟨olds ++ news ++ zerosN zv.cells.toList (newCap - (sLen + m))⟩ e), drawn := w.drawn + 1 } := by
  obtain ⟨ti, hti, hbi⟩ := run_byt hb w
  have hti' : ∀ w' : World, (typeInfo e).run P w' = .ok ti w' := by
    intro w'
    obtain ⟨i2, h2, _⟩ := run_byt hb w'
    unfold typeInfo at hti h2 ⊢
    simp only [Sem.run_bind, run_program, Result.andThen_ok] at hti h2 ⊢
    cases hq : P.info? e with
    | none => rw [hq] at hti; simp at hti
    | some i => rw [hq] at hti; simp at hti; subst hti; simp
  have hnc := nextcap_le hg hr
  obtain ⟨hr1, hr2⟩ := roomy_le hr
  have hmax : IntKind.i64.max = 9223372036854775807 := by decide
  have hbig : ¬ (((sLen + m : Nat) : Int) > IntKind.i64.max) := by rw [hmax]; omega
  refine ⟨sLen + m + (w.tape w.drawn (.appendCap (sLen + m) sCap e)) % (2 ^ 63 - (sLen + m)), by omega, ?_⟩
  have hforced : (Question.appendCap (sLen + m) sCap e).forced = false := rfl
  subst hs
  cases hsrc with
  | zeros k kd zv' hu2 hk hrk hz' hl =>
    rw [hz] at hz'; cases hz'
    have hw : IntKind.i64.wrap k = k := by
      have := (roomy_le hrk).2
      rw [IntKind.wrap_i64]; omega
    have h1 : ¬ (k < 0) := by omega
    have h2 : ¬ (k * (by_ : Int) > 2 ^ 48) := by
      have h3 := (roomy_le hrk).1
      have : ((k.toNat * by_ : Nat) : Int) = k * (by_ : Int) := by push_cast; rw [Int.toNat_of_nonneg hk]
      omega
    have h3 : ¬ (sLen + k.toNat ≤ sCap) := by omega
    have hq : (Question.appendCap (sLen + k.toNat) sCap e).cut (w.tape w.drawn (.appendCap (sLen + k.toNat) sCap e)) =
      sLen + k.toNat + (w.tape w.drawn (.appendCap (sLen + k.toNat) sCap e)) % (2 ^ 63 - (sLen + k.toNat)) := rfl
    have happ : ∀ w' : World, (if k.toNat * n = 0 then Result.ok #[] w' else Result.ok (Builtin.zeroCells zv.cells k.toNat) w') = .ok ⟨zerosN zv.cells.toList k.toNat⟩ w' := by
      intro w'
      split
      · rename_i h0
        have : zerosN zv.cells.toList k.toNat = [] := by
          apply List.eq_nil_of_length_eq_zero
          rw [zerosN_length, Array.length_toList, hl, h0]
        rw [this]
      · rw [zeroCells_fold]
    have hold' := hold { w with drawn := w.drawn + 1 } rfl
    simp only [Builtin.append_, ht, ht2, arr0, arr1, Sem.run_bind, run_und hu, run_und hu2, run_sz hn, hti', hw, Result.andThen_ok, Sem.run_pure, run_asInt, h1, h2, h3, if_true, if_false, hbig, false_and, hbi, hnc, run_choose, hforced, hq, run_askRoom, Sem.run_ite, Bool.not_true, Bool.false_eq_true, hold', run_zer hz]
    rw [happ]
    simp only [Result.andThen_ok, run_newRow, zeroCells_fold, List.append_toArray]
  | other x m news d hu2 hd hlen hc =>
    have hold' := hold { w with drawn := w.drawn + 1 } rfl
    have hc' := hc { w with drawn := w.drawn + 1 } rfl
    have h3 : ¬ (sLen + m ≤ sCap) := by omega
    have hq : (Question.appendCap (sLen + m) sCap e).cut (w.tape w.drawn (.appendCap (sLen + m) sCap e)) =
      sLen + m + (w.tape w.drawn (.appendCap (sLen + m) sCap e)) % (2 ^ 63 - (sLen + m)) := rfl
    simp only [Builtin.append_, ht, ht2, arr0, arr1, Sem.run_bind, run_und hu, run_und hu2, run_sz hn, hti', Result.andThen_ok, Sem.run_pure, h3, if_true, if_false, hbig, false_and, hbi, hnc, run_choose, hforced, hq, run_askRoom, Sem.run_ite, Bool.not_false, Bool.false_eq_true, hold', run_zer hz, hlen, hc', run_newRow, zeroCells_fold]
    simp

/-- In place: there is room. -/
theorem run_append_room {w : World} {ts : Array TypeId} {t t2 ty e : TypeId} {n by_ m sLen sCap b off : Nat} {x : Value} {news : List Value} {cur : Array Value} {T : TypeId}
    (ht : ts[0]? = some t) (ht2 : ts[1]? = some t2) (hu : P.underlying t = some (.slice e)) (hn : sz P e = some n) (hb : byt P e = some by_)
    (hsrc : Src P w e n by_ t2 x m news) (hfit : sLen + m ≤ sCap) (hcell : w.heap[b]? = some (.cells cur T (0, 0)))
    (hsz : off + sLen * n + news.length ≤ cur.size) (h1 : ∀ v ∈ news, v.oneCell' = true) :
    (Builtin.append_ ts ty #[.slice (some ⟨b, off, none⟩) sLen sCap, x]).run P w = .ok (.slice (some ⟨b, off, none⟩) (sLen + m) sCap)
      (w.setRow b ⟨splice cur.toList (off + sLen * n) news⟩) := by
  obtain ⟨ti, hti, hbi⟩ := run_byt hb w
  have hst := run_storeCells_at P b (off + sLen * n) T news 0 cur w hcell (by simpa using hsz) h1
  simp only [Nat.add_zero] at hst
  cases hsrc with
  | zeros k kd zv' hu2 hk hrk hz' hl =>
    have hw : IntKind.i64.wrap k = k := by
      have := (roomy_le hrk).2
      rw [IntKind.wrap_i64]; omega
    have g1 : ¬ (k < 0) := by omega
    have g2 : ¬ (k * (by_ : Int) > 2 ^ 48) := by
      have h3 := (roomy_le hrk).1
      have : ((k.toNat * by_ : Nat) : Int) = k * (by_ : Int) := by push_cast; rw [Int.toNat_of_nonneg hk]
      omega
    have happ : (if k.toNat * n = 0 then Result.ok #[] w else Result.ok (Builtin.zeroCells zv'.cells k.toNat) w) = .ok ⟨zerosN zv'.cells.toList k.toNat⟩ w := by
      split
      · rename_i h0
        have : zerosN zv'.cells.toList k.toNat = [] := by
          apply List.eq_nil_of_length_eq_zero
          rw [zerosN_length, Array.length_toList, hl, h0]
        rw [this]
      · rw [zeroCells_fold]
    simp only [Builtin.append_, ht, ht2, arr0, arr1, Sem.run_bind, run_und hu, run_und hu2, run_sz hn, hti, hw, Result.andThen_ok, Sem.run_pure, run_asInt, g1, g2, if_true, if_false, hbi, Sem.run_ite, Bool.not_true, Bool.false_eq_true, run_zer hz', hfit]
    rw [happ]
    simp only [Result.andThen_ok, addr_add, hst, splice]
  | other x m news d hu2 hd hlen hc =>
    have hc' := hc w rfl
    simp only [Builtin.append_, ht, ht2, arr0, arr1, Sem.run_bind, run_und hu, run_und hu2, run_sz hn, Result.andThen_ok, Sem.run_pure, if_true, if_false, Sem.run_ite, Bool.not_false, Bool.false_eq_true, hlen, hc', hfit, addr_add, hst, splice]

/-- Nothing is appended. -/
theorem run_append_zero {w : World} {ts : Array TypeId} {t t2 ty e : TypeId} {n by_ m sLen sCap : Nat} {base : Option Addr} {x : Value}
    (ht : ts[0]? = some t) (ht2 : ts[1]? = some t2) (hu : P.underlying t = some (.slice e)) (hn : sz P e = some n) (hb : byt P e = some by_)
    (hsrc : Src P w e n by_ t2 x m []) (hm : m = 0) (hfit : sLen ≤ sCap) :
    (Builtin.append_ ts ty #[.slice base sLen sCap, x]).run P w = .ok (.slice base sLen sCap) w := by
  obtain ⟨ti, hti, hbi⟩ := run_byt hb w
  have hst : ∀ a : Addr, (storeCells a []).run P w = .ok () w := fun a => rfl
  have hsrc' : ∃ news, news = [] ∧ Src P w e n by_ t2 x m news := ⟨[], rfl, hsrc⟩
  obtain ⟨news, hnil, hsrc'⟩ := hsrc'
  cases hsrc' with
  | zeros k kd zv' hu2 hk hrk hz' hl =>
    have hw : IntKind.i64.wrap k = k := by
      have := (roomy_le hrk).2
      rw [IntKind.wrap_i64]; omega
    have g1 : ¬ (k < 0) := by omega
    obtain rfl : k = 0 := by omega
    simp only [Builtin.append_, ht, ht2, arr0, arr1, Sem.run_bind, run_und hu, run_und hu2, run_sz hn, hti, hw, Result.andThen_ok, Sem.run_pure, run_asInt, g1, if_true, if_false, Sem.run_ite, Bool.not_true, Bool.false_eq_true, Int.toNat_zero, Nat.zero_mul, Nat.add_zero, hfit, Int.zero_mul]
    cases base <;> simp [hst]
  | other x m news d hu2 hd hlen hc =>
    subst hnil
    subst hm
    have hc' := hc w rfl
    simp only [Builtin.append_, ht, ht2, arr0, arr1, Sem.run_bind, run_und hu, run_und hu2, run_sz hn, Result.andThen_ok, Sem.run_pure, if_true, if_false, Sem.run_ite, Bool.not_false, Bool.false_eq_true, hlen, hc', Nat.add_zero, hfit]
    cases base <;> simp [hst]

end Go.AM
