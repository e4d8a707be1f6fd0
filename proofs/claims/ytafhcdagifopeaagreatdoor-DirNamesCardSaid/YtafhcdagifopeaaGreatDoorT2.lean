/- This file holds in one the texts An2; each says at its head what it proves. -/
import Derived.Test.YtafhcdagifopeaaGreatDoorT1
import Derived.Laws.CopyRow
set_option linter.unusedSimpArgs false
set_option linter.unusedVariables false
section
/- The abstract machine, part 2: the abstract heap stands for memory (Sim); new objects, stores, appends keep that. -/
namespace Go.AM

def RelM (E : Env) : List (V × V) → List MapEntry → Prop
  | [], ces => ces = []
  | (k, x) :: r, ces => ∃ e r', ces = e :: r' ∧ Rel E k e.key ∧ Rel E x e.val ∧ RelM E r r'

theorem RelM.mono {k B : Nat} {E E' : Env} (h : Ext k B E E') (hk : ∀ f s, (E.mu f s).isSome → f < k) : ∀ (es : List (V × V)) (ces : List MapEntry), RelM E es ces → RelM E' es ces
  | [], _, r => r
  | (_, _) :: es, _, ⟨e, r', he, h1, h2, h3⟩ => ⟨e, r', he, Rel.mono h hk _ _ h1, Rel.mono h hk _ _ h2, RelM.mono h hk es r' h3⟩

def pendC : Option (Option Nat) → Option Code
  | none => none
  | some none => some .ret
  | some (some i) => some (.exit i)
def stL : Nat → LoopState
  | 0 => .ready
  | 1 => .busy
  | 2 => .done
  | _ => .exhausted

def ObjOk (B : Nat) (E : Env) (f s : Nat) : O → Prop
  | .cells xs => ∃ b c T vs rest, E.mu f s = some b ∧ B ≤ b ∧ E.w.heap[b]? = some (.cells c T (0, 0)) ∧ c.toList = vs ++ rest ∧ RelL E xs vs ∧
      (∀ i, E.mod b i) ∧ xs.all V.scalar = true
  | .map es bs clk => ∃ b ces, E.mu f s = some b ∧ B ≤ b ∧ E.w.heap[b]? = some (.map ces clk) ∧ RelM E es ces.toList ∧ ces.toList.map (·.born) = bs
  | .iter m since seen stepped => ∃ b mb, E.mu f s = some b ∧ B ≤ b ∧ E.w.heap[b]? = some (.mapIter mb since ⟨seen⟩ stepped) ∧ (match m with | none => mb = none | some x => ∃ r, mb = some r ∧ E.mu x.1 x.2 = some r)
  | .grow n => ∃ b lo hi c T z, E.reg f s = some (n, b, lo, hi) ∧ B ≤ b ∧ E.w.heap[b]? = some (.cells c T z) ∧ hi ≤ c.size ∧ (∀ i, lo ≤ i → i < hi → E.mod b i) ∧ (z = (0, 0) ∨ hi ≤ z.1)
  | .loop st pend fn rid t => ∃ b r, E.mu f s = some b ∧ B ≤ b ∧ E.w.heap[b]? = some (.loop r) ∧ r.state = stL st ∧ r.pending = pendC pend ∧ E.tab fn rid = some (r.params, r.assign, r.body) ∧ RelL E t r.tmps.toList
  | .siter l pos => ∃ b, E.mu f s = some b ∧ B ≤ b ∧ E.w.heap[b]? = some (.stringIter ⟨⟨l⟩⟩ pos)
  | .dead => True

def blk (E : Env) (f s : Nat) : O → Option Nat
  | .cells _ | .map _ _ _ | .iter _ _ _ _ | .loop _ _ _ _ _ | .siter _ _ => E.mu f s
  | .grow _ => (E.reg f s).map (·.2.1)
  | .dead => none

structure Sim (B : Nat) (F : Nat → Nat → Prop) (H : Heap) (E : Env) : Prop where
  dom : ∀ f s, (hget H f s).isSome = (E.mu f s).isSome
  bsz : B ≤ E.w.heap.size
  fb : ∀ b i, F b i → b < B
  fmod : ∀ b i, F b i → E.mod b i
  modsz : ∀ b i, E.mod b i → b < E.w.heap.size
  obj : ∀ f s o, hget H f s = some o → ObjOk B E f s o
  nreg : ∀ f s n x, E.reg f s = some (n, x) → hget H f s = some (.grow n)
  inj : ∀ f s o f' s' o' b, hget H f s = some o → hget H f' s' = some o' → blk E f s o = some b → blk E f' s' o' = some b → f = f' ∧ s = s'

theorem Sim.lt {B : Nat} {F : Nat → Nat → Prop} {H : Heap} {E : Env} (S : Sim B F H E) : ∀ f s, (E.mu f s).isSome → f < H.length := by
  intro f s h
  rw [← S.dom] at h
  cases hh : hget H f s with
  | none => rw [hh] at h; cases h
  | some o => exact hget_lt hh

theorem ObjOk.blk_ge {B : Nat} {E : Env} {f s : Nat} {o : O} (h : ObjOk B E f s o) {b : Nat} (hb : blk E f s o = some b) : B ≤ b ∧ b < E.w.heap.size := by
  cases o with
  | cells xs =>
    obtain ⟨b', c, T, vs, rest, h1, h2, h3, _⟩ := h
    simp only [blk, h1, Option.some.injEq] at hb; subst hb
    exact ⟨h2, (Array.getElem?_eq_some_iff.1 h3).1⟩
  | map es bs clk =>
    obtain ⟨b', ces, h1, h2, h3, _⟩ := h
    simp only [blk, h1, Option.some.injEq] at hb; subst hb
    exact ⟨h2, (Array.getElem?_eq_some_iff.1 h3).1⟩
  | iter m since seen stepped =>
    obtain ⟨b', mb, h1, h2, h3, _⟩ := h
    simp only [blk, h1, Option.some.injEq] at hb; subst hb
    exact ⟨h2, (Array.getElem?_eq_some_iff.1 h3).1⟩
  | grow n =>
    obtain ⟨b', lo, hi, c, T, z, h1, h2, h3, _⟩ := h
    simp only [blk, h1, Option.map_some, Option.some.injEq] at hb; subst hb
    exact ⟨h2, (Array.getElem?_eq_some_iff.1 h3).1⟩
  | loop st pend fn rid t =>
    obtain ⟨b', r, h1, h2, h3, _⟩ := h
    simp only [blk, h1, Option.some.injEq] at hb; subst hb
    exact ⟨h2, (Array.getElem?_eq_some_iff.1 h3).1⟩
  | siter l pos =>
    obtain ⟨b', h1, h2, h3⟩ := h
    simp only [blk, h1, Option.some.injEq] at hb; subst hb
    exact ⟨h2, (Array.getElem?_eq_some_iff.1 h3).1⟩
  | dead => cases hb

theorem ObjOk.mono {B k : Nat} {E E' : Env} {f s : Nat} {o : O} (X : Ext k B E E') (hk : ∀ f s, (E.mu f s).isSome → f < k) (h : ObjOk B E f s o)
    (hmu : E'.mu f s = E.mu f s) (hreg : E'.reg f s = E.reg f s)
    (hb : ∀ b, blk E f s o = some b → E'.w.heap[b]? = E.w.heap[b]? ∧ ∀ i, E.mod b i → E'.mod b i) : ObjOk B E' f s o := by
  cases o with
  | cells xs =>
    obtain ⟨b, c, T, vs, rest, h1, h2, h3, h4, h5, h6, h7⟩ := h
    obtain ⟨g1, g2⟩ := hb b (by simp [blk, h1])
    exact ⟨b, c, T, vs, rest, hmu.trans h1, h2, g1.trans h3, h4, RelL.mono X hk _ _ h5, fun i => g2 i (h6 i), h7⟩
  | map es bs clk =>
    obtain ⟨b, ces, h1, h2, h3, h4, h5⟩ := h
    obtain ⟨g1, g2⟩ := hb b (by simp [blk, h1])
    exact ⟨b, ces, hmu.trans h1, h2, g1.trans h3, RelM.mono X hk _ _ h4, h5⟩
  | iter m since seen stepped =>
    obtain ⟨b, mb, h1, h2, h3, h4⟩ := h
    obtain ⟨g1, g2⟩ := hb b (by simp [blk, h1])
    refine ⟨b, mb, hmu.trans h1, h2, g1.trans h3, ?_⟩
    cases m with
    | none => exact h4
    | some x => obtain ⟨r, h5, h6⟩ := h4; exact ⟨r, h5, X.mu _ _ _ (hk x.1 x.2 (by rw [h6]; rfl)) h6⟩
  | grow n =>
    obtain ⟨b, lo, hi, c, T, z, h1, h2, h3, h4, h5, h6⟩ := h
    obtain ⟨g1, g2⟩ := hb b (by simp [blk, h1])
    exact ⟨b, lo, hi, c, T, z, hreg.trans h1, h2, g1.trans h3, h4, fun i a e => g2 i (h5 i a e), h6⟩
  | loop st pend fn rid t =>
    obtain ⟨b, r, h1, h2, h3, h4, h5, h7, h8⟩ := h
    obtain ⟨g1, g2⟩ := hb b (by simp [blk, h1])
    exact ⟨b, r, hmu.trans h1, h2, g1.trans h3, h4, h5, by rw [X.tab]; exact h7, RelL.mono X hk _ _ h8⟩
  | siter l pos =>
    obtain ⟨b, h1, h2, h3⟩ := h
    obtain ⟨g1, g2⟩ := hb b (by simp [blk, h1])
    exact ⟨b, hmu.trans h1, h2, g1.trans h3⟩
  | dead => trivial

theorem Sim.step {B : Nat} {F : Nat → Nat → Prop} {H : Heap} {E E' : Env} (S : Sim B F H E) (f0 s0 : Nat) (o' : O) (hf : f0 < H.length)
    (X : Ext H.length B E E')
    (hmu : ∀ f s, ¬ (f = f0 ∧ s = s0) → E'.mu f s = E.mu f s) (hmu0 : (E'.mu f0 s0).isSome = true)
    (hreg : ∀ f s, ¬ (f = f0 ∧ s = s0) → E'.reg f s = E.reg f s)
    (hreg0 : ∀ n x, E'.reg f0 s0 = some (n, x) → o' = .grow n)
    (hoth : ∀ f s o b, ¬ (f = f0 ∧ s = s0) → hget H f s = some o → blk E f s o = some b → E'.w.heap[b]? = E.w.heap[b]? ∧ ∀ i, E.mod b i → E'.mod b i)
    (hmod : ∀ b i, F b i → E'.mod b i) (hsz : ∀ b i, E'.mod b i → b < E'.w.heap.size)
    (hobj : ObjOk B E' f0 s0 o')
    (hdis : ∀ f s o b, ¬ (f = f0 ∧ s = s0) → hget H f s = some o → blk E f s o = some b → blk E' f0 s0 o' ≠ some b) :
    Sim B F (hset H f0 s0 o') E' := by
  have hget' := hget_hset H f0 s0 o' hf
  have hblk : ∀ f s o, ¬ (f = f0 ∧ s = s0) → blk E' f s o = blk E f s o := by
    intro f s o hne
    cases o <;> simp only [blk, hmu f s hne, hreg f s hne]
  refine ⟨?_, Nat.le_trans S.bsz X.size, S.fb, hmod, hsz, ?_, ?_, ?_⟩
  · intro f s
    rw [hget']
    by_cases h : f = f0 ∧ s = s0
    · rw [if_pos h]; obtain ⟨rfl, rfl⟩ := h; simp [hmu0]
    · rw [if_neg h, hmu f s h]; exact S.dom f s
  · intro f s o ho
    rw [hget'] at ho
    by_cases h : f = f0 ∧ s = s0
    · rw [if_pos h] at ho; obtain ⟨rfl, rfl⟩ := h; cases ho; exact hobj
    · rw [if_neg h] at ho
      exact (S.obj f s o ho).mono X S.lt (hmu f s h) (hreg f s h) (fun b hb => hoth f s o b h ho hb)
  · intro f s n x hr
    rw [hget']
    by_cases h : f = f0 ∧ s = s0
    · rw [if_pos h]; obtain ⟨rfl, rfl⟩ := h; rw [hreg0 n x hr]
    · rw [if_neg h]; rw [hreg f s h] at hr; exact S.nreg f s n x hr
  · intro f s o f' s' o'' b ho ho' hb hb'
    rw [hget'] at ho ho'
    by_cases h : f = f0 ∧ s = s0
    · rw [if_pos h] at ho; cases ho
      by_cases h' : f' = f0 ∧ s' = s0
      · exact ⟨h.1.trans h'.1.symm, h.2.trans h'.2.symm⟩
      · rw [if_neg h'] at ho'
        rw [hblk f' s' o'' h'] at hb'
        obtain ⟨rfl, rfl⟩ := h
        exact absurd hb (hdis f' s' o'' b h' ho' hb')
    · rw [if_neg h] at ho
      rw [hblk f s o h] at hb
      by_cases h' : f' = f0 ∧ s' = s0
      · rw [if_pos h'] at ho'; cases ho'
        obtain ⟨rfl, rfl⟩ := h'
        exact absurd hb' (hdis f s o b h ho hb)
      · rw [if_neg h'] at ho'
        rw [hblk f' s' o'' h'] at hb'
        exact S.inj f s o f' s' o'' b ho ho' hb hb'

/-! ### New blocks -/

def Env.push (E : Env) (o : Obj) (d : Nat) : World := { E.w with heap := E.w.heap.push o, drawn := d }

theorem push_old (E : Env) (o : Obj) (d b : Nat) (h : b < E.w.heap.size) : (E.push o d).heap[b]? = E.w.heap[b]? := by
  simp [Env.push, Array.getElem?_push, Nat.ne_of_lt h]
theorem push_new (E : Env) (o : Obj) (d : Nat) : (E.push o d).heap[E.w.heap.size]? = some o := by simp [Env.push]

theorem cell_of_heap {w w' : World} {b : Nat} (h : w'.heap[b]? = w.heap[b]?) (i : Nat) : w'.cell? ⟨b, i, none⟩ = w.cell? ⟨b, i, none⟩ := by
  simp only [World.cell?, h]
theorem shape_of_heap {w w' : World} {b : Nat} (h : w'.heap[b]? = w.heap[b]?) : w'.shape? b = w.shape? b := by
  simp only [World.shape?, h]
theorem cell_lt {w : World} {b i : Nat} {v : Value} (h : w.cell? ⟨b, i, none⟩ = some v) : b < w.heap.size := by
  rcases Nat.lt_or_ge b w.heap.size with g | g
  · exact g
  · simp [World.cell?, Array.getElem?_eq_none g] at h
theorem shape_lt {w : World} {b : Nat} {x : TypeId × Nat} (h : w.shape? b = some x) : b < w.heap.size := by
  rcases Nat.lt_or_ge b w.heap.size with g | g
  · exact g
  · simp [World.shape?, Array.getElem?_eq_none g] at h

theorem ext_push {k B : Nat} {E : Env} (hB : B ≤ E.w.heap.size) (o : Obj) (d : Nat) (mu' : Nat → Nat → Option Nat) (reg' : Nat → Nat → Option (Nat × Nat × Nat × Nat)) (mod' : Nat → Nat → Prop)
    (hmu : ∀ f s b, E.mu f s = some b → mu' f s = some b)
    (hreg : ∀ f s n b lo hi, (E.mu f s).isSome = true → reg' f s = some (n, b, lo, hi) →
      ∃ n0 b0 lo0 hi0, E.reg f s = some (n0, b0, lo0, hi0) ∧ (n0 < n ∨ (n = n0 ∧ b = b0 ∧ lo = lo0 ∧ hi = hi0)))
    (hmod : ∀ b i, b < E.w.heap.size → ¬ E.mod b i → ¬ mod' b i) :
    Ext k B E { w := E.push o d, mu := mu', reg := reg', mod := mod', tab := E.tab } where
  size := by simp [Env.push]
  shape := fun b T n h => by rw [shape_of_heap (push_old E o d b (shape_lt h))]; exact h
  cell := fun b i v _ h => by rw [cell_of_heap (push_old E o d b (cell_lt h))]; exact h
  mod := fun b i v h hm => hmod b i (cell_lt h) hm
  mu := fun f s b _ h => hmu f s b h
  reg := fun f s n b lo hi _ hs h => hreg f s n b lo hi hs h
  old := fun b hb => push_old E o d b (Nat.lt_of_lt_of_le hb hB)
  rest := ⟨rfl, rfl, rfl⟩
  tab := rfl
  dfr := fun b h => by rw [push_old E o d b (Array.getElem?_eq_some_iff.1 h).1]; exact h

def upd {α : Type} (g : Nat → Nat → α) (f0 s0 : Nat) (x : α) : Nat → Nat → α := fun f s => if f = f0 ∧ s = s0 then x else g f s
theorem upd_same {α : Type} (g : Nat → Nat → α) (f0 s0 : Nat) (x : α) : upd g f0 s0 x f0 s0 = x := by simp [upd]
theorem upd_other {α : Type} (g : Nat → Nat → α) {f0 s0 f s : Nat} (x : α) (h : ¬ (f = f0 ∧ s = s0)) : upd g f0 s0 x f s = g f s := by simp [upd, h]

section
variable {B : Nat} {F : Nat → Nat → Prop} {H : Heap} {E : Env}

theorem Sim.mu_none (S : Sim B F H E) {f s : Nat} (h : hget H f s = none) : E.mu f s = none := by
  have := S.dom f s
  rw [h] at this
  cases hm : E.mu f s with
  | none => rfl
  | some x => rw [hm] at this; cases this
theorem Sim.reg_none (S : Sim B F H E) {f s : Nat} (h : hget H f s = none) : E.reg f s = none := by
  cases hm : E.reg f s with
  | none => rfl
  | some x => obtain ⟨n, x⟩ := x; rw [S.nreg f s n x hm] at h; cases h
theorem Sim.blk_lt (S : Sim B F H E) {f s : Nat} {o : O} {b : Nat} (h : hget H f s = some o) (hb : blk E f s o = some b) : b < E.w.heap.size :=
  ((S.obj f s o h).blk_ge hb).2

def Env.newCells (E : Env) (f0 s0 : Nat) (c : List Value) (T : TypeId) (d : Nat) : Env :=
  { w := E.push (.cells ⟨c⟩ T) d, mu := upd E.mu f0 s0 (some E.w.heap.size), reg := E.reg, mod := fun b i => E.mod b i ∨ b = E.w.heap.size, tab := E.tab }

theorem Sim.newCells (S : Sim B F H E) {f0 s0 : Nat} (hf : f0 < H.length) (hn : hget H f0 s0 = none) (xs : List V) (vs rest : List Value) (T : TypeId) (d : Nat)
    (hr : RelL E xs vs) (hx : xs.all V.scalar = true) :
    Ext H.length B E (E.newCells f0 s0 (vs ++ rest) T d) ∧ Sim B F (hset H f0 s0 (.cells xs)) (E.newCells f0 s0 (vs ++ rest) T d) := by
  have hmn := S.mu_none hn
  have X : Ext H.length B E (E.newCells f0 s0 (vs ++ rest) T d) := by
    refine ext_push S.bsz _ d _ _ _ ?_ ?_ ?_
    · intro f s b h
      by_cases e : f = f0 ∧ s = s0
      · rw [e.1, e.2, hmn] at h; cases h
      · rw [upd_other _ _ e]; exact h
    · exact fun f s n b lo hi _ h => ⟨n, b, lo, hi, h, .inr ⟨rfl, rfl, rfl, rfl⟩⟩
    · intro b i hb hm h
      rcases h with h | h
      · exact hm h
      · omega
  refine ⟨X, S.step f0 s0 _ hf X (fun f s e => upd_other _ _ e) (by simp [Env.newCells, upd_same]) (fun f s e => rfl) ?_ ?_ ?_ ?_ ?_ ?_⟩
  · intro n x h
    have := S.reg_none hn
    simp only [Env.newCells] at h
    rw [this] at h; cases h
  · intro f s o b e ho hb
    exact ⟨push_old E _ d b (S.blk_lt ho hb), fun i h => .inl h⟩
  · exact fun b i h => .inl (S.fmod b i h)
  · intro b i h
    simp only [Env.newCells, Env.push, Array.size_push] at h ⊢
    rcases h with h | h
    · exact Nat.lt_succ_of_lt (S.modsz b i h)
    · omega
  · exact ⟨E.w.heap.size, ⟨vs ++ rest⟩, T, vs, rest, upd_same _ _ _ _, S.bsz, push_new E _ d, rfl, RelL.mono X S.lt _ _ hr, fun i => .inr rfl, hx⟩
  · intro f s o b e ho hb h
    simp only [blk, Env.newCells, upd_same, Option.some.injEq] at h
    have := S.blk_lt ho hb
    omega

def Env.newMap (E : Env) (f0 s0 : Nat) (d : Nat) : Env :=
  { w := E.push (.map #[] 0) d, mu := upd E.mu f0 s0 (some E.w.heap.size), reg := E.reg, mod := E.mod, tab := E.tab }

theorem Sim.newMap (S : Sim B F H E) {f0 s0 : Nat} (hf : f0 < H.length) (hn : hget H f0 s0 = none) (d : Nat) :
    Ext H.length B E (E.newMap f0 s0 d) ∧ Sim B F (hset H f0 s0 (.map [] [] 0)) (E.newMap f0 s0 d) := by
  have hmn := S.mu_none hn
  have X : Ext H.length B E (E.newMap f0 s0 d) := by
    refine ext_push S.bsz _ d _ _ _ ?_ ?_ ?_
    · intro f s b h
      by_cases e : f = f0 ∧ s = s0
      · rw [e.1, e.2, hmn] at h; cases h
      · rw [upd_other _ _ e]; exact h
    · exact fun f s n b lo hi _ h => ⟨n, b, lo, hi, h, .inr ⟨rfl, rfl, rfl, rfl⟩⟩
    · exact fun b i hb hm h => hm h
  refine ⟨X, S.step f0 s0 _ hf X (fun f s e => upd_other _ _ e) (by simp [Env.newMap, upd_same]) (fun f s e => rfl) ?_ ?_ ?_ ?_ ?_ ?_⟩
  · intro n x h
    have := S.reg_none hn
    simp only [Env.newMap] at h
    rw [this] at h; cases h
  · intro f s o b e ho hb
    exact ⟨push_old E _ d b (S.blk_lt ho hb), fun i h => h⟩
  · exact fun b i h => S.fmod b i h
  · intro b i h
    simp only [Env.newMap, Env.push, Array.size_push] at h ⊢
    exact Nat.lt_succ_of_lt (S.modsz b i h)
  · exact ⟨E.w.heap.size, #[], upd_same _ _ _ _, S.bsz, push_new E _ d, rfl, rfl⟩
  · intro f s o b e ho hb h
    simp only [blk, Env.newMap, upd_same, Option.some.injEq] at h
    have := S.blk_lt ho hb
    omega

def Env.newRow (E : Env) (c : List Value) (T : TypeId) (fr : Nat × Nat) (d : Nat) : Env :=
  { w := E.push (.cells ⟨c⟩ T fr) d, mu := E.mu, reg := E.reg, mod := E.mod, tab := E.tab }

theorem Sim.newRow (S : Sim B F H E) (c : List Value) (T : TypeId) (fr : Nat × Nat) (d : Nat) :
    Ext H.length B E (E.newRow c T fr d) ∧ Sim B F H (E.newRow c T fr d) ∧ Row (E.newRow c T fr d) E.w.heap.size 0 c := by
  have X : Ext H.length B E (E.newRow c T fr d) := by
    refine ext_push S.bsz _ d _ _ _ ?_ ?_ ?_
    · exact fun f s b h => h
    · exact fun f s n b lo hi _ h => ⟨n, b, lo, hi, h, .inr ⟨rfl, rfl, rfl, rfl⟩⟩
    · exact fun b i hb hm h => hm h
  refine ⟨X, ⟨S.dom, Nat.le_trans S.bsz X.size, S.fb, S.fmod, ?_, ?_, S.nreg, ?_⟩, ?_⟩
  · intro b i h
    exact Nat.lt_of_lt_of_le (S.modsz b i h) X.size
  · intro f s o ho
    exact (S.obj f s o ho).mono X S.lt rfl rfl (fun b hb => ⟨push_old E _ d b (S.blk_lt ho hb), fun i h => h⟩)
  · intro f s o f' s' o' b h1 h2 h3 h4
    refine S.inj f s o f' s' o' b h1 h2 ?_ ?_
    · cases o <;> exact h3
    · cases o' <;> exact h4
  · intro i v h
    refine ⟨?_, fun hm => ?_⟩
    · have hp := push_new E (.cells ⟨c⟩ T fr) d
      simp only [Nat.zero_add, Env.newRow, World.cell?, hp]
      simpa using h
    · exact Nat.lt_irrefl _ (S.modsz _ _ hm)

/-! ### Stores -/

theorem setRow_size (w : World) (g : Nat) (c : Array Value) : (w.setRow g c).heap.size = w.heap.size := by simp [World.setRow]

def Env.setRow (E : Env) (b : Nat) (c : List Value) : Env := { E with w := E.w.setRow b ⟨c⟩ }

theorem ext_setRow {k : Nat} {b : Nat} {c0 : Array Value} {T : TypeId} {fr : Nat × Nat} (hb : E.w.heap[b]? = some (.cells c0 T fr)) (hBb : B ≤ b) (c : List Value) (hc : c.length = c0.size)
    (hsame : ∀ i, ¬ E.mod b i → c[i]? = c0[i]?) : Ext k B E (E.setRow b c) where
  size := by simp [Env.setRow]
  shape := fun b' T' n h => by
    by_cases e : b' = b
    · subst e
      have hs := setRow_heap E.w b' c0 ⟨c⟩ T fr hb
      simp only [World.shape?, hb, Option.some.injEq, Prod.mk.injEq] at h
      simp only [Env.setRow, World.shape?, hs, Option.some.injEq, Prod.mk.injEq]
      exact ⟨h.1, by simpa [hc] using h.2⟩
    · simp only [Env.setRow]
      rw [shape_of_heap (setRow_other E.w b b' ⟨c⟩ e)]; exact h
  cell := fun b' i v hm h => by
    by_cases e : b' = b
    · subst e
      have hs := setRow_heap E.w b' c0 ⟨c⟩ T fr hb
      simp only [World.cell?, hb] at h
      simp only [Env.setRow, World.cell?, hs]
      have := hsame i hm
      simp at h ⊢
      rw [this]; exact h
    · simp only [Env.setRow]
      rw [cell_of_heap (setRow_other E.w b b' ⟨c⟩ e)]; exact h
  mod := fun b' i v h hm => hm
  mu := fun f s b' _ h => h
  reg := fun f s n b' lo hi _ hs h => ⟨n, b', lo, hi, h, .inr ⟨rfl, rfl, rfl, rfl⟩⟩
  old := fun b' hb' => by
    simp only [Env.setRow]
    exact setRow_other E.w b b' ⟨c⟩ (by omega)
  rest := ⟨rfl, rfl, rfl⟩
  tab := rfl
  dfr := fun b' h => by
    simp only [Env.setRow]
    rw [setRow_other E.w b b' ⟨c⟩ (by rintro rfl; rw [hb] at h; cases h)]; exact h

theorem Sim.setCells (S : Sim B F H E) {f0 s0 : Nat} {xs0 : List V} (ho : hget H f0 s0 = some (.cells xs0)) {b : Nat} {c0 : Array Value} {T : TypeId} {vs0 rest : List Value}
    (hmu : E.mu f0 s0 = some b) (hb : E.w.heap[b]? = some (.cells c0 T (0, 0))) (hc0 : c0.toList = vs0 ++ rest) (hmod : ∀ i, E.mod b i) (hBb : B ≤ b)
    (xs : List V) (vs : List Value) (hr : RelL E xs vs) (hx : xs.all V.scalar = true) (hl : vs.length = vs0.length) :
    Ext H.length B E (E.setRow b (vs ++ rest)) ∧ Sim B F (hset H f0 s0 (.cells xs)) (E.setRow b (vs ++ rest)) := by
  have hlen : (vs ++ rest).length = c0.size := by
    have : c0.toList.length = (vs0 ++ rest).length := by rw [hc0]
    simp at this ⊢; omega
  have X : Ext H.length B E (E.setRow b (vs ++ rest)) := ext_setRow hb hBb _ hlen (fun i h => absurd (hmod i) h)
  have hblk : blk E f0 s0 (.cells xs0) = some b := hmu
  refine ⟨X, S.step f0 s0 _ (hget_lt ho) X (fun f s e => rfl) (by simp [Env.setRow, hmu]) (fun f s e => rfl) ?_ ?_ ?_ ?_ ?_ ?_⟩
  · intro n x h
    have := S.nreg f0 s0 n x h
    rw [ho] at this; cases this
  · intro f s o b' e ho' hb'
    refine ⟨?_, fun i h => h⟩
    have hne : b' ≠ b := fun e' => e (S.inj f s o f0 s0 _ b' ho' ho hb' (e' ▸ hblk))
    simp only [Env.setRow]
    exact setRow_other E.w b b' _ hne
  · exact fun b i h => S.fmod b i h
  · intro b' i h
    simp only [Env.setRow, setRow_size]
    exact S.modsz b' i h
  · exact ⟨b, ⟨vs ++ rest⟩, T, vs, rest, hmu, hBb, setRow_heap E.w b c0 _ T (0, 0) hb, rfl, RelL.mono X S.lt _ _ hr, hmod, hx⟩
  · intro f s o b' e ho' hb' h
    simp only [blk, Env.setRow, hmu, Option.some.injEq] at h
    subst h
    exact e (S.inj f s o f0 s0 _ b ho' ho hb' hblk)

/-! ### Appends -/

def Env.newTok (E : Env) (f0 s0 n lo hi : Nat) (c : List Value) (T : TypeId) (d : Nat) (z : Nat × Nat := (0, 0)) : Env :=
  { w := E.push (.cells ⟨c⟩ T z) d, mu := upd E.mu f0 s0 (some E.w.heap.size), reg := upd E.reg f0 s0 (some (n, E.w.heap.size, lo, hi)),
    mod := fun b i => E.mod b i ∨ (b = E.w.heap.size ∧ lo ≤ i ∧ i < hi), tab := E.tab }

theorem Sim.newTok (S : Sim B F H E) {f0 s0 : Nat} (hf : f0 < H.length) (hn : hget H f0 s0 = none) (n lo hi : Nat) (c : List Value) (T : TypeId) (d : Nat) (hhi : hi ≤ c.length) (z : Nat × Nat := (0, 0)) (hz : z = (0, 0) ∨ hi ≤ z.1 := by exact .inl rfl) :
    Ext H.length B E (E.newTok f0 s0 n lo hi c T d z) ∧ Sim B F (hset H f0 s0 (.grow n)) (E.newTok f0 s0 n lo hi c T d z) ∧ Row (E.newTok f0 s0 n lo hi c T d z) E.w.heap.size 0 (c.take lo) := by
  have hmn := S.mu_none hn
  have hrn := S.reg_none hn
  have X : Ext H.length B E (E.newTok f0 s0 n lo hi c T d z) := by
    refine ext_push S.bsz _ d _ _ _ ?_ ?_ ?_
    · intro f s b h
      by_cases e : f = f0 ∧ s = s0
      · rw [e.1, e.2, hmn] at h; cases h
      · rw [upd_other _ _ e]; exact h
    · intro f s n b lo hi hs h
      by_cases e : f = f0 ∧ s = s0
      · rw [e.1, e.2, hmn] at hs; cases hs
      · rw [upd_other _ _ e] at h; exact ⟨n, b, lo, hi, h, .inr ⟨rfl, rfl, rfl, rfl⟩⟩
    · intro b i hb hm h
      rcases h with h | h
      · exact hm h
      · omega
  refine ⟨X, S.step f0 s0 _ hf X (fun f s e => upd_other _ _ e) (by simp [Env.newTok, upd_same]) (fun f s e => upd_other _ _ e) ?_ ?_ ?_ ?_ ?_ ?_, ?_⟩
  · intro n' x h
    simp only [Env.newTok, upd_same, Option.some.injEq, Prod.mk.injEq] at h
    rw [h.1]
  · intro f s o b e ho hb
    exact ⟨push_old E _ d b (S.blk_lt ho hb), fun i h => .inl h⟩
  · exact fun b i h => .inl (S.fmod b i h)
  · intro b i h
    simp only [Env.newTok, Env.push, Array.size_push] at h ⊢
    rcases h with h | h
    · exact Nat.lt_succ_of_lt (S.modsz b i h)
    · omega
  · exact ⟨E.w.heap.size, lo, hi, ⟨c⟩, T, z, upd_same _ _ _ _, S.bsz, push_new E _ d, by simpa using hhi, fun i h1 h2 => .inr ⟨rfl, h1, h2⟩, hz⟩
  · intro f s o b e ho hb h
    simp only [blk, Env.newTok, upd_same, Option.map_some, Option.some.injEq] at h
    have := S.blk_lt ho hb
    omega
  · intro i v h
    rw [List.getElem?_take] at h
    split at h
    · rename_i hi'
      refine ⟨?_, fun hm => ?_⟩
      · have hp := push_new E (.cells ⟨c⟩ T z) d
        simp only [Nat.zero_add, Env.newTok, World.cell?, hp]
        simpa using h
      · simp only [Env.newTok, Nat.zero_add] at hm
        rcases hm with hm | hm
        · exact Nat.lt_irrefl _ (S.modsz _ _ hm)
        · omega
    · cases h

def Env.moveTok (E : Env) (f0 s0 n lo hi : Nat) (c : List Value) (T : TypeId) (d : Nat) : Env :=
  { w := E.push (.cells ⟨c⟩ T) d, mu := E.mu, reg := upd E.reg f0 s0 (some (n, E.w.heap.size, lo, hi)),
    mod := fun b i => E.mod b i ∨ (b = E.w.heap.size ∧ lo ≤ i ∧ i < hi), tab := E.tab }

theorem Sim.moveTok (S : Sim B F H E) {f0 s0 n0 b0 lo0 hi0 : Nat} (hr : E.reg f0 s0 = some (n0, b0, lo0, hi0)) (n lo hi : Nat) (hnn : n0 < n) (c : List Value) (T : TypeId) (d : Nat) (hhi : hi ≤ c.length) :
    Ext H.length B E (E.moveTok f0 s0 n lo hi c T d) ∧ Sim B F (hset H f0 s0 (.grow n)) (E.moveTok f0 s0 n lo hi c T d) ∧ Row (E.moveTok f0 s0 n lo hi c T d) E.w.heap.size 0 (c.take lo) := by
  have ho := S.nreg f0 s0 n0 _ hr
  have X : Ext H.length B E (E.moveTok f0 s0 n lo hi c T d) := by
    refine ext_push S.bsz _ d _ _ _ ?_ ?_ ?_
    · exact fun f s b h => h
    · intro f s n' b lo' hi' hs h
      by_cases e : f = f0 ∧ s = s0
      · obtain ⟨rfl, rfl⟩ := e
        simp only [upd_same, Option.some.injEq, Prod.mk.injEq] at h
        exact ⟨n0, b0, lo0, hi0, hr, .inl (by omega)⟩
      · rw [upd_other _ _ e] at h; exact ⟨n', b, lo', hi', h, .inr ⟨rfl, rfl, rfl, rfl⟩⟩
    · intro b i hb hm h
      rcases h with h | h
      · exact hm h
      · omega
  have hsome : (E.mu f0 s0).isSome = true := by rw [← S.dom, ho]; rfl
  refine ⟨X, S.step f0 s0 _ (hget_lt ho) X (fun f s e => rfl) hsome (fun f s e => upd_other _ _ e) ?_ ?_ ?_ ?_ ?_ ?_, ?_⟩
  · intro n' x h
    simp only [Env.moveTok, upd_same, Option.some.injEq, Prod.mk.injEq] at h
    rw [h.1]
  · intro f s o b e ho hb
    exact ⟨push_old E _ d b (S.blk_lt ho hb), fun i h => .inl h⟩
  · exact fun b i h => .inl (S.fmod b i h)
  · intro b i h
    simp only [Env.moveTok, Env.push, Array.size_push] at h ⊢
    rcases h with h | h
    · exact Nat.lt_succ_of_lt (S.modsz b i h)
    · omega
  · exact ⟨E.w.heap.size, lo, hi, ⟨c⟩, T, (0, 0), upd_same _ _ _ _, S.bsz, push_new E _ d, by simpa using hhi, fun i h1 h2 => .inr ⟨rfl, h1, h2⟩, .inl rfl⟩
  · intro f s o b e ho hb h
    simp only [blk, Env.moveTok, upd_same, Option.map_some, Option.some.injEq] at h
    have := S.blk_lt ho hb
    omega
  · intro i v h
    rw [List.getElem?_take] at h
    split at h
    · rename_i hi'
      refine ⟨?_, fun hm => ?_⟩
      · have hp := push_new E (.cells ⟨c⟩ T) d
        simp only [Nat.zero_add, Env.moveTok, World.cell?, hp]
        simpa using h
      · simp only [Env.moveTok, Nat.zero_add] at hm
        rcases hm with hm | hm
        · exact Nat.lt_irrefl _ (S.modsz _ _ hm)
        · omega
    · cases h

def Env.growTok (E : Env) (f0 s0 n b lo lo' hi : Nat) (c : List Value) : Env :=
  { w := E.w.setRow b ⟨c⟩, mu := E.mu, reg := upd E.reg f0 s0 (some (n, b, lo', hi)), mod := fun b' i => E.mod b' i ∧ ¬ (b' = b ∧ lo ≤ i ∧ i < lo'), tab := E.tab }

theorem Sim.growTok (S : Sim B F H E) {f0 s0 n0 b lo hi : Nat} (hr : E.reg f0 s0 = some (n0, b, lo, hi)) {c0 : Array Value} {T : TypeId} {z : Nat × Nat} (hb : E.w.heap[b]? = some (.cells c0 T z))
    (n lo' : Nat) (hnn : n0 < n) (hlo : lo ≤ lo') (hlo' : lo' ≤ hi) (c : List Value) (hc : c.length = c0.size)
    (hsame : ∀ i, ¬ (lo ≤ i ∧ i < lo') → c[i]? = c0[i]?) :
    Ext H.length B E (E.growTok f0 s0 n b lo lo' hi c) ∧ Sim B F (hset H f0 s0 (.grow n)) (E.growTok f0 s0 n b lo lo' hi c) := by
  have ho := S.nreg f0 s0 n0 _ hr
  obtain ⟨b1, lo1, hi1, c1, T1, z1, g1, g2, g3, g4, g5, g6⟩ := S.obj f0 s0 _ ho
  rw [hr] at g1
  simp only [Option.some.injEq, Prod.mk.injEq, true_and] at g1
  obtain ⟨rfl, rfl, rfl⟩ := g1
  rw [hb] at g3
  simp only [Option.some.injEq, Obj.cells.injEq, and_true] at g3
  obtain ⟨rfl, rfl, rfl⟩ := g3
  have hblk : blk E f0 s0 (.grow n0) = some b := by simp [blk, hr]
  have X0 : Ext H.length B E (E.setRow b c) := ext_setRow hb g2 c hc (fun i hm => hsame i (fun h => hm (g5 i h.1 (by omega))))
  have X : Ext H.length B E (E.growTok f0 s0 n b lo lo' hi c) := by
    refine ⟨X0.size, X0.shape, X0.cell, fun b' i v h hm h' => hm h'.1, X0.mu, ?_, X0.old, X0.rest, X0.tab, X0.dfr⟩
    intro f s n' b' lo2 hi2 hf hs h
    by_cases e : f = f0 ∧ s = s0
    · obtain ⟨rfl, rfl⟩ := e
      simp only [Env.growTok, upd_same, Option.some.injEq, Prod.mk.injEq] at h
      exact ⟨n0, b, lo, hi, hr, .inl (by omega)⟩
    · simp only [Env.growTok] at h
      rw [upd_other _ _ e] at h; exact ⟨n', b', lo2, hi2, h, .inr ⟨rfl, rfl, rfl, rfl⟩⟩
  have hsome : (E.mu f0 s0).isSome = true := by rw [← S.dom, ho]; rfl
  have hne : ∀ f s o b', ¬ (f = f0 ∧ s = s0) → hget H f s = some o → blk E f s o = some b' → b' ≠ b :=
    fun f s o b' e ho' hb' e' => e (S.inj f s o f0 s0 _ b' ho' ho hb' (e' ▸ hblk))
  refine ⟨X, S.step f0 s0 _ (hget_lt ho) X (fun f s e => rfl) hsome (fun f s e => upd_other _ _ e) ?_ ?_ ?_ ?_ ?_ ?_⟩
  · intro n' x h
    simp only [Env.growTok, upd_same, Option.some.injEq, Prod.mk.injEq] at h
    rw [h.1]
  · intro f s o b' e ho' hb'
    have := hne f s o b' e ho' hb'
    refine ⟨?_, fun i h => ⟨h, fun h' => this h'.1⟩⟩
    simp only [Env.growTok]
    exact setRow_other E.w b b' _ this
  · exact fun b' i h => ⟨S.fmod b' i h, fun h' => by have := S.fb b' i h; omega⟩
  · intro b' i h
    simp only [Env.growTok, setRow_size]
    exact S.modsz b' i h.1
  · refine ⟨b, lo', hi, ⟨c⟩, T, z, upd_same _ _ _ _, g2, setRow_heap E.w b c0 _ T z hb, ?_, fun i h1 h2 => ⟨g5 i (by omega) h2, fun h => by omega⟩, g6⟩
    simp [hc]; exact g4
  · intro f s o b' e ho' hb' h
    simp only [blk, Env.growTok, upd_same, Option.map_some, Option.some.injEq] at h
    exact hne f s o b' e ho' hb' h.symm

end
end Go.AM
end
