/- This file holds in one the texts An1; each says at its head what it proves. -/
import Derived.Laws.Sem
import Derived.Calls
set_option linter.unusedSimpArgs false
set_option linter.unusedVariables false
section
/- The abstract machine, part 1: abstract values and heaps, how they stand for Go's values and memory (Rel, Sim), and that this is kept while the machine goes on (Ext). Over any program. -/
namespace Go.AM

inductive V where
  | bad
  | bool (b : Bool)
  | int (k : IntKind) (n : Int)
  | str (s : List UInt8)
  | nilptr
  | ptr (f s o : Nat)
  | iptr (cells : List V) (o : Nat)
  | nilslice
  | islice (cells : List V) (len : Nat) (full : Bool)
  | gslice (f s : Nat) (cells : List V) (len esz : Nat)
  | mslice (f s o len : Nat) (cap : Option Nat) (esz : Nat)
  | nilmap
  | map (f s : Nat)
  | func (fn : Fn) (first captured : List V)
  | nilfunc
  | nilface
  | byte
  | face (t : TypeId) (v : V)
  | agg (cells : List V)
  | tuple (vs : List V)
  | yield (f s : Nat)
  | rptr (cells : List V) (o : Nat)
  deriving Inhabited

inductive O where
  | cells (xs : List V)
  | grow (n : Nat)
  | map (es : List (V × V)) (bs : List Nat) (clk : Nat)
  | iter (m : Option (Nat × Nat)) (since : Nat) (seen : List Nat) (stepped : Nat)
  | loop (st : Nat) (pend : Option (Option Nat)) (fn rid : Nat) (t : List V)
  | siter (l : List UInt8) (pos : Nat)
  | dead
  deriving Inhabited

abbrev Frame := List (Nat × O)
abbrev Heap := List Frame

def fget : Frame → Nat → Option O
  | [], _ => none
  | (k, o) :: r, s => if s = k then some o else fget r s
def fset : Frame → Nat → O → Frame
  | [], s, o => [(s, o)]
  | (k, p) :: r, s, o => if s = k then (s, o) :: r else if s < k then (s, o) :: (k, p) :: r else (k, p) :: fset r s o
def hget (H : Heap) (f s : Nat) : Option O :=
  match H[f]? with
  | some fr => fget fr s
  | none => none
def hset (H : Heap) (f s : Nat) (o : O) : Heap := H.modify f fun fr => fset fr s o

theorem fget_fset (fr : Frame) (s : Nat) (o : O) (s' : Nat) : fget (fset fr s o) s' = if s' = s then some o else fget fr s' := by
  induction fr with
  | nil => simp [fset, fget]
  | cons x r ih =>
    obtain ⟨k, p⟩ := x
    simp only [fset]
    by_cases h1 : s = k
    · subst h1; simp only [if_true, fget]; split <;> rfl
    · simp only [h1, if_false]
      by_cases h2 : s < k
      · simp only [h2, if_true, fget]
      · simp only [h2, if_false, fget, ih]
        by_cases h3 : s' = k
        · subst h3; simp only [if_true]; rw [if_neg]; exact fun e => h1 e.symm
        · simp only [h3, if_false]

theorem hget_hset (H : Heap) (f s : Nat) (o : O) (hf : f < H.length) (f' s' : Nat) :
    hget (hset H f s o) f' s' = if f' = f ∧ s' = s then some o else hget H f' s' := by
  unfold hget hset
  rw [List.getElem?_modify]
  by_cases h1 : f = f'
  · subst h1
    rw [List.getElem?_eq_getElem hf]
    simp only [if_true, Option.map_eq_map, Option.map_some, fget_fset, true_and]
  · have : ¬ (f' = f ∧ s' = s) := fun h => h1 h.1.symm
    simp only [h1, if_false, this, Option.map_eq_map]
    cases H[f']? <;> rfl

theorem hset_length (H : Heap) (f s : Nat) (o : O) : (hset H f s o).length = H.length := by simp [hset]

theorem hget_lt {H : Heap} {f s : Nat} {o : O} (h : hget H f s = some o) : f < H.length := by
  unfold hget at h
  rcases Nat.lt_or_ge f H.length with g | g
  · exact g
  · rw [List.getElem?_eq_none g] at h; cases h

structure Env where
  w : World
  mu : Nat → Nat → Option Nat
  reg : Nat → Nat → Option (Nat × Nat × Nat × Nat)
  mod : Nat → Nat → Prop
  tab : FuncId → Nat → Option (Array Tmp × Code × Code)

def Row (E : Env) (b off : Nat) (vs : List Value) : Prop :=
  ∀ i v, vs[i]? = some v → E.w.cell? ⟨b, off + i, none⟩ = some v ∧ ¬ E.mod b (off + i)

def RowAt (E : Env) (a : Addr) (vs : List Value) : Prop :=
  vs = [] ∨ (a.spot = none ∧ Row E a.block a.off vs)

mutual
def V.pure : V → Bool
  | .ptr _ _ _ | .mslice _ _ _ _ _ _ | .gslice _ _ _ _ _ | .map _ _ | .yield _ _ | .rptr _ _ => false
  | .func _ a b => pureL a && pureL b
  | .face _ v => v.pure
  | .agg xs | .tuple xs => pureL xs
  | _ => true
def pureL : List V → Bool
  | [] => true
  | x :: xs => x.pure && pureL xs
end

mutual
def Rel (E : Env) : V → Value → Prop
  | .bad, _ => True
  | .bool b, v => v = .bool b
  | .int k n, v => v = .int k n
  | .str s, v => v = .string ⟨⟨s⟩⟩
  | .nilptr, v => v = .pointer none
  | .ptr f s o, v => ∃ b, E.mu f s = some b ∧ v = .pointer (some ⟨b, o, none⟩)
  | .iptr cells o, v => ∃ b off vs, v = .pointer (some ⟨b, off + o, none⟩) ∧ Row E b off vs ∧ RelL E cells vs ∧ pureL cells = true
  | .nilslice, v => v = .slice none 0 0
  | .islice cells len full, v => ∃ a cap vs, v = .slice (some a) len cap ∧ len ≤ cap ∧ (full = true → cap = len) ∧ RowAt E a vs ∧ RelL E cells vs ∧ pureL cells = true
  | .gslice f s cells len esz, v => ∃ b off cap vs, v = .slice (some ⟨b, off, none⟩) len cap ∧ len ≤ cap ∧ Row E b off vs ∧ RelL E cells vs ∧
      cells.length = len * esz ∧ (E.mu f s).isSome ∧
      ∀ n b' lo hi, E.reg f s = some (n, b', lo, hi) → len ≤ n ∧ (len = n → b' = b ∧ lo = off + len * esz ∧ hi = off + cap * esz)
  | .mslice f s o len cap esz, v => ∃ b c T n, E.mu f s = some b ∧ v = .slice (some ⟨b, o, none⟩) len c ∧ len ≤ c ∧ (∀ k, cap = some k → c = k) ∧
      E.w.shape? b = some (T, n) ∧ o + c * esz ≤ n ∧ (cap = none → o + c * esz = n)
  | .nilmap, v => v = .map none
  | .map f s, v => ∃ b, E.mu f s = some b ∧ v = .map (some b)
  | .yield f s, v => ∃ b, E.mu f s = some b ∧ v = .func (.yield b) #[] #[]
  | .rptr cells o, v => ∃ b off vs, v = .pointer (some ⟨b, off + o, none⟩) ∧ Row E b off vs ∧ RelL E cells vs
  | .func fn first captured, v => ∃ fs cs, v = .func fn ⟨fs⟩ ⟨cs⟩ ∧ RelL E first fs ∧ RelL E captured cs
  | .nilfunc, v => v = .nilFunc
  | .nilface, v => v = .nilIface
  | .byte, v => ∃ n, v = .int .u8 n
  | .face t x, v => ∃ c, v = .iface t c ∧ Rel E x c
  | .agg cells, v => ∃ vs, v = .agg ⟨vs⟩ ∧ RelL E cells vs
  | .tuple xs, v => ∃ vs, v = .tuple ⟨vs⟩ ∧ RelL E xs vs
def RelL (E : Env) : List V → List Value → Prop
  | [], vs => vs = []
  | x :: xs, vs => ∃ v r, vs = v :: r ∧ Rel E x v ∧ RelL E xs r
end

def V.scalar : V → Bool
  | .bad | .agg _ | .tuple _ => false
  | _ => true

theorem Rel.oneCell {E : Env} {x : V} {v : Value} (h : Rel E x v) (hx : x.scalar = true) : v.oneCell' = true := by
  cases x <;> simp only [V.scalar, Bool.false_eq_true] at hx <;> simp only [Rel] at h
  case bool => subst h; rfl
  case int => subst h; rfl
  case str => subst h; rfl
  case nilptr => subst h; rfl
  case ptr => obtain ⟨_, _, rfl⟩ := h; rfl
  case iptr => obtain ⟨_, _, _, rfl, _⟩ := h; rfl
  case nilslice => subst h; rfl
  case islice => obtain ⟨_, _, _, rfl, _⟩ := h; rfl
  case gslice => obtain ⟨_, _, _, _, rfl, _⟩ := h; rfl
  case mslice => obtain ⟨_, _, _, _, _, rfl, _⟩ := h; rfl
  case nilmap => subst h; rfl
  case map => obtain ⟨_, _, rfl⟩ := h; rfl
  case yield => obtain ⟨_, _, rfl⟩ := h; rfl
  case rptr => obtain ⟨_, _, _, rfl, _⟩ := h; rfl
  case func => obtain ⟨_, _, rfl, _⟩ := h; rfl
  case nilfunc => subst h; rfl
  case nilface => subst h; rfl
  case byte => obtain ⟨n, rfl⟩ := h; rfl
  case face => obtain ⟨_, rfl, _⟩ := h; rfl

section lists
variable {E : Env}

theorem RelL.nil_iff {vs : List Value} : RelL E [] vs ↔ vs = [] := Iff.rfl
theorem RelL.cons_iff {x : V} {xs : List V} {vs : List Value} : RelL E (x :: xs) vs ↔ ∃ v r, vs = v :: r ∧ Rel E x v ∧ RelL E xs r := by
  constructor
  · intro h; rw [RelL] at h; exact h
  · intro h; rw [RelL]; exact h
theorem RelL.cons {x : V} {xs : List V} {v : Value} {vs : List Value} (h : Rel E x v) (hs : RelL E xs vs) : RelL E (x :: xs) (v :: vs) :=
  RelL.cons_iff.2 ⟨v, vs, rfl, h, hs⟩
theorem RelL.nil : RelL E [] [] := RelL.nil_iff.2 rfl

theorem RelL.length {xs : List V} : ∀ {vs : List Value}, RelL E xs vs → xs.length = vs.length := by
  induction xs with
  | nil => intro vs h; rw [RelL.nil_iff] at h; subst h; rfl
  | cons x xs ih => intro vs h; obtain ⟨v, r, rfl, _, hr⟩ := RelL.cons_iff.1 h; simp [ih hr]

theorem RelL.get {xs : List V} : ∀ {vs : List Value}, RelL E xs vs → ∀ {i : Nat} {x : V}, xs[i]? = some x → ∃ v, vs[i]? = some v ∧ Rel E x v := by
  induction xs with
  | nil => intro vs h i x hx; simp at hx
  | cons y ys ih =>
    intro vs h i x hx
    obtain ⟨v, r, rfl, hv, hr⟩ := RelL.cons_iff.1 h
    cases i with
    | zero => simp at hx; subst hx; exact ⟨v, by simp, hv⟩
    | succ i => simp at hx; obtain ⟨u, hu, hr⟩ := ih hr hx; exact ⟨u, by simpa using hu, hr⟩

theorem RelL.of_get {xs : List V} : ∀ {vs : List Value}, xs.length = vs.length → (∀ (i : Nat) (x : V) (v : Value), xs[i]? = some x → vs[i]? = some v → Rel E x v) → RelL E xs vs := by
  induction xs with
  | nil => intro vs h _; cases vs with | nil => exact .nil | cons => simp at h
  | cons y ys ih =>
    intro vs h hg
    cases vs with
    | nil => simp at h
    | cons v vs => exact .cons (hg 0 y v (by simp) (by simp)) (ih (by simpa using h) fun i x u hx hu => hg (i + 1) x u (by simpa using hx) (by simpa using hu))

theorem RelL.append {xs ys : List V} : ∀ {vs us : List Value}, RelL E xs vs → RelL E ys us → RelL E (xs ++ ys) (vs ++ us) := by
  induction xs with
  | nil => intro vs us h h2; rw [RelL.nil_iff] at h; subst h; exact h2
  | cons x xs ih => intro vs us h h2; obtain ⟨v, r, rfl, hv, hr⟩ := RelL.cons_iff.1 h; exact .cons hv (ih hr h2)

theorem RelL.take {xs : List V} : ∀ {vs : List Value} (n : Nat), RelL E xs vs → RelL E (xs.take n) (vs.take n) := by
  induction xs with
  | nil => intro vs n h; rw [RelL.nil_iff] at h; subst h; simp [RelL.nil]
  | cons x xs ih =>
    intro vs n h
    obtain ⟨v, r, rfl, hv, hr⟩ := RelL.cons_iff.1 h
    cases n with
    | zero => exact .nil
    | succ n => exact .cons hv (ih n hr)

theorem RelL.drop {xs : List V} : ∀ {vs : List Value} (n : Nat), RelL E xs vs → RelL E (xs.drop n) (vs.drop n) := by
  induction xs with
  | nil => intro vs n h; rw [RelL.nil_iff] at h; subst h; simp [RelL.nil]
  | cons x xs ih =>
    intro vs n h
    obtain ⟨v, r, rfl, hv, hr⟩ := RelL.cons_iff.1 h
    cases n with
    | zero => exact .cons hv hr
    | succ n => simpa using ih n hr

theorem RelL.set {xs : List V} : ∀ {vs : List Value} (i : Nat) {x : V} {v : Value}, RelL E xs vs → Rel E x v → RelL E (xs.set i x) (vs.set i v) := by
  induction xs with
  | nil => intro vs i x v h _; rw [RelL.nil_iff] at h; subst h; simp [RelL.nil]
  | cons y ys ih =>
    intro vs i x v h hx
    obtain ⟨u, r, rfl, hu, hr⟩ := RelL.cons_iff.1 h
    cases i with
    | zero => exact .cons hx hr
    | succ i => exact .cons hu (ih i hr hx)

theorem RelL.replicate (n : Nat) {x : V} {v : Value} (h : Rel E x v) : RelL E (List.replicate n x) (List.replicate n v) := by
  induction n with
  | zero => exact .nil
  | succ n ih => exact .cons h ih

end lists

structure Ext (k B : Nat) (E E' : Env) : Prop where
  size : E.w.heap.size ≤ E'.w.heap.size
  shape : ∀ b T n, E.w.shape? b = some (T, n) → E'.w.shape? b = some (T, n)
  cell : ∀ b i v, ¬ E.mod b i → E.w.cell? ⟨b, i, none⟩ = some v → E'.w.cell? ⟨b, i, none⟩ = some v
  mod : ∀ b i v, E.w.cell? ⟨b, i, none⟩ = some v → ¬ E.mod b i → ¬ E'.mod b i
  mu : ∀ f s b, f < k → E.mu f s = some b → E'.mu f s = some b
  reg : ∀ f s n b lo hi, f < k → (E.mu f s).isSome → E'.reg f s = some (n, b, lo, hi) →
    ∃ n0 b0 lo0 hi0, E.reg f s = some (n0, b0, lo0, hi0) ∧ (n0 < n ∨ (n = n0 ∧ b = b0 ∧ lo = lo0 ∧ hi = hi0))
  old : ∀ b, b < B → E'.w.heap[b]? = E.w.heap[b]?
  rest : E'.w.tape = E.w.tape ∧ E'.w.os = E.w.os ∧ E'.w.output = E.w.output
  tab : E'.tab = E.tab
  dfr : ∀ b : Nat, E.w.heap[b]? = some (Obj.deferred (some [])) → E'.w.heap[b]? = some (Obj.deferred (some []))

theorem Ext.refl (k B : Nat) (E : Env) : Ext k B E E where
  size := Nat.le_refl _
  shape := fun _ _ _ h => h
  cell := fun _ _ _ _ h => h
  mod := fun _ _ _ _ h => h
  mu := fun _ _ _ _ h => h
  reg := fun _ _ n b lo hi _ _ h => ⟨n, b, lo, hi, h, .inr ⟨rfl, rfl, rfl, rfl⟩⟩
  old := fun _ _ => rfl
  rest := ⟨rfl, rfl, rfl⟩
  tab := rfl
  dfr := fun _ h => h

theorem Ext.trans {k B : Nat} {E₁ E₂ E₃ : Env} (h : Ext k B E₁ E₂) (g : Ext k B E₂ E₃) : Ext k B E₁ E₃ where
  size := Nat.le_trans h.size g.size
  shape := fun b T n e => g.shape b T n (h.shape b T n e)
  cell := fun b i v hm e => g.cell b i v (h.mod b i v e hm) (h.cell b i v hm e)
  mod := fun b i v e hm => g.mod b i v (h.cell b i v hm e) (h.mod b i v e hm)
  mu := fun f s b hf e => g.mu f s b hf (h.mu f s b hf e)
  reg := fun f s n b lo hi hf hs e => by
    have hs2 : (E₂.mu f s).isSome := by
      cases hm : E₁.mu f s with
      | none => rw [hm] at hs; cases hs
      | some x => rw [h.mu f s x hf hm]; rfl
    obtain ⟨n1, b1, lo1, hi1, e1, d1⟩ := g.reg f s n b lo hi hf hs2 e
    obtain ⟨n0, b0, lo0, hi0, e0, d0⟩ := h.reg f s n1 b1 lo1 hi1 hf hs e1
    refine ⟨n0, b0, lo0, hi0, e0, ?_⟩
    rcases d1 with d1 | ⟨rfl, rfl, rfl, rfl⟩
    · rcases d0 with d0 | ⟨rfl, _, _, _⟩
      · exact .inl (Nat.lt_trans d0 d1)
      · exact .inl d1
    · exact d0
  old := fun b hb => (g.old b hb).trans (h.old b hb)
  rest := ⟨g.rest.1.trans h.rest.1, g.rest.2.1.trans h.rest.2.1, g.rest.2.2.trans h.rest.2.2⟩
  tab := g.tab.trans h.tab
  dfr := fun b h0 => g.dfr b (h.dfr b h0)

theorem Ext.less {k k' B B' : Nat} {E E' : Env} (h : Ext k B E E') (hk : k' ≤ k) (hB : B' ≤ B) : Ext k' B' E E' where
  size := h.size
  shape := h.shape
  cell := h.cell
  mod := h.mod
  mu := fun f s b hf => h.mu f s b (Nat.lt_of_lt_of_le hf hk)
  reg := fun f s n b lo hi hf => h.reg f s n b lo hi (Nat.lt_of_lt_of_le hf hk)
  old := fun b hb => h.old b (Nat.lt_of_lt_of_le hb hB)
  rest := h.rest
  tab := h.tab
  dfr := h.dfr

theorem Row.mono {k B : Nat} {E E' : Env} (h : Ext k B E E') {b off : Nat} {vs : List Value} (r : Row E b off vs) : Row E' b off vs :=
  fun i v hv => ⟨h.cell _ _ _ (r i v hv).2 (r i v hv).1, h.mod _ _ _ (r i v hv).1 (r i v hv).2⟩

theorem RowAt.mono {k B : Nat} {E E' : Env} (h : Ext k B E E') {a : Addr} {vs : List Value} (r : RowAt E a vs) : RowAt E' a vs :=
  r.imp id fun ⟨hs, hr⟩ => ⟨hs, hr.mono h⟩

mutual
theorem Rel.mono {k B : Nat} {E E' : Env} (h : Ext k B E E') (hk : ∀ f s, (E.mu f s).isSome → f < k) : ∀ (x : V) (v : Value), Rel E x v → Rel E' x v
  | .bad, _, _ => by simp [Rel]
  | .bool _, _, r | .int _ _, _, r | .str _, _, r | .nilptr, _, r | .nilslice, _, r | .nilmap, _, r | .nilfunc, _, r | .nilface, _, r | .byte, _, r => by
    simpa only [Rel] using r
  | .ptr f s o, _, r => by
    simp only [Rel] at r ⊢
    obtain ⟨b, hb, rfl⟩ := r
    exact ⟨b, h.mu f s b (hk f s (by simp [hb])) hb, rfl⟩
  | .iptr cells o, _, r => by
    simp only [Rel] at r ⊢
    obtain ⟨b, off, vs, rfl, hr, hl, hp⟩ := r
    exact ⟨b, off, vs, rfl, hr.mono h, RelL.mono h hk cells vs hl, hp⟩
  | .rptr cells o, _, r => by
    simp only [Rel] at r ⊢
    obtain ⟨b, off, vs, rfl, hr, hl⟩ := r
    exact ⟨b, off, vs, rfl, hr.mono h, RelL.mono h hk cells vs hl⟩
  | .islice cells len full, _, r => by
    simp only [Rel] at r ⊢
    obtain ⟨a, cap, vs, rfl, h1, h2, hr, hl, hp⟩ := r
    exact ⟨a, cap, vs, rfl, h1, h2, hr.mono h, RelL.mono h hk cells vs hl, hp⟩
  | .gslice f s cells len esz, _, r => by
    simp only [Rel] at r ⊢
    obtain ⟨b, off, cap, vs, rfl, h1, hr, hl, hlen, hmu, hreg⟩ := r
    have hf := hk f s hmu
    refine ⟨b, off, cap, vs, rfl, h1, hr.mono h, RelL.mono h hk cells vs hl, hlen, ?_, ?_⟩
    · cases hm : E.mu f s with
      | none => rw [hm] at hmu; cases hmu
      | some x => rw [h.mu f s x hf hm]; rfl
    · intro n b' lo hi e
      obtain ⟨n0, b0, lo0, hi0, e0, d⟩ := h.reg f s n b' lo hi hf hmu e
      obtain ⟨hle, heq⟩ := hreg n0 b0 lo0 hi0 e0
      rcases d with d | ⟨rfl, rfl, rfl, rfl⟩
      · exact ⟨by omega, fun e' => by omega⟩
      · exact ⟨hle, heq⟩
  | .mslice f s o len cap esz, _, r => by
    simp only [Rel] at r ⊢
    obtain ⟨b, c, T, n, hb, rfl, h1, h2, h3, h4⟩ := r
    exact ⟨b, c, T, n, h.mu f s b (hk f s (by simp [hb])) hb, rfl, h1, h2, h.shape _ _ _ h3, h4⟩
  | .map f s, _, r => by
    simp only [Rel] at r ⊢
    obtain ⟨b, hb, rfl⟩ := r
    exact ⟨b, h.mu f s b (hk f s (by simp [hb])) hb, rfl⟩
  | .yield f s, _, r => by
    simp only [Rel] at r ⊢
    obtain ⟨b, hb, rfl⟩ := r
    exact ⟨b, h.mu f s b (hk f s (by simp [hb])) hb, rfl⟩
  | .func fn first captured, _, r => by
    simp only [Rel] at r ⊢
    obtain ⟨fs, cs, rfl, h1, h2⟩ := r
    exact ⟨fs, cs, rfl, RelL.mono h hk first fs h1, RelL.mono h hk captured cs h2⟩
  | .face t x, _, r => by
    simp only [Rel] at r ⊢
    obtain ⟨c, rfl, hc⟩ := r
    exact ⟨c, rfl, Rel.mono h hk x c hc⟩
  | .agg cells, _, r => by
    simp only [Rel] at r ⊢
    obtain ⟨vs, rfl, hl⟩ := r
    exact ⟨vs, rfl, RelL.mono h hk cells vs hl⟩
  | .tuple cells, _, r => by
    simp only [Rel] at r ⊢
    obtain ⟨vs, rfl, hl⟩ := r
    exact ⟨vs, rfl, RelL.mono h hk cells vs hl⟩
theorem RelL.mono {k B : Nat} {E E' : Env} (h : Ext k B E E') (hk : ∀ f s, (E.mu f s).isSome → f < k) : ∀ (xs : List V) (vs : List Value), RelL E xs vs → RelL E' xs vs
  | [], _, r => r
  | x :: xs, _, r => by
    obtain ⟨v, r', rfl, hv, hr⟩ := RelL.cons_iff.1 r
    exact .cons (Rel.mono h hk x v hv) (RelL.mono h hk xs r' hr)
end

structure Lite (k : Nat) (E E' : Env) : Prop where
  shape : ∀ b T n, E.w.shape? b = some (T, n) → E'.w.shape? b = some (T, n)
  cell : ∀ b i v, ¬ E.mod b i → E.w.cell? ⟨b, i, none⟩ = some v → E'.w.cell? ⟨b, i, none⟩ = some v
  mod : ∀ b i v, E.w.cell? ⟨b, i, none⟩ = some v → ¬ E.mod b i → ¬ E'.mod b i
  mu : ∀ f s b, f < k → E.mu f s = some b → E'.mu f s = some b
  reg : ∀ f s n b lo hi, f < k → (E.mu f s).isSome → E'.reg f s = some (n, b, lo, hi) →
    ∃ n0 b0 lo0 hi0, E.reg f s = some (n0, b0, lo0, hi0) ∧ (n0 < n ∨ (n = n0 ∧ b = b0 ∧ lo = lo0 ∧ hi = hi0))

theorem Row.lite {k : Nat} {E E' : Env} (h : Lite k E E') {b off : Nat} {vs : List Value} (r : Row E b off vs) : Row E' b off vs :=
  fun i v hv => ⟨h.cell _ _ _ (r i v hv).2 (r i v hv).1, h.mod _ _ _ (r i v hv).1 (r i v hv).2⟩

theorem RowAt.lite {k : Nat} {E E' : Env} (h : Lite k E E') {a : Addr} {vs : List Value} (r : RowAt E a vs) : RowAt E' a vs :=
  r.imp id fun ⟨hs, hr⟩ => ⟨hs, hr.lite h⟩

mutual
theorem Rel.lite {k : Nat} {E E' : Env} (h : Lite k E E') (hk : ∀ f s, (E.mu f s).isSome → f < k) : ∀ (x : V) (v : Value), Rel E x v → Rel E' x v
  | .bad, _, _ => by simp [Rel]
  | .bool _, _, r | .int _ _, _, r | .str _, _, r | .nilptr, _, r | .nilslice, _, r | .nilmap, _, r | .nilfunc, _, r | .nilface, _, r | .byte, _, r => by
    simpa only [Rel] using r
  | .ptr f s o, _, r => by
    simp only [Rel] at r ⊢
    obtain ⟨b, hb, rfl⟩ := r
    exact ⟨b, h.mu f s b (hk f s (by simp [hb])) hb, rfl⟩
  | .iptr cells o, _, r => by
    simp only [Rel] at r ⊢
    obtain ⟨b, off, vs, rfl, hr, hl, hp⟩ := r
    exact ⟨b, off, vs, rfl, hr.lite h, RelL.lite h hk cells vs hl, hp⟩
  | .rptr cells o, _, r => by
    simp only [Rel] at r ⊢
    obtain ⟨b, off, vs, rfl, hr, hl⟩ := r
    exact ⟨b, off, vs, rfl, hr.lite h, RelL.lite h hk cells vs hl⟩
  | .islice cells len full, _, r => by
    simp only [Rel] at r ⊢
    obtain ⟨a, cap, vs, rfl, h1, h2, hr, hl, hp⟩ := r
    exact ⟨a, cap, vs, rfl, h1, h2, hr.lite h, RelL.lite h hk cells vs hl, hp⟩
  | .gslice f s cells len esz, _, r => by
    simp only [Rel] at r ⊢
    obtain ⟨b, off, cap, vs, rfl, h1, hr, hl, hlen, hmu, hreg⟩ := r
    have hf := hk f s hmu
    refine ⟨b, off, cap, vs, rfl, h1, hr.lite h, RelL.lite h hk cells vs hl, hlen, ?_, ?_⟩
    · cases hm : E.mu f s with
      | none => rw [hm] at hmu; cases hmu
      | some x => rw [h.mu f s x hf hm]; rfl
    · intro n b' lo hi e
      obtain ⟨n0, b0, lo0, hi0, e0, d⟩ := h.reg f s n b' lo hi hf hmu e
      obtain ⟨hle, heq⟩ := hreg n0 b0 lo0 hi0 e0
      rcases d with d | ⟨rfl, rfl, rfl, rfl⟩
      · exact ⟨by omega, fun e' => by omega⟩
      · exact ⟨hle, heq⟩
  | .mslice f s o len cap esz, _, r => by
    simp only [Rel] at r ⊢
    obtain ⟨b, c, T, n, hb, rfl, h1, h2, h3, h4⟩ := r
    exact ⟨b, c, T, n, h.mu f s b (hk f s (by simp [hb])) hb, rfl, h1, h2, h.shape _ _ _ h3, h4⟩
  | .map f s, _, r => by
    simp only [Rel] at r ⊢
    obtain ⟨b, hb, rfl⟩ := r
    exact ⟨b, h.mu f s b (hk f s (by simp [hb])) hb, rfl⟩
  | .yield f s, _, r => by
    simp only [Rel] at r ⊢
    obtain ⟨b, hb, rfl⟩ := r
    exact ⟨b, h.mu f s b (hk f s (by simp [hb])) hb, rfl⟩
  | .func fn first captured, _, r => by
    simp only [Rel] at r ⊢
    obtain ⟨fs, cs, rfl, h1, h2⟩ := r
    exact ⟨fs, cs, rfl, RelL.lite h hk first fs h1, RelL.lite h hk captured cs h2⟩
  | .face t x, _, r => by
    simp only [Rel] at r ⊢
    obtain ⟨c, rfl, hc⟩ := r
    exact ⟨c, rfl, Rel.lite h hk x c hc⟩
  | .agg cells, _, r => by
    simp only [Rel] at r ⊢
    obtain ⟨vs, rfl, hl⟩ := r
    exact ⟨vs, rfl, RelL.lite h hk cells vs hl⟩
  | .tuple cells, _, r => by
    simp only [Rel] at r ⊢
    obtain ⟨vs, rfl, hl⟩ := r
    exact ⟨vs, rfl, RelL.lite h hk cells vs hl⟩
theorem RelL.lite {k : Nat} {E E' : Env} (h : Lite k E E') (hk : ∀ f s, (E.mu f s).isSome → f < k) : ∀ (xs : List V) (vs : List Value), RelL E xs vs → RelL E' xs vs
  | [], _, r => r
  | x :: xs, _, r => by
    obtain ⟨v, r', rfl, hv, hr⟩ := RelL.cons_iff.1 r
    exact .cons (Rel.lite h hk x v hv) (RelL.lite h hk xs r' hr)
end

end Go.AM
end
