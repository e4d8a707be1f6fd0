/- This file holds in one the texts Am37, Am36, Am38, Am39; each says at its head what it proves. -/
import Derived.Test.YtebbgmeomkjibaaP19
import Derived.Test.YtebbgmeomkjibaaP22
import Derived.Sort.KeysCollected
import Derived.Laws.AppendOwn
import Derived.Lib.SlKeysI
set_option linter.unusedSimpArgs false
set_option linter.unusedVariables false
section
/- The abstract machine, part 37: loops over maps: whatever the order, one outcome. -/
namespace Go.AM

/-- Where the first operation's value goes, and what is behind it. -/
def itF : Code → Option (Option Nat × List It)
  | .region _ ops false => (match ops.toList with
    | o :: r => some (o.dst, [.ops ops r])
    | [] => none)
  | .seq a b => (match itF a with
    | some (d, k) => some (d, k ++ [.code b])
    | none => none)
  | _ => none

section
variable {P : Program} {pol : Pol} {C : Call} {L : MBody → Body} {fn fr : Nat} {t : List V} {H : Heap} {Q : Ex → List V → Heap → Prop}

theorem u_append : ∀ (k k' : List It) (e : Ex) (t : List V) (H : Heap), U P pol C L fn fr (k ++ k') e t H = (U P pol C L fn fr k e t H).bind fun x => U P pol C L fn fr k' x.1 x.2.1 x.2.2
  | [], _, _, _, _ => rfl
  | .code c :: k, k', e, t, H => by
    cases e with
    | normal =>
      simp only [List.cons_append, U]
      cases exec P pol C L fn fr c t H with
      | none => rfl
      | some x => exact u_append k k' x.1 x.2.1 x.2.2
    | exit i => exact u_append k k' _ t H
    | ret => exact u_append k k' _ t H
    | panic v => exact u_append k k' _ t H
  | .ops a l :: k, k', e, t, H => by
    cases e with
    | normal =>
      simp only [List.cons_append, U]
      cases runOps P pol C fn fr a l t H with
      | none => rfl
      | some x => exact u_append k k' x.1 x.2.1 x.2.2
    | exit i => exact u_append k k' _ t H
    | ret => exact u_append k k' _ t H
    | panic v => exact u_append k k' _ t H
  | .opsT a l T :: k, k', e, t, H => by
    cases e with
    | normal =>
      simp only [List.cons_append, U]
      cases runOpsT P pol C fn fr a l t H with
      | none => rfl
      | some x =>
        simp only [Option.bind_some]
        split
        · exact u_append k k' _ _ _
        · rfl
    | exit i => exact u_append k k' _ t H
    | ret => exact u_append k k' _ t H
    | panic v => exact u_append k k' _ t H
  | .block id :: k, k', e, t, H => by
    cases e with
    | exit i =>
      simp only [List.cons_append, U]
      split
      · exact u_append k k' _ t H
      · exact u_append k k' _ t H
    | normal => exact u_append k k' _ t H
    | ret => exact u_append k k' _ t H
    | panic v => exact u_append k k' _ t H

theorem execF_it {v : V} {w : Option (Nat × Nat × O)} : ∀ {c : Code} {d : Option Nat} {k : List It}, itF c = some (d, k) → ∀ (t : List V) (H : Heap), execF P pol C L fn fr c v w t H = U P pol C L fn fr k .normal (putT t d v) (wr H w) := by
  intro c
  induction c with
  | region id ops draw =>
    intro d k h t H
    cases draw with
    | true => cases h
    | false =>
      simp only [itF] at h
      simp only [execF]
      cases ho : ops.toList with
      | nil => rw [ho] at h; cases h
      | cons o r =>
        rw [ho] at h
        cases h
        simp only [U]
        cases runOps P pol C fn fr ops r (putT t o.dst v) (wr H w) with
        | none => rfl
        | some x => rfl
  | seq a b iha ihb =>
    intro d k h t H
    simp only [itF] at h
    cases ha : itF a with
    | none => rw [ha] at h; cases h
    | some x =>
      obtain ⟨d', k'⟩ := x
      rw [ha] at h
      cases h
      simp only [execF, iha ha, u_append]
      cases U P pol C L fn fr k' .normal (putT t d v) (wr H w) with
      | none => rfl
      | some x =>
        obtain ⟨e, t1, H1⟩ := x
        cases e with
        | normal => simp only [Option.bind_some, u_start]
        | exit i => rfl
        | ret => rfl
        | panic v => rfl
  | _ => intro d k h; cases h

/-- A loop over a map comes to R, whatever the order, where each step keeps what is at its head, or ends with R. -/
theorem range_eq {α : Type} {b : Code} {x : Operand} {d : Option Nat} {k : List It} (hn : headNext b = some x) (hi : itF b = some (d, k)) (R : Ex × List V × Heap) (I : α → List V → Heap → Prop) (m : α → Nat)
    (step : ∀ a t H, I a t H → ∃ t1 H1 cs, forget pol fn fr (fstRegion b) t H = some (t1, H1) ∧ nextC (hget H1) (rho t1 x) = some cs ∧
      ∀ c ∈ cs, W (U P pol C loopW fn fr k .normal (putT t1 d c.1) (wr H1 c.2)) fun e t2 H2 => match e with
        | .normal => ∃ a', I a' t2 H2 ∧ m a' < m a
        | e => R = (e, t2, H2)) (a : α) (h : I a t H) : loopW (round P pol C loopW fn fr b) t H = some R := by
  induction hm : m a using Nat.strongRecOn generalizing a t H with
  | ind n ih =>
    subst hm
    obtain ⟨t1, H1, cs, h1, h2, h3⟩ := step a t H h
    rw [loopW_eq]
    have hr : round P pol C loopW fn fr b t H = cs.map fun c => U P pol C loopW fn fr k .normal (putT t1 d c.1) (wr H1 c.2) := by
      simp only [round, h1, hn, h2, execF_it hi]
    rw [hr]
    refine agree_of (by simpa using nextC_ne h2) fun y hy => ?_
    rw [List.map_map] at hy
    obtain ⟨c, hc, rfl⟩ := List.mem_map.1 hy
    obtain ⟨e, t2, H2, q1, q2⟩ := (h3 c hc).out
    simp only [Function.comp, q1]
    cases e with
    | normal =>
      obtain ⟨a', q3, q4⟩ := q2
      exact ih _ q4 a' q3 rfl
    | exit i => exact congrArg some q2.symm
    | ret => exact congrArg some q2.symm
    | panic v => exact congrArg some q2.symm

theorem W.range {α : Type} {b : Code} {x : Operand} {d : Option Nat} {k : List It} (hn : headNext b = some x) (hi : itF b = some (d, k)) (R : Ex × List V × Heap) (I : α → List V → Heap → Prop) (m : α → Nat)
    (step : ∀ a t H, I a t H → ∃ t1 H1 cs, forget pol fn fr (fstRegion b) t H = some (t1, H1) ∧ nextC (hget H1) (rho t1 x) = some cs ∧
      ∀ c ∈ cs, W (U P pol C loopW fn fr k .normal (putT t1 d c.1) (wr H1 c.2)) fun e t2 H2 => match e with
        | .normal => ∃ a', I a' t2 H2 ∧ m a' < m a
        | e => R = (e, t2, H2)) (a : α) (h : I a t H) (hQ : Q R.1 R.2.1 R.2.2) : W (loopW (round P pol C loopW fn fr b) t H) Q := by
  rw [range_eq hn hi R I m step a h]; exact hQ

/-- The steps that may come. -/
theorem nextC_map {g : Get} {f s : Nat} {m : Nat × Nat} {since stepped clk : Nat} {seen : List Nat} {es : List (V × V)} {bs : List Nat} (h1 : g f s = some (.iter (some m) since seen stepped)) (h2 : g m.1 m.2 = some (.map es bs clk))
    (h3 : ∀ b ∈ bs, b < since) (h4 : since ≤ stepped) : ∃ cs, nextC g (.ptr f s 0) = some cs ∧ ∀ c ∈ cs, (leftE seen es bs = [] ∧ c = (.tuple [.bool false], some (f, s, .dead))) ∨
      ∃ e ∈ leftE seen es bs, c = (.tuple [.bool true, e.1.1, e.1.2], some (f, s, .iter (some m) since (seen ++ [e.2]) clk)) := by
  have hall : (bs.all (fun b => decide (b < since)) && decide (since ≤ stepped)) = true := by
    rw [Bool.and_eq_true, List.all_eq_true]
    exact ⟨fun b hb => decide_eq_true (h3 b hb), decide_eq_true h4⟩
  simp only [nextC, h1, h2, hall, if_true]
  cases hl : leftE seen es bs with
  | nil => exact ⟨_, rfl, fun c hc => .inl ⟨rfl, List.mem_singleton.1 hc⟩⟩
  | cons y l =>
    refine ⟨_, rfl, fun c hc => .inr ?_⟩
    obtain ⟨e, he, rfl⟩ := List.mem_map.1 hc
    exact ⟨e, he, rfl⟩

theorem nextC_nil {g : Get} {f s since stepped : Nat} {seen : List Nat} (h1 : g f s = some (.iter none since seen stepped)) : nextC g (.ptr f s 0) = some [(.tuple [.bool false], some (f, s, .dead))] := by
  simp only [nextC, h1]

end
end Go.AM
end
section
/- The abstract machine, part 36: maps.clone. -/
namespace Go.AM
section
variable {P : Program} {E : Env} {B : Nat} {F : Nat → Nat → Prop} {H : Heap}

/-- maps.clone: the same entries in a new map. -/
def primClone : Prim := fun fr dst g as => match as, dst with
  | [.face t (.map f s)], some d => (match g fr d, g f s with
    | none, some (.map es bs clk) => some (.face t (.map fr d), some (fr, d, .map es bs clk))
    | _, _ => none)
  | _, _ => none

def Env.newMapOf (E : Env) (f0 s0 : Nat) (ces : Array MapEntry) (clk d : Nat) : Env :=
  { w := E.push (.map ces clk) d, mu := upd E.mu f0 s0 (some E.w.heap.size), reg := E.reg, mod := E.mod }

theorem Sim.newMapOf (S : Sim B F H E) {f0 s0 : Nat} (hf : f0 < H.length) (hn : hget H f0 s0 = none) {es : List (V × V)} {ces : Array MapEntry} (clk d : Nat) (hr : RelM E es ces.toList) :
    Ext H.length B E (E.newMapOf f0 s0 ces clk d) ∧ Sim B F (hset H f0 s0 (.map es (ces.toList.map (·.born)) clk)) (E.newMapOf f0 s0 ces clk d) := by
  have hmn := S.mu_none hn
  have X : Ext H.length B E (E.newMapOf f0 s0 ces clk d) := by
    refine ext_push S.bsz _ d _ _ _ ?_ ?_ ?_
    · intro f s b h
      by_cases e : f = f0 ∧ s = s0
      · rw [e.1, e.2, hmn] at h; cases h
      · rw [upd_other _ _ e]; exact h
    · exact fun f s n b lo hi _ h => ⟨n, b, lo, hi, h, .inr ⟨rfl, rfl, rfl, rfl⟩⟩
    · exact fun b i hb hm h => hm h
  refine ⟨X, S.step f0 s0 _ hf X (fun f s e => upd_other _ _ e) (by simp [Env.newMapOf, upd_same]) (fun f s e => rfl) ?_ ?_ ?_ ?_ ?_ ?_⟩
  · intro n x h
    have := S.reg_none hn
    simp only [Env.newMapOf] at h
    rw [this] at h; cases h
  · intro f s o b e ho hb
    exact ⟨push_old E _ d b (S.blk_lt ho hb), fun i h => h⟩
  · exact fun b i h => S.fmod b i h
  · intro b i h
    simp only [Env.newMapOf, Env.push, Array.size_push] at h ⊢
    exact Nat.lt_succ_of_lt (S.modsz b i h)
  · exact ⟨E.w.heap.size, ces, upd_same _ _ _ _, S.bsz, push_new E _ d, RelM.mono X S.lt _ _ hr, rfl⟩
  · intro f s o b e ho hb h
    simp only [blk, Env.newMapOf, upd_same, Option.some.injEq] at h
    have := S.blk_lt ho hb
    omega

theorem sound_clone {f : FuncId} (hx : IsExtern P f Extern.MapsClone.clone) (S : Sim B F H E) {fr : Nat} (hlt : fr < H.length) {dst : Option Nat} {args : List V} {cargs : List Value} {v : V} {x : Option (Nat × Nat × O)}
    (hr : RelL E args cargs) (h : primClone fr dst (hget H) args = some (v, x)) : Invokes P f ⟨cargs⟩ E.w (Answer B F H E (.ret v) (wr H x)) := by
  unfold primClone at h
  split at h
  case h_2 => cases h
  rename_i t f1 s1 d
  split at h
  case h_2 => cases h
  rename_i es bs clk hn hm
  cases h
  obtain ⟨c, r, rfl, h1, h2⟩ := RelL.cons_iff.1 hr
  rw [RelL.nil_iff] at h2; subst h2
  simp only [Rel] at h1
  obtain ⟨c, rfl, b, hb, rfl⟩ := h1
  obtain ⟨b', ces, g1, g2, g3, g4, g5⟩ := S.obj f1 s1 _ hm
  rw [hb] at g1; cases g1
  subst g5
  obtain ⟨X, S'⟩ := S.newMapOf hlt hn clk E.w.drawn g4
  refine .inl ⟨.iface t (.map (some E.w.heap.size)), (E.newMapOf fr d ces clk E.w.drawn).w, hx.run ?_, E.newMapOf fr d ces clk E.w.drawn, rfl, ⟨_, rfl, ?_⟩, S', X, by rw [wr_length]; exact Nat.le_refl _⟩
  · have hdef : Extern.MapsClone.clone #[.iface t (.map (some b))] = (do
      let .map entries clock ← getObj b | stuck "maps.clone: a map expected"
      pure (.iface t (.map (some (← newObj (.map entries clock)))))) := rfl
    show Sem.run P (Extern.MapsClone.clone #[.iface t (.map (some b))]) E.w = _
    rw [hdef]
    simp [run_getMap g3, Env.newMapOf, Env.push]
  · simp only [Rel]
    exact ⟨_, rfl, E.w.heap.size, upd_same _ _ _ _, rfl⟩
end
end Go.AM
end
section
/- The abstract machine, part 38: slices.Sorted(maps.Keys(m)) at strings. -/
namespace Go.AM
open Go.RowKit Go.Sort Go.Maps Go.Proofs

/-- The bytes of keys. -/
def keysStr : List (V × V) → Option (List (List UInt8))
  | [] => some []
  | (k, _) :: r => match k, keysStr r with
    | .str s, some l => some (s :: l)
    | _, _ => none

def insB (x : List UInt8) : List (List UInt8) → List (List UInt8)
  | [] => [x]
  | y :: l => if leB x y then x :: y :: l else y :: insB x l
/-- Texts in their order. -/
def sortB : List (List UInt8) → List (List UInt8)
  | [] => []
  | x :: l => insB x (sortB l)

theorem insB_perm (x : List UInt8) : ∀ l, (insB x l).Perm (x :: l)
  | [] => .refl _
  | y :: l => by
    unfold insB
    split
    · exact .refl _
    · exact ((insB_perm x l).cons y).trans (List.Perm.swap x y l)
theorem sortB_perm : ∀ l, (sortB l).Perm l
  | [] => .refl _
  | x :: l => (insB_perm x _).trans ((sortB_perm l).cons x)
theorem leB_trans {a b c : List UInt8} (h1 : leB a b = true) (h2 : leB b c = true) : leB a c = true := by
  simp only [leB, decide_eq_true_eq] at *; exact List.le_trans h1 h2
theorem leB_total {a b : List UInt8} (h : leB a b = false) : leB b a = true := by
  simp only [leB, decide_eq_false_iff_not, decide_eq_true_eq] at *
  rcases List.le_total a b with h1 | h1
  · exact absurd h1 h
  · exact h1
theorem insB_sorted (x : List UInt8) : ∀ l, l.Pairwise (fun a b => leB a b = true) → (insB x l).Pairwise (fun a b => leB a b = true)
  | [], _ => by simp [insB]
  | y :: l, h => by
    obtain ⟨h1, h2⟩ := List.pairwise_cons.1 h
    unfold insB
    split
    · rename_i hx
      refine List.pairwise_cons.2 ⟨fun z hz => ?_, h⟩
      rcases List.mem_cons.1 hz with rfl | hz
      · exact hx
      · exact leB_trans hx (h1 z hz)
    · rename_i hx
      refine List.pairwise_cons.2 ⟨fun z hz => ?_, insB_sorted x l h2⟩
      rcases List.mem_cons.1 ((insB_perm x l).mem_iff.1 hz) with rfl | hz
      · exact leB_total (by simpa using hx)
      · exact h1 z hz
theorem sortB_sorted : ∀ l, (sortB l).Pairwise (fun a b => leB a b = true)
  | [] => .nil
  | x :: l => insB_sorted x _ (sortB_sorted l)
theorem mergeSort_sortB {l l' : List (List UInt8)} (h : l.Perm l') : l.mergeSort leB = sortB l' := by
  have tr : ∀ a b c : List UInt8, leB a b = true → leB b c = true → leB a c = true := fun a b c h1 h2 => leB_trans h1 h2
  have to : ∀ a b : List UInt8, (leB a b || leB b a) = true := fun a b => by
    cases hx : leB a b with
    | true => rfl
    | false => simpa using leB_total hx
  refine List.Perm.eq_of_pairwise (le := fun a b => leB a b = true) (fun a b _ _ h1 h2 => ?_) (List.pairwise_mergeSort tr to l) (sortB_sorted l') (((List.mergeSort_perm l leB).trans h).trans (sortB_perm l').symm)
  simp only [leB, decide_eq_true_eq] at h1 h2
  exact List.le_antisymm h1 h2

def sortedV (l : List V) : V := if l.isEmpty then .nilslice else .islice l l.length false

/-- slices.Sorted at maps.Keys' iterator. -/
def primSortStr (k1 : FuncId) : Prim := fun _ _ g as => match as with
  | [.func (.func f) [] [.ptr fr s 0]] => if f = k1 then (match g fr s with
    | some (.cells (.map fm sm :: _)) => (match g fm sm with
      | some (.map es bs clk) => (match keysStr es with
        | some ss => if ss.Nodup ∧ bs.Nodup ∧ (∀ b ∈ bs, b < clk) ∧ (∀ x ∈ ss, x.length ≤ 1048576) ∧ ss.length ≤ 1048576 then some (sortedV ((sortB ss).map .str), none) else none
        | none => none)
      | _ => none)
    | _ => none) else none
  | _ => none

/-- What the library promises of it. -/
def SortsKeys (P : Program) (srt k1 : FuncId) (T : TypeId) : Prop :=
  ∀ (Bm b : Nat) (w : World) (es : Array MapEntry) (clk : Nat), Bm < w.heap.size → w.cell? ⟨Bm, 0, none⟩ = some (.map (some b)) → w.heap[b]? = some (.map es clk) → MapKept.Stamped es clk →
    (∀ e ∈ es.toList, ∃ x : List UInt8, e.key = encStr x ∧ x.length ≤ 1048576) → es.size ≤ 1048576 →
    Invokes P srt #[.func (.func k1) #[] #[.pointer (some ⟨Bm, 0, none⟩)]] w fun e w' => ∃ (v : Value) (ss : List (List UInt8)), e = .returned v ∧ (ss.map encStr).Perm (es.toList.map (·.key)) ∧
      w'.ownsRow w.heap.size T 1 v ss.length ((ss.mergeSort leB).map encStr) ∧ (v = .slice none 0 0 ↔ ss = []) ∧ Below w.heap.size w w'

section
variable {P : Program} {E : Env} {B : Nat} {F : Nat → Nat → Prop} {H : Heap}

theorem Sim.below (S : Sim B F H E) {w' : World} (hb : Below E.w.heap.size E.w w') : Ext H.length B E { E with w := w' } ∧ Sim B F H { E with w := w' } := by
  have X : Ext 0 E.w.heap.size (AM.bare E.w E.mod) (AM.bare w' E.mod) := by
    have old : ∀ b, b < E.w.heap.size → w'.heap[b]? = E.w.heap[b]? := hb.block
    refine ⟨hb.size, fun b T n h => ?_, fun b i v _ h => ?_, fun _ _ _ _ h => h, fun _ _ _ _ h => (by cases h), fun _ _ _ _ _ _ h => (by cases h), old, ⟨hb.tape, hb.os, hb.output⟩⟩
    · exact (shape_of_heap (w := E.w) (w' := w') (old b (shape_lt h))).trans h
    · exact (cell_of_heap (old b (cell_lt h)) i).trans h
  exact S.behind X

theorem relL_strs (l : List (List UInt8)) : RelL E (l.map .str) (l.map encStr) := by
  induction l with
  | nil => exact .nil
  | cons a l ih => exact .cons (by simp [Rel, encStr]) ih

theorem pureL_strs (l : List (List UInt8)) : pureL (l.map .str) = true := by
  induction l with
  | nil => rfl
  | cons a l ih => simp [pureL, V.pure, ih]

theorem keysStr_sound : ∀ {es : List (V × V)} {ss : List (List UInt8)} {ces : List MapEntry}, keysStr es = some ss → RelM E es ces → ces.map (·.key) = ss.map encStr
  | [], ss, ces, h, r => by cases h; simp only [RelM] at r; subst r; rfl
  | (k, x) :: es, ss, ces, h, r => by
    obtain ⟨e, r', rfl, h1, h2, h3⟩ := r
    simp only [keysStr] at h
    split at h
    · rename_i s l hl
      cases h
      simp only [Rel] at h1
      simp only [List.map_cons, keysStr_sound hl h3, h1]
    · cases h

theorem encStr_perm {a b : List (List UInt8)} (h : (a.map encStr).Perm (b.map encStr)) : a.Perm b := by
  have : ∀ l : List (List UInt8), (l.map encStr).map (fun v => match v with | Value.string s => s.data.toList | _ => []) = l := by
    intro l
    rw [List.map_map]
    exact (List.map_congr_left (fun x _ => by simp)).trans (List.map_id l)
  have h2 := h.map (fun v => match v with | Value.string s => s.data.toList | _ => [])
  rwa [this, this] at h2

theorem sound_sortStr {srt k1 : FuncId} {T : TypeId} (hK : SortsKeys P srt k1 T) (S : Sim B F H E) {fr : Nat} {dst : Option Nat} {args : List V} {cargs : List Value} {v : V} {x : Option (Nat × Nat × O)}
    (hr : RelL E args cargs) (h : primSortStr k1 fr dst (hget H) args = some (v, x)) : Invokes P srt ⟨cargs⟩ E.w (Answer B F H E (.ret v) (wr H x)) := by
  unfold primSortStr at h
  split at h
  case h_2 => cases h
  rename_i f f1 s1
  split at h
  case isFalse => cases h
  rename_i hf
  subst hf
  split at h
  case h_2 => cases h
  rename_i fm sm rest hc
  split at h
  case h_2 => cases h
  rename_i es bs clk hm
  split at h
  case h_2 => cases h
  rename_i ss hss
  split at h
  case isFalse => cases h
  rename_i hchk
  obtain ⟨hnd, hbn, hbl, hlen, hcount⟩ := hchk
  cases h
  obtain ⟨c, r, rfl, h1, h2⟩ := RelL.cons_iff.1 hr
  rw [RelL.nil_iff] at h2; subst h2
  simp only [Rel] at h1
  obtain ⟨fs, cs, rfl, hfs, hcs⟩ := h1
  rw [RelL.nil_iff] at hfs; subst hfs
  obtain ⟨cp, r2, rfl, h3, h4⟩ := RelL.cons_iff.1 hcs
  rw [RelL.nil_iff] at h4; subst h4
  simp only [Rel] at h3
  obtain ⟨Bm, hBm, rfl⟩ := h3
  obtain ⟨b0, c0, T0, vs, rest0, g1, g2, g3, g4, g5, _, _, g8⟩ := S.lies hc
  rw [hBm] at g1; cases g1
  obtain ⟨cm, vr, rfl, h5, _⟩ := RelL.cons_iff.1 g5
  simp only [Rel] at h5
  obtain ⟨b, hb, rfl⟩ := h5
  obtain ⟨b', ces, k1', k2, k3, k4, k5⟩ := S.obj fm sm _ hm
  rw [hb] at k1'; cases k1'
  have hkeys := keysStr_sound hss k4
  have hcell : E.w.cell? ⟨Bm, 0, none⟩ = some (.map (some b)) := by
    have := g8 0 (.map (some b)) rfl
    simpa using this
  have hst : MapKept.Stamped ces clk := by
    refine ⟨fun x hx => hbl x.born ?_, by rw [k5]; exact hbn, ?_⟩
    · rw [← k5]; exact List.mem_map.2 ⟨x, hx, rfl⟩
    · rw [hkeys]
      rw [List.Nodup, List.pairwise_map]
      exact hnd.imp fun hne he => hne (encStr_inj he)
  have hsz : ces.size = ss.length := by
    have := congrArg List.length hkeys
    simpa using this
  refine (hK Bm b E.w ces clk (Array.getElem?_eq_some_iff.1 g3).1 hcell k3 hst ?_ (by omega)).mono ?_
  · intro e he
    have : e.key ∈ ss.map encStr := by rw [← hkeys]; exact List.mem_map.2 ⟨e, he, rfl⟩
    obtain ⟨x, hx, hxe⟩ := List.mem_map.1 this
    exact ⟨x, hxe.symm, hlen x hx⟩
  · rintro e w' ⟨cv, ss', rfl, hp, hrow, hnil, hbelow⟩
    obtain ⟨X, S'⟩ := S.below hbelow
    rw [hkeys] at hp
    have hp' := encStr_perm hp
    have hsort := mergeSort_sortB hp'
    refine ⟨{ E with w := w' }, rfl, ⟨cv, rfl, ?_⟩, S', X, Nat.le_refl _⟩
    rw [hsort] at hrow
    obtain ⟨hl, hrow⟩ := hrow
    have hlen' : ss'.length = (sortB ss).length := by simpa using hl.symm
    unfold sortedV
    rcases hrow with ⟨rfl, h0⟩ | ⟨g, cap, cur, rfl, q1, q2, q3, q4, q5, q6⟩
    · have : sortB ss = [] := List.eq_nil_of_length_eq_zero (by omega)
      rw [this]
      simp [Rel]
    · have hne : ss' ≠ [] := fun e => by have := hnil.2 e; cases this
      have hne2 : ((sortB ss).map V.str).isEmpty = false := by
        cases hs : sortB ss with
        | nil => rw [hs] at hlen'; exact absurd (List.eq_nil_of_length_eq_zero hlen') hne
        | cons a l => rfl
      rw [hne2]
      simp only [Bool.false_eq_true, if_false, Rel]
      refine ⟨⟨g, 0, none⟩, cap, (sortB ss).map encStr, ?_, ?_, (fun h => by cases h), .inr ⟨rfl, fun i v hv => ?_⟩, relL_strs _, pureL_strs _⟩
      · simp [hlen']
      · simp only [List.length_map]; omega
      · rw [← q6, Nat.mul_one, List.getElem?_take] at hv
        split at hv
        · refine ⟨?_, fun hm => ?_⟩
          · simp only [Nat.zero_add, World.cell?, q2]
            simpa using hv
          · have := S.modsz g (0 + i) hm
            omega
        · cases hv

/-! ### A map of such keys, for the library's contracts -/
def anyR : Value → Option (DataW Unit × List MemPlace) := fun _ => some (.nil, [])
def datumOf (P : Program) (k : TypeId) (es : Array MapEntry) : DataW Unit := .map ((es.toList.map (WideElems.rg P k anyR)).foldr DataW.insert [])

theorem rd_str {k : TypeId} (hk : P.underlying k = some .string) {e : MapEntry} {x : List UInt8} (he : e.key = encStr x) (hx : x.length ≤ 1048576) : WideElems.rd P k anyR e = some (.string x, .nil) := by
  have : x.length ≤ maxLen := Nat.le_trans hx (by decide)
  simp [WideElems.rd, keyOf, hk, mapKey, he, anyR, ByteArray.size, this]

theorem ownsMap_str {k : TypeId} (hk : P.underlying k = some .string) {w : World} {b clk : Nat} {es : Array MapEntry} (hb : w.heap[b]? = some (.map es clk)) (hst : MapKept.Stamped es clk)
    (hkeys : ∀ e ∈ es.toList, ∃ x : List UInt8, e.key = encStr x ∧ x.length ≤ 1048576) (hsz : es.size ≤ 1048576) : w.ownsMap P k anyR b 1048576 (datumOf P k es) :=
  ⟨es, clk, hb, ⟨Nat.le_trans hsz (by decide), hst, fun x hx => by obtain ⟨l, h1, h2⟩ := hkeys x hx; exact ⟨_, rd_str hk h1 h2⟩⟩, hsz, rfl⟩

theorem size_datum {k : TypeId} {es : Array MapEntry} : Maps.size (datumOf P k es) = es.size := by
  simp [datumOf, Maps.size, ((WideShapes.sorted_perm _).length_eq)]

theorem strKeys_datum {k : TypeId} (hk : P.underlying k = some .string) {es : Array MapEntry} (hkeys : ∀ e ∈ es.toList, ∃ x : List UInt8, e.key = encStr x ∧ x.length ≤ 1048576) :
    ((strKeys (datumOf P k es)).map encStr).Perm (es.toList.map (·.key)) := by
  have h1 : ((es.toList.map (WideElems.rg P k anyR)).foldr DataW.insert []).Perm (es.toList.map (WideElems.rg P k anyR)) := WideShapes.sorted_perm _
  have h2 := (h1.map fun p => strOf p.1).map encStr
  refine h2.trans ?_
  rw [List.map_map, List.map_map]
  have : es.toList.map (encStr ∘ (fun p : Lit × DataW Unit => strOf p.1) ∘ WideElems.rg P k anyR) = es.toList.map (·.key) := by
    refine List.map_congr_left fun e he => ?_
    obtain ⟨x, q1, q2⟩ := hkeys e he
    simp only [Function.comp, WideElems.rg, rd_str hk q1 q2, Option.getD_some, strOf, q1]
  exact this ▸ .refl _

end
end Go.AM
end
section
/- The abstract machine, part 39: slices.Sorted(maps.Keys(m)) at integers. -/
namespace Go.AM
open Go.RowKit Go.Sort Go.Maps Go.Proofs

/-- The bytes of keys. -/
def keysInt : List (V × V) → Option (List Int)
  | [] => some []
  | (k, _) :: r => match k, keysInt r with
    | .int .i64 s, some l => some (s :: l)
    | _, _ => none

abbrev leZ : Int → Int → Bool := fun x y => decide (x ≤ y)
def insZ (x : Int) : List Int → List Int
  | [] => [x]
  | y :: l => if leZ x y then x :: y :: l else y :: insZ x l
/-- Texts in their order. -/
def sortZ : List Int → List Int
  | [] => []
  | x :: l => insZ x (sortZ l)

theorem insZ_perm (x : Int) : ∀ l, (insZ x l).Perm (x :: l)
  | [] => .refl _
  | y :: l => by
    unfold insZ
    split
    · exact .refl _
    · exact ((insZ_perm x l).cons y).trans (List.Perm.swap x y l)
theorem sortZ_perm : ∀ l, (sortZ l).Perm l
  | [] => .refl _
  | x :: l => (insZ_perm x _).trans ((sortZ_perm l).cons x)
theorem leZ_trans {a b c : Int} (h1 : leZ a b = true) (h2 : leZ b c = true) : leZ a c = true := by
  simp only [leZ, decide_eq_true_eq] at *; omega
theorem leZ_total {a b : Int} (h : leZ a b = false) : leZ b a = true := by
  simp only [leZ, decide_eq_false_iff_not, decide_eq_true_eq] at *; omega
theorem insZ_sorted (x : Int) : ∀ l, l.Pairwise (fun a b => leZ a b = true) → (insZ x l).Pairwise (fun a b => leZ a b = true)
  | [], _ => by simp [insZ]
  | y :: l, h => by
    obtain ⟨h1, h2⟩ := List.pairwise_cons.1 h
    unfold insZ
    split
    · rename_i hx
      refine List.pairwise_cons.2 ⟨fun z hz => ?_, h⟩
      rcases List.mem_cons.1 hz with rfl | hz
      · exact hx
      · exact leZ_trans hx (h1 z hz)
    · rename_i hx
      refine List.pairwise_cons.2 ⟨fun z hz => ?_, insZ_sorted x l h2⟩
      rcases List.mem_cons.1 ((insZ_perm x l).mem_iff.1 hz) with rfl | hz
      · exact leZ_total (by simpa using hx)
      · exact h1 z hz
theorem sortZ_sorted : ∀ l, (sortZ l).Pairwise (fun a b => leZ a b = true)
  | [] => .nil
  | x :: l => insZ_sorted x _ (sortZ_sorted l)
theorem mergeSort_sortZ {l l' : List Int} (h : l.Perm l') : l.mergeSort leZ = sortZ l' := by
  have tr : ∀ a b c : Int, leZ a b = true → leZ b c = true → leZ a c = true := fun a b c h1 h2 => leZ_trans h1 h2
  have to : ∀ a b : Int, (leZ a b || leZ b a) = true := fun a b => by
    cases hx : leZ a b with
    | true => rfl
    | false => simpa using leZ_total hx
  refine List.Perm.eq_of_pairwise (le := fun a b => leZ a b = true) (fun a b _ _ h1 h2 => ?_) (List.pairwise_mergeSort tr to l) (sortZ_sorted l') (((List.mergeSort_perm l leZ).trans h).trans (sortZ_perm l').symm)
  simp only [leZ, decide_eq_true_eq] at h1 h2
  omega

/-- slices.Sorted at maps.Keys' iterator. -/
def primSortInt (k1 : FuncId) : Prim := fun _ _ g as => match as with
  | [.func (.func f) [] [.ptr fr s 0]] => if f = k1 then (match g fr s with
    | some (.cells (.map fm sm :: _)) => (match g fm sm with
      | some (.map es bs clk) => (match keysInt es with
        | some ss => if ss.Nodup ∧ bs.Nodup ∧ (∀ b ∈ bs, b < clk) ∧ (∀ x ∈ ss, -9223372036854775808 ≤ x ∧ x < 9223372036854775808) ∧ ss.length ≤ 1048576 then some (sortedV ((sortZ ss).map (.int .i64)), none) else none
        | none => none)
      | _ => none)
    | _ => none) else none
  | _ => none

/-- What the library promises of it. -/
def SortsKeysI (P : Program) (srt k1 : FuncId) (T : TypeId) : Prop :=
  ∀ (Bm b : Nat) (w : World) (es : Array MapEntry) (clk : Nat), Bm < w.heap.size → w.cell? ⟨Bm, 0, none⟩ = some (.map (some b)) → w.heap[b]? = some (.map es clk) → MapKept.Stamped es clk →
    (∀ e ∈ es.toList, ∃ x : Int, e.key = encZ x ∧ -9223372036854775808 ≤ x ∧ x < 9223372036854775808) → es.size ≤ 1048576 →
    Invokes P srt #[.func (.func k1) #[] #[.pointer (some ⟨Bm, 0, none⟩)]] w fun e w' => ∃ (v : Value) (ss : List Int), e = .returned v ∧ (ss.map encZ).Perm (es.toList.map (·.key)) ∧
      w'.ownsRow w.heap.size T 1 v ss.length ((ss.mergeSort leZ).map encZ) ∧ (v = .slice none 0 0 ↔ ss = []) ∧ Below w.heap.size w w'

section
variable {P : Program} {E : Env} {B : Nat} {F : Nat → Nat → Prop} {H : Heap}

theorem relL_ints (l : List Int) : RelL E (l.map (.int .i64)) (l.map encZ) := by
  induction l with
  | nil => exact .nil
  | cons a l ih => exact .cons (by simp [Rel, encZ]) ih

theorem pureL_ints (l : List Int) : pureL (l.map (.int .i64)) = true := by
  induction l with
  | nil => rfl
  | cons a l ih => simp [pureL, V.pure, ih]

theorem keysInt_sound : ∀ {es : List (V × V)} {ss : List Int} {ces : List MapEntry}, keysInt es = some ss → RelM E es ces → ces.map (·.key) = ss.map encZ
  | [], ss, ces, h, r => by cases h; simp only [RelM] at r; subst r; rfl
  | (k, x) :: es, ss, ces, h, r => by
    obtain ⟨e, r', rfl, h1, h2, h3⟩ := r
    simp only [keysInt] at h
    split at h
    · rename_i s l hl
      cases h
      simp only [Rel] at h1
      simp only [List.map_cons, keysInt_sound hl h3, h1]
    · cases h

theorem encZ_perm {a b : List Int} (h : (a.map encZ).Perm (b.map encZ)) : a.Perm b := by
  have : ∀ l : List Int, (l.map encZ).map (fun v => match v with | Value.int _ n => n | _ => (0 : Int)) = l := by
    intro l
    rw [List.map_map]
    exact (List.map_congr_left (fun x _ => rfl)).trans (List.map_id l)
  have h2 := h.map (fun v => match v with | Value.int _ n => n | _ => 0)
  rwa [this, this] at h2

theorem sound_sortInt {srt k1 : FuncId} {T : TypeId} (hK : SortsKeysI P srt k1 T) (S : Sim B F H E) {fr : Nat} {dst : Option Nat} {args : List V} {cargs : List Value} {v : V} {x : Option (Nat × Nat × O)}
    (hr : RelL E args cargs) (h : primSortInt k1 fr dst (hget H) args = some (v, x)) : Invokes P srt ⟨cargs⟩ E.w (Answer B F H E (.ret v) (wr H x)) := by
  unfold primSortInt at h
  split at h
  case h_2 => cases h
  rename_i f f1 s1
  split at h
  case isFalse => cases h
  rename_i hf
  subst hf
  split at h
  case h_2 => cases h
  rename_i fm sm rest hc
  split at h
  case h_2 => cases h
  rename_i es bs clk hm
  split at h
  case h_2 => cases h
  rename_i ss hss
  split at h
  case isFalse => cases h
  rename_i hchk
  obtain ⟨hnd, hbn, hbl, hlen, hcount⟩ := hchk
  cases h
  obtain ⟨c, r, rfl, h1, h2⟩ := RelL.cons_iff.1 hr
  rw [RelL.nil_iff] at h2; subst h2
  simp only [Rel] at h1
  obtain ⟨fs, cs, rfl, hfs, hcs⟩ := h1
  rw [RelL.nil_iff] at hfs; subst hfs
  obtain ⟨cp, r2, rfl, h3, h4⟩ := RelL.cons_iff.1 hcs
  rw [RelL.nil_iff] at h4; subst h4
  simp only [Rel] at h3
  obtain ⟨Bm, hBm, rfl⟩ := h3
  obtain ⟨b0, c0, T0, vs, rest0, g1, g2, g3, g4, g5, _, _, g8⟩ := S.lies hc
  rw [hBm] at g1; cases g1
  obtain ⟨cm, vr, rfl, h5, _⟩ := RelL.cons_iff.1 g5
  simp only [Rel] at h5
  obtain ⟨b, hb, rfl⟩ := h5
  obtain ⟨b', ces, k1', k2, k3, k4, k5⟩ := S.obj fm sm _ hm
  rw [hb] at k1'; cases k1'
  have hkeys := keysInt_sound hss k4
  have hcell : E.w.cell? ⟨Bm, 0, none⟩ = some (.map (some b)) := by
    have := g8 0 (.map (some b)) rfl
    simpa using this
  have hst : MapKept.Stamped ces clk := by
    refine ⟨fun x hx => hbl x.born ?_, by rw [k5]; exact hbn, ?_⟩
    · rw [← k5]; exact List.mem_map.2 ⟨x, hx, rfl⟩
    · rw [hkeys]
      rw [List.Nodup, List.pairwise_map]
      exact hnd.imp fun hne he => hne (by simpa [encZ] using he)
  have hsz : ces.size = ss.length := by
    have := congrArg List.length hkeys
    simpa using this
  refine (hK Bm b E.w ces clk (Array.getElem?_eq_some_iff.1 g3).1 hcell k3 hst ?_ (by omega)).mono ?_
  · intro e he
    have : e.key ∈ ss.map encZ := by rw [← hkeys]; exact List.mem_map.2 ⟨e, he, rfl⟩
    obtain ⟨x, hx, hxe⟩ := List.mem_map.1 this
    exact ⟨x, hxe.symm, hlen x hx⟩
  · rintro e w' ⟨cv, ss', rfl, hp, hrow, hnil, hbelow⟩
    obtain ⟨X, S'⟩ := S.below hbelow
    rw [hkeys] at hp
    have hp' := encZ_perm hp
    have hsort := mergeSort_sortZ hp'
    refine ⟨{ E with w := w' }, rfl, ⟨cv, rfl, ?_⟩, S', X, Nat.le_refl _⟩
    rw [hsort] at hrow
    obtain ⟨hl, hrow⟩ := hrow
    have hlen' : ss'.length = (sortZ ss).length := by simpa using hl.symm
    unfold sortedV
    rcases hrow with ⟨rfl, h0⟩ | ⟨g, cap, cur, rfl, q1, q2, q3, q4, q5, q6⟩
    · have : sortZ ss = [] := List.eq_nil_of_length_eq_zero (by omega)
      rw [this]
      simp [Rel]
    · have hne : ss' ≠ [] := fun e => by have := hnil.2 e; cases this
      have hne2 : ((sortZ ss).map (V.int .i64)).isEmpty = false := by
        cases hs : sortZ ss with
        | nil => rw [hs] at hlen'; exact absurd (List.eq_nil_of_length_eq_zero hlen') hne
        | cons a l => rfl
      rw [hne2]
      simp only [Bool.false_eq_true, if_false, Rel]
      refine ⟨⟨g, 0, none⟩, cap, (sortZ ss).map encZ, ?_, ?_, (fun h => by cases h), .inr ⟨rfl, fun i v hv => ?_⟩, relL_ints _, pureL_ints _⟩
      · simp [hlen']
      · simp only [List.length_map]; omega
      · rw [← q6, Nat.mul_one, List.getElem?_take] at hv
        split at hv
        · refine ⟨?_, fun hm => ?_⟩
          · simp only [Nat.zero_add, World.cell?, q2]
            simpa using hv
          · have := S.modsz g (0 + i) hm
            omega
        · cases hv

/-! ### A map of such keys, for the library's contracts -/
theorem rd_int {k : TypeId} (hk : P.underlying k = some (.int .i64)) {e : MapEntry} {x : Int} (he : e.key = encZ x) (hx : -9223372036854775808 ≤ x ∧ x < 9223372036854775808) : WideElems.rd P k anyR e = some (Lit.int .i64 x, .nil) := by
  have : (Lit.int .i64 x).wf = true := by
    have h1 : IntKind.i64.min = -9223372036854775808 := by decide
    have h2 : IntKind.i64.max = 9223372036854775807 := by decide
    simp only [Lit.wf, h1, h2, Bool.and_eq_true, decide_eq_true_eq]
    omega
  simp [WideElems.rd, keyOf, hk, mapKey, he, anyR, encZ, this]

theorem ownsMap_int {k : TypeId} (hk : P.underlying k = some (.int .i64)) {w : World} {b clk : Nat} {es : Array MapEntry} (hb : w.heap[b]? = some (.map es clk)) (hst : MapKept.Stamped es clk)
    (hkeys : ∀ e ∈ es.toList, ∃ x : Int, e.key = encZ x ∧ -9223372036854775808 ≤ x ∧ x < 9223372036854775808) (hsz : es.size ≤ 1048576) : w.ownsMap P k anyR b 1048576 (datumOf P k es) :=
  ⟨es, clk, hb, ⟨Nat.le_trans hsz (by decide), hst, fun x hx => by obtain ⟨l, h1, h2⟩ := hkeys x hx; exact ⟨_, rd_int hk h1 h2⟩⟩, hsz, rfl⟩

theorem intKeys_datum {k : TypeId} (hk : P.underlying k = some (.int .i64)) {es : Array MapEntry} (hkeys : ∀ e ∈ es.toList, ∃ x : Int, e.key = encZ x ∧ -9223372036854775808 ≤ x ∧ x < 9223372036854775808) :
    ((intKeys (datumOf P k es)).map encZ).Perm (es.toList.map (·.key)) := by
  have h1 : ((es.toList.map (WideElems.rg P k anyR)).foldr DataW.insert []).Perm (es.toList.map (WideElems.rg P k anyR)) := WideShapes.sorted_perm _
  have h2 := (h1.map fun p => intOf p.1).map encZ
  refine h2.trans ?_
  rw [List.map_map, List.map_map]
  have : es.toList.map (encZ ∘ (fun p : Lit × DataW Unit => intOf p.1) ∘ WideElems.rg P k anyR) = es.toList.map (·.key) := by
    refine List.map_congr_left fun e he => ?_
    obtain ⟨x, q1, q2⟩ := hkeys e he
    simp only [Function.comp, WideElems.rg, rd_int hk q1 q2, Option.getD_some, intOf, q1]
  exact this ▸ .refl _

end
end Go.AM
end
