/- This file holds in one the texts An12; each says at its head what it proves. -/
import Derived.Test.YtafhcdagifopeaaGreatDoorT7
set_option linter.unusedSimpArgs false
set_option linter.unusedVariables false
section
/- The abstract machine, part 12: one operation does what the model's does. -/
namespace Go.AM
variable {P : Program} {E : Env} {B : Nat} {F : Nat → Nat → Prop} {H : Heap}

theorem copySrc_sound (S : Sim B F H E) {n m : Nat} {x : V} {cs : List V} {c : Value} (h : copySrc (hget H) n x = some (cs, m)) (hr : Rel E x c) :
    ∃ vs, (∀ w : World, (Builtin.lenOf c).run P w = .ok m w) ∧ RelL E cs vs ∧ vs.length = m * n ∧ (∀ k, k ≤ m → (Builtin.firstCells n k c).run P E.w = .ok ⟨vs.take (k * n)⟩ E.w) := by
  unfold copySrc at h
  split at h
  · rename_i l
    split at h
    case isFalse => cases h
    rename_i hn
    subst hn
    cases h
    simp only [Rel] at hr; subst hr
    exact ⟨_, fun w => by simp [Builtin.lenOf]; rfl, relL_bytes E l, by simp, fun k _ => firstCells_str E.w l k⟩
  · obtain ⟨a, cap, vs, rfl, h1, h2, h3, h4⟩ := sliceCells_sound (P := P) S h hr
    exact ⟨vs, fun w => rfl, h2, h3, fun k hk => h4 E.w k rfl hk⟩

theorem copyV_sound (S : Sim B F H E) {ts : Array TypeId} {t : TypeId} (ty : TypeId) {d s : V} {cd cs : Value} {st : Step} (ht : ts[0]? = some t) (h : copyV P (hget H) t d s = some st)
    (rd : Rel E d cd) (rs : Rel E s cs) : Good B F H E st ((Builtin.copy_ ts ty #[cd, cs]).run P E.w) := by
  unfold copyV at h
  split at h
  case h_2 => cases h
  rename_i e hu
  split at h
  case h_2 => cases h
  rename_i n hn
  split at h
  case h_2 => cases h
  rename_i xs m hsrc
  obtain ⟨vs, h1, h2, h3, h4⟩ := copySrc_sound (P := P) S hsrc rs
  unfold copyTo at h
  split at h
  · cases h
    simp only [Rel] at rd; subst rd
    refine Good.same S (cv := goInt 0) (by simp [Rel, goInt]) ?_
    have := h4 0 (Nat.zero_le _)
    simp only [Builtin.copy_, ht, arr0, arr1, Sem.run_bind, run_und hu, Result.andThen_ok, h1, run_sz hn, Nat.min_eq_min, Nat.min_zero, this, Sem.run_pure]
    rfl
  · rename_i f sl o len cap e'
    split at h
    case isFalse => cases h
    rename_i he
    subst he
    split at h
    case h_2 => cases h
    rename_i ys hg
    split at h
    case isFalse => cases h
    rename_i hh
    obtain ⟨hle, hsc⟩ := hh
    cases h
    simp only [Rel] at rd
    obtain ⟨b, c', T', n', hmu, rfl, g1, g2, g3, g4, g5⟩ := rd
    obtain ⟨b2, c, T, us, rest, q1, q2, q3, q4, q5, q6, q7, q8⟩ := S.lies hg
    rw [hmu] at q1; cases q1
    have hk : min m len ≤ m := Nat.min_le_left _ _
    have hrun := h4 (min m len) hk
    have hul := q5.length
    have hkl : min m len * e' ≤ len * e' := Nat.mul_le_mul_right _ (Nat.min_le_right _ _)
    have htl : (vs.take (min m len * e')).length ≤ min m len * e' := by simp; omega
    have hcs : c.size = us.length + rest.length := by
      have := congrArg List.length q4
      simpa using this
    have hfit : o + (vs.take (min m len * e')).length ≤ us.length := by omega
    have hst := run_storeCells_at P b o T (vs.take (min m len * e')) 0 c E.w q3 (by simp only [Nat.add_zero]; omega) (scalar_mem (h2.take _) hsc)
    simp only [Nat.add_zero] at hst
    obtain ⟨X, S'⟩ := S.setCells hg hmu q3 q4 q6 q2 (splice ys o (xs.take (min m len * e'))) (splice us o (vs.take (min m len * e'))) (q5.splice (h2.take _) _) (splice_all _ q7 hsc)
      (splice_length _ _ _ hfit)
    refine ⟨_, _, _, goInt (min m len : Nat), rfl, X, S', by simp [Rel, goInt], ?_⟩
    simp only [Builtin.copy_, ht, arr0, arr1, Sem.run_bind, run_und hu, Result.andThen_ok, h1, run_sz hn, Nat.min_eq_min, hrun, hst, Sem.run_pure, Env.setRow]
    rw [← splice_append _ _ _ _ hfit, ← q4]
    rfl
  · cases h

theorem pureL_bytes : ∀ (l : List UInt8), pureL (ofBytes l) = true
  | [] => rfl
  | b :: l => by simp only [ofBytes, List.map_cons, pureL, V.pure, Bool.true_and]; exact pureL_bytes l

theorem push_modify {α : Type} (a : Array α) (x : α) (f : α → α) : (a.push x).modify a.size f = a.push (f x) := by
  apply Array.ext
  · simp
  · intro i h1 h2
    simp only [Array.getElem_modify, Array.getElem_push]
    by_cases e : a.size = i
    · subst e; simp
    · have : i < a.size := by simp at h2; omega
      simp [e, this]

theorem loop_bytes (w : World) : ∀ (cs : List V) (vs : List Value) (l acc : List UInt8), bytesOf cs = some l → RelL E cs vs →
    (forIn (m := Sem) vs (⟨⟨acc⟩⟩ : ByteArray) fun c s => (match c with
      | Value.int .u8 n => pure (ForInStep.yield (s.push (UInt8.ofNat n.toNat)))
      | _ => do
        stuck "bytesToString: byte expected"
        pure (ForInStep.yield s) : Sem (ForInStep ByteArray))).run P w = .ok ⟨⟨acc ++ l⟩⟩ w
  | [], vs, l, acc, h, hr => by
    rw [RelL.nil_iff] at hr; subst hr
    cases h
    simp
  | x :: cs, vs, l, acc, h, hr => by
    obtain ⟨v, r, rfl, hv, hr2⟩ := RelL.cons_iff.1 hr
    clear hr
    unfold bytesOf at h
    split at h
    · rename_i e; cases e
    · rename_i n r' e
      injection e with e1 e2
      subst e1; subst e2
      simp only [Rel] at hv; subst hv
      cases hb : bytesOf cs with
      | none => rw [hb] at h; cases h
      | some l' =>
        rw [hb] at h; cases h
        have := loop_bytes w cs r l' (acc ++ [UInt8.ofNat n.toNat]) hb hr2
        simp only [List.forIn_cons, Sem.run_bind, Sem.run_pure, Result.andThen_ok]
        have e : (⟨⟨acc⟩⟩ : ByteArray).push (UInt8.ofNat n.toNat) = ⟨⟨acc ++ [UInt8.ofNat n.toNat]⟩⟩ := by
          apply ByteArray.ext; simp [ByteArray.push]
        rw [e, this]
        simp
    · cases h

theorem Sim.die (S : Sim B F H E) {f0 s0 : Nat} {xs : List V} (ho : hget H f0 s0 = some (.cells xs)) {b : Nat} (hmu : E.mu f0 s0 = some b) {c : Array Value} {T : TypeId} {fz : Nat × Nat} (hb : E.w.heap[b]? = some (.cells c T (0, 0))) (hB : B ≤ b)
    (w' : World) (hsz : w'.heap.size = E.w.heap.size) (hoth : ∀ b', b' ≠ b → w'.heap[b']? = E.w.heap[b']?) (hself : w'.heap[b]? = some (.cells c T fz)) (hrest : w'.tape = E.w.tape ∧ w'.os = E.w.os ∧ w'.output = E.w.output) :
    Ext H.length B E { E with w := w', mod := fun b' i => E.mod b' i ∧ b' ≠ b } ∧ Sim B F (hset H f0 s0 .dead) { E with w := w', mod := fun b' i => E.mod b' i ∧ b' ≠ b } := by
  have hcell : ∀ b' i, w'.cell? ⟨b', i, none⟩ = E.w.cell? ⟨b', i, none⟩ := by
    intro b' i
    by_cases e : b' = b
    · subst e; simp only [World.cell?, hself, hb]
    · exact cell_of_heap (hoth b' e) i
  have hshape : ∀ b', w'.shape? b' = E.w.shape? b' := by
    intro b'
    by_cases e : b' = b
    · subst e; simp only [World.shape?, hself, hb]
    · exact shape_of_heap (hoth b' e)
  have X : Ext H.length B E { E with w := w', mod := fun b' i => E.mod b' i ∧ b' ≠ b } := by
    refine ⟨by simp only [hsz]; exact Nat.le_refl _, fun b' T n h => by simp only [hshape]; exact h, fun b' i v _ h => by simp only [hcell]; exact h, fun b' i v _ h hm => h hm.1, fun _ _ _ _ h => h,
      fun f s n b lo hi _ _ h => ⟨n, b, lo, hi, h, .inr ⟨rfl, rfl, rfl, rfl⟩⟩, fun b' hb' => hoth b' (by omega), hrest, rfl, fun b' h => by simp only; rw [hoth b' (by rintro rfl; rw [hb] at h; cases h)]; exact h⟩
  have hblk : blk E f0 s0 (.cells xs) = some b := hmu
  refine ⟨X, S.step f0 s0 .dead (hget_lt ho) X (fun f s e => rfl) (by simp [hmu]) (fun f s e => rfl) ?_ ?_ ?_ ?_ trivial ?_⟩
  · intro n x h
    have := S.nreg f0 s0 n x h
    rw [ho] at this; cases this
  · intro f s o b' e ho' hb'
    have hne : b' ≠ b := fun e' => e (S.inj f s o f0 s0 _ b' ho' ho hb' (e' ▸ hblk))
    exact ⟨hoth b' hne, fun i h => ⟨h, hne⟩⟩
  · exact fun b' i h => ⟨S.fmod b' i h, fun e => by have := S.fb b' i h; omega⟩
  · intro b' i h
    simp only [hsz]
    exact S.modsz b' i h.1
  · intro f s o b' e ho' hb' h
    cases h

theorem freeze_at (w : World) (b n : Nat) {c : Array Value} {T : TypeId} {fz : Nat × Nat} (hb : w.heap[b]? = some (.cells c T fz)) :
    ∃ fz', (w.freeze ⟨b, n, none⟩ 1).heap[b]? = some (.cells c T fz') ∧ (w.freeze ⟨b, n, none⟩ 1).heap.size = w.heap.size ∧ (∀ b', b' ≠ b → (w.freeze ⟨b, n, none⟩ 1).heap[b']? = w.heap[b']?) ∧
      ((w.freeze ⟨b, n, none⟩ 1).tape = w.tape ∧ (w.freeze ⟨b, n, none⟩ 1).os = w.os ∧ (w.freeze ⟨b, n, none⟩ 1).output = w.output) := by
  unfold World.freeze
  rw [if_neg (by decide)]
  simp only [Array.getElem?_modify, Array.size_modify, hb, if_true, Option.map_some]
  refine ⟨_, rfl, trivial, fun b' h => by rw [if_neg (fun e => h e.symm)], trivial, trivial, trivial⟩

theorem tokOf_sound (S : Sim B F H E) {mt : Nat → Bool} {fr : Nat} (hfr : fr < H.length) {dst : Option Nat} {src d : TypeId} {x : V} {c : Value} {l : List UInt8} {st : Step} (h : tokOf P mt dst src d x = some l)
    (hn : new (hget H) fr dst (.grow l.length) (fun k => .gslice fr k (ofBytes l) l.length 1) = some st) (hr : Rel E x c) : Good B F H E st ((convert src d c).run P E.w) := by
  unfold tokOf at h
  split at h
  case h_2 => cases h
  rename_i k e s hs hd
  split at h
  case h_2 => cases h
  rename_i he
  split at h
  case isFalse => cases h
  cases h
  obtain ⟨d', hd', hg, rfl⟩ := new_some hn
  cases hd'
  simp only [Rel] at hr; subst hr
  generalize hcap : l.length + (E.w.tape E.w.drawn (.appendCap l.length 0 e)) % (2 ^ 63 - l.length) = cap
  have hle : l.length ≤ cap := by omega
  have e2 : ((l.map fun b => Value.int .u8 b.toNat) ++ List.replicate (cap - l.length) (Value.int .u8 0)).length = cap := by simp; omega
  obtain ⟨X, S', hrow⟩ := S.newTok hfr hg l.length (l.length * 1) (cap * 1) ((l.map fun b => Value.int .u8 b.toNat) ++ List.replicate (cap - l.length) (.int .u8 0)) e (E.w.drawn + 1) (by rw [e2]; omega) (cap, cap + 1) (.inr (by simp))
  have htake : ((l.map fun b => Value.int .u8 b.toNat) ++ List.replicate (cap - l.length) (Value.int .u8 0)).take (l.length * 1) = l.map fun b => Value.int .u8 b.toNat := by simp
  rw [htake] at hrow
  refine ⟨_, _, _, .slice (some ⟨E.w.heap.size, 0, none⟩) l.length cap, rfl, X, S', ?_, ?_⟩
  · simp only [Rel]
    refine ⟨E.w.heap.size, 0, cap, l.map (fun b => Value.int .u8 b.toNat), rfl, hle, hrow, relL_bytes _ l, by simp [ofBytes], by simp [Env.newTok, upd_same], ?_⟩
    intro n' b' lo hi e
    simp only [Env.newTok, upd_same, Option.some.injEq, Prod.mk.injEq] at e
    obtain ⟨rfl, rfl, rfl, rfl⟩ := e
    exact ⟨Nat.le_refl _, fun _ => ⟨rfl, by omega, by omega⟩⟩
  · have hsz : (⟨⟨l⟩⟩ : ByteArray).size = l.length := rfl
    have hf : (Question.appendCap l.length 0 e).forced = false := rfl
    have hq : (Question.appendCap l.length 0 e).cut (E.w.tape E.w.drawn (.appendCap l.length 0 e)) = cap := hcap
    simp only [convert, Sem.run_bind, run_und hs, run_und hd, run_und he, Result.andThen_ok, Conv.stringToBytes, hsz, run_choose, hf, Bool.false_eq_true, if_false, hq, run_newRow, markStringish, run_shape]
    have hpush : ∀ (w : World) (o : Obj), ({ w with heap := w.heap.push o } : World).heap[w.heap.size]? = some o := fun w o => by simp
    simp only [World.shape?, hpush]
    simp only [Sem.run_pure, Result.andThen_ok, run_freeze]
    congr 1
    have e1 : (Array.map (fun b => Value.int IntKind.u8 b.toNat) (⟨l⟩ : Array UInt8) ++ Array.replicate (cap - l.length) (Value.int .u8 0)) =
        ⟨(l.map fun b => Value.int .u8 b.toNat) ++ List.replicate (cap - l.length) (.int .u8 0)⟩ := by
      apply Array.ext'; simp
    simp only [World.freeze, Env.newTok, Env.push]
    rw [if_neg (by decide), e1]
    simp only [push_modify, beq_self_eq_true, if_true, List.size_toArray, e2]

theorem convertV_sound (S : Sim B F H E) {src d : TypeId} {x : V} {c : Value} {st : Step} (h : convertV P (hget H) src d x = some st) (hr : Rel E x c) :
    Good B F H E st ((convert src d c).run P E.w) := by
  unfold convertV at h
  split at h
  · rename_i q k k' n hs hd
    cases h
    simp only [Rel] at hr; subst hr
    refine Good.same S (cv := .int k (k.wrap n)) (by simp [Rel]) ?_
    simp [convert, run_und hs, run_und hd, Conv.intToInt]
  · rename_i s hs hd
    cases h
    simp only [Rel] at hr; subst hr
    refine Good.same S (cv := .string ⟨⟨s⟩⟩) (by simp [Rel]) ?_
    simp [convert, run_und hs, run_und hd]
  · rename_i e s hs hd
    split at h
    case h_2 => cases h
    rename_i he
    cases h
    simp only [Rel] at hr; subst hr
    -- a new row
    generalize hcap : s.length + (E.w.tape E.w.drawn (.appendCap s.length 0 e)) % (2 ^ 63 - s.length) = cap
    have hle : s.length ≤ cap := by omega
    obtain ⟨X, S', hrow⟩ := S.newRow ((s.map fun b => Value.int .u8 b.toNat) ++ List.replicate (cap - s.length) (.int .u8 0)) e (cap, cap + 1) (E.w.drawn + 1)
    have hbytes := relL_bytes (E.newRow ((s.map fun b => Value.int .u8 b.toNat) ++ List.replicate (cap - s.length) (.int .u8 0)) e (cap, cap + 1) (E.w.drawn + 1)) s
    refine ⟨_, _, _, .slice (some ⟨E.w.heap.size, 0, none⟩) s.length cap, rfl, X, S', ?_, ?_⟩
    · simp only [Rel]
      refine ⟨_, cap, s.map (fun b => Value.int .u8 b.toNat), rfl, hle, (fun h => by cases h), .inr ⟨rfl, ?_⟩, hbytes, pureL_bytes s⟩
      intro i v hv
      exact hrow i v (by rw [List.getElem?_append_left (List.getElem?_eq_some_iff.1 hv).1]; exact hv)
    · have hsz : (⟨⟨s⟩⟩ : ByteArray).size = s.length := rfl
      have hf : (Question.appendCap s.length 0 e).forced = false := rfl
      have hq : (Question.appendCap s.length 0 e).cut (E.w.tape E.w.drawn (.appendCap s.length 0 e)) = cap := hcap
      simp only [convert, Sem.run_bind, run_und hs, run_und hd, run_und he, Result.andThen_ok, Conv.stringToBytes, hsz, run_choose, hf, Bool.false_eq_true, if_false, hq, run_newRow, markStringish, run_shape]
      have hpush : ∀ (w : World) (o : Obj), ({ w with heap := w.heap.push o } : World).heap[w.heap.size]? = some o := fun w o => by simp
      simp only [World.shape?, hpush]
      simp only [Sem.run_pure, Result.andThen_ok, run_freeze]
      congr 1
      have e1 : (Array.map (fun b => Value.int IntKind.u8 b.toNat) (⟨s⟩ : Array UInt8) ++ Array.replicate (cap - s.length) (Value.int .u8 0)) =
          ⟨(s.map fun b => Value.int .u8 b.toNat) ++ List.replicate (cap - s.length) (.int .u8 0)⟩ := by
        apply Array.ext'; simp
      have e2 : ((s.map fun b => Value.int .u8 b.toNat) ++ List.replicate (cap - s.length) (Value.int .u8 0)).length = cap := by simp; omega
      simp only [World.freeze, Env.newRow, Env.push]
      rw [if_neg (by decide), e1]
      simp only [push_modify, beq_self_eq_true, if_true, List.size_toArray, e2]
  · rename_i x _ _ _ e hs hd
    split at h
    case h_2 => cases h
    rename_i he
    split at h
    case h_2 => cases h
    rename_i cs n hsl
    cases hb : bytesOf cs with
    | none => rw [hb] at h; cases h
    | some l =>
      rw [hb] at h; cases h
      obtain ⟨a, cap, vs, rfl, h1, h2, h3, h4⟩ := sliceCells_sound (P := P) S hsl hr
      refine Good.same S (cv := .string ⟨⟨l⟩⟩) (by simp [Rel]) ?_
      have hf := h4 E.w n rfl (Nat.le_refl _)
      rw [← h3, List.take_length] at hf
      simp only [convert, Sem.run_bind, run_und hs, run_und hd, Result.andThen_ok]
      cases a with
      | none =>
        have hvs : vs = [] := by
          simp only [Builtin.firstCells, Sem.run_pure, Result.ok.injEq, and_true] at hf
          simpa using hf.symm
        subst hvs
        have hcs : cs = [] := List.eq_nil_of_length_eq_zero h2.length
        subst hcs
        cases hb
        simp only [run_und he, Result.andThen_ok, Conv.bytesToString, Sem.run_pure]
        rfl
      | some a =>
        have hld : (loadCells a n).run P E.w = .ok ⟨vs⟩ E.w := by
          simpa [Builtin.firstCells] using hf
        have := loop_bytes (P := P) E.w cs vs l [] hb h2
        simp only [Sem.run_bind, run_und he, Result.andThen_ok, Conv.bytesToString, hld]
        rw [← Array.forIn_toList]
        simp only [List.nil_append] at this
        have e0 : ByteArray.empty = (⟨⟨[]⟩⟩ : ByteArray) := rfl
        rw [e0]
        exact (congrArg (fun r : Result ByteArray => r.andThen fun a w' => Sem.run P (pure (Value.string a)) w') this).trans rfl
  · rename_i e0 e f s n m hs hd
    split at h
    case isFalse => cases h
    rename_i hc
    obtain ⟨rfl, rfl⟩ := hc
    split at h
    case h_2 => cases h
    rename_i xs he hg
    split at h
    case isFalse => cases h
    rename_i hp
    cases h
    simp only [Rel] at hr
    obtain ⟨b, c', T', n', hmu, rfl, h1, h2, h3, h4, _⟩ := hr
    obtain ⟨b', c, T, vs, rest, g1, g2, g3, g4, g5, g6, g7⟩ := S.obj f s _ hg
    rw [hmu] at g1; cases g1
    obtain ⟨fz, k1, k2, k3, k4⟩ := freeze_at E.w b n' g3
    obtain ⟨X, S'⟩ := S.die hg hmu g3 g2 (E.w.freeze ⟨b, n', none⟩ 1) k2 k3 k1 k4
    have hsh : E.w.shape? b = some (T', n') := h3
    refine ⟨_, _, _, .slice (some ⟨b, 0, none⟩) n n, rfl, X, S', ?_, ?_⟩
    · simp only [Rel]
      refine ⟨⟨b, 0, none⟩, n, vs, rfl, Nat.le_refl _, fun _ => rfl, .inr ⟨rfl, fun i v hv => ⟨?_, fun hm => hm.2 rfl⟩⟩, RelL.mono X S.lt _ _ g5, hp.2⟩
      have hcl : c[i]? = some v := by
        rw [← Array.getElem?_toList, g4, List.getElem?_append_left (List.getElem?_eq_some_iff.1 hv).1]; exact hv
      simp only [World.cell?, Nat.zero_add, k1]
      simpa using hcl
    · have := h2 _ rfl
      subst this
      have e1 : e0 = e := by rw [hs] at hd; cases hd; rfl
      subst e1
      simp [convert, run_und hs, run_und he, markStringish, run_shape, hsh]
  · cases h

end Go.AM
end
