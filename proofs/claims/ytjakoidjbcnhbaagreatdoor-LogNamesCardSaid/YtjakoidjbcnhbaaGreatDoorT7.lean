/- This file holds in one the texts An9, An10; each says at its head what it proves. -/
import Derived.Test.YtjakoidjbcnhbaaGreatDoorT6
import Derived.Laws.BitsLemmas
set_option linter.unusedSimpArgs false
set_option linter.unusedVariables false
section
/- The abstract machine, part 9: maps, new slices, appends, copies: as the model does. -/
namespace Go.AM
variable {P : Program} {E : Env} {B : Nat} {F : Nat → Nat → Prop} {H : Heap}

/-! ### Maps -/

theorem keyEq_sound {kd : TypeDesc} {k k' : V} {ck ck' : Value} {b : Bool} (hp : plainKey kd k = true) (h : keyEq k k' = some b) (r1 : Rel E k ck) (r2 : Rel E k' ck') : Instr.sameNow kd ck ck' = some b := by
  unfold keyEq at h
  split at h
  · split at h
    case isFalse => cases h
    rename_i hk
    cases h
    simp only [Rel] at r1 r2
    subst r1; subst r2
    cases kd <;> simp only [plainKey, Bool.false_eq_true] at hp
    simp [Instr.sameNow, hk]
  · cases h
    simp only [Rel] at r1 r2
    subst r1; subst r2
    cases kd <;> simp only [plainKey, Bool.false_eq_true] at hp
    simp only [Instr.sameNow, bytes_beq]
  · cases h
    simp only [Rel] at r1 r2
    subst r1; subst r2
    cases kd <;> simp only [plainKey, Bool.false_eq_true] at hp
    rfl
  · cases h

theorem findKey_sound {kd : TypeDesc} {k : V} {ck : Value} (hp : plainKey kd k = true) (rk : Rel E k ck) :
    ∀ (es : List (V × V)) (ces : List MapEntry) (i : Nat) (r : Option (Nat × V)), findKey k es i = some r → RelM E es ces →
      ∃ r', Instr.findNow kd ck ces i = some r' ∧ ((r = none ∧ r' = none) ∨ ∃ j x v, r = some (j, x) ∧ r' = some (j, v) ∧ Rel E x v ∧ i ≤ j ∧ j < i + es.length)
  | [], ces, i, r, h, hm => by
    simp only [RelM] at hm; subst hm
    cases h
    exact ⟨none, rfl, .inl ⟨rfl, rfl⟩⟩
  | (k', x) :: es, ces, i, r, h, hm => by
    obtain ⟨e, ces, rfl, h1, h2, h3⟩ := hm
    simp only [findKey] at h
    split at h
    · rename_i hk
      cases h
      exact ⟨_, by simp only [Instr.findNow, keyEq_sound hp hk rk h1], .inr ⟨i, x, e.val, rfl, rfl, h2, Nat.le_refl _, by simp⟩⟩
    · rename_i hk
      obtain ⟨r', g1, g2⟩ := findKey_sound hp rk es ces (i + 1) r h h3
      refine ⟨r', by simp only [Instr.findNow, keyEq_sound hp hk rk h1]; exact g1, ?_⟩
      rcases g2 with g2 | ⟨j, x, v, a1, a2, a3, a4, a5⟩
      · exact .inl g2
      · exact .inr ⟨j, x, v, a1, a2, a3, by omega, by rw [List.length_cons]; omega⟩
    · cases h

theorem run_checkKey {kt : TypeId} {kd : TypeDesc} {k : V} {ck : Value} (w : World) (b : Bool) (hu : P.underlying kt = some kd) (hp : plainKey kd k = true) (rk : Rel E k ck) :
    (Instr.checkKey b 10000 kt ck).run P w = .ok () w := by
  have : ∀ n, (Instr.checkKey b (n + 1) kt ck).run P w = .ok () w := by
    intro n
    cases k <;> cases kd <;> simp only [plainKey, Bool.false_eq_true] at hp <;> simp only [Rel] at rk <;> subst rk <;> simp [Instr.checkKey, run_und hu]
  exact this 9999

theorem run_findKey {kt : TypeId} {kd : TypeDesc} {ck : Value} {ces : List MapEntry} {r' : Option (Nat × Value)} (w : World) (hu : P.underlying kt = some kd)
    (h : Instr.findNow kd ck ces 0 = some r') : (Instr.findKey kt ck ces).run P w = .ok r' w := by
  simp only [Instr.findKey, Sem.run_bind, run_und hu, Result.andThen_ok, h, Sem.run_pure]

theorem lookupV_sound (S : Sim B F H E) {t : TypeId} {m k y : V} {ok : Bool} {cm ck : Value} (h : lookupV P (hget H) t m k ok = some y) (rm : Rel E m cm) (rk : Rel E k ck) :
    ∃ v, (Instr.lookup t cm ck ok).run P E.w = .ok v E.w ∧ Rel E y v := by
  unfold lookupV at h
  split at h
  case h_2 => cases h
  rename_i kt e hu
  split at h
  case h_2 => cases h
  rename_i kd z hk hz
  split at h
  case isFalse => cases h
  rename_i hp
  have hzero : Rel E (if ok then V.tuple [ofConst z, .bool false] else ofConst z) (if ok then .tuple #[z, .bool false] else z) := by
    cases ok
    · exact rel_ofConst E z
    · simp only [if_true, Rel]
      exact ⟨[z, .bool false], rfl, .cons (rel_ofConst E z) (.cons (by simp [Rel]) .nil)⟩
  split at h
  · cases h
    simp only [Rel] at rm; subst rm
    refine ⟨_, ?_, hzero⟩
    simp only [Instr.lookup, Sem.run_bind, run_und hu, Result.andThen_ok, Sem.run_pure, run_checkKey E.w _ hk hp rk, run_findKey E.w hk (ces := []) rfl, run_zer hz]
  · rename_i f s
    split at h
    case h_2 => cases h
    rename_i es bs clk hg
    simp only [Rel] at rm
    obtain ⟨b, hb, rfl⟩ := rm
    obtain ⟨b', ces, g1, _, g3, g4, g5⟩ := S.obj f s _ hg
    rw [hb] at g1; cases g1
    split at h
    · rename_i j x hf
      cases h
      obtain ⟨r', h1, h2⟩ := findKey_sound hp rk es ces.toList 0 _ hf g4
      rcases h2 with ⟨h2, _⟩ | ⟨j', x', v, h2, rfl, h3, _⟩
      · cases h2
      cases h2
      refine ⟨if ok then .tuple #[v, .bool true] else v, ?_, ?_⟩
      · simp only [Instr.lookup, Sem.run_bind, run_und hu, Result.andThen_ok, Sem.run_pure, run_getMap g3, run_checkKey E.w _ hk hp rk, run_findKey E.w hk h1]
      · cases ok
        · exact h3
        · simp only [if_true, Rel]
          exact ⟨[v, .bool true], rfl, .cons h3 (.cons (by simp [Rel]) .nil)⟩
    · rename_i hf
      cases h
      obtain ⟨r', h1, h2⟩ := findKey_sound hp rk es ces.toList 0 _ hf g4
      rcases h2 with ⟨_, rfl⟩ | ⟨_, _, _, h2, _⟩
      · refine ⟨_, ?_, hzero⟩
        simp only [Instr.lookup, Sem.run_bind, run_und hu, Result.andThen_ok, Sem.run_pure, run_getMap g3, run_checkKey E.w _ hk hp rk, run_findKey E.w hk h1, run_zer hz]
      · cases h2
    · cases h
  · cases h

def Env.setMap (E : Env) (b : Nat) (ces : List MapEntry) (clk : Nat) : Env := { E with w := { E.w with heap := E.w.heap.setIfInBounds b (.map ⟨ces⟩ clk) } }

theorem setMap_other (E : Env) (b : Nat) (ces : List MapEntry) (clk : Nat) (b' : Nat) (h : b' ≠ b) : (E.setMap b ces clk).w.heap[b']? = E.w.heap[b']? := by
  simp only [Env.setMap]
  rw [Array.getElem?_setIfInBounds_ne (by omega)]

theorem Sim.setMap (S : Sim B F H E) {f0 s0 b : Nat} {es0 es : List (V × V)} {bs0 : List Nat} {k0 : Nat} (ho : hget H f0 s0 = some (.map es0 bs0 k0)) (hmu : E.mu f0 s0 = some b) {ces0 : Array MapEntry} {clk0 : Nat}
    (hb : E.w.heap[b]? = some (.map ces0 clk0)) (hB : B ≤ b) (ces : List MapEntry) (clk : Nat) (hr : RelM E es ces) :
    Ext H.length B E (E.setMap b ces clk) ∧ Sim B F (hset H f0 s0 (.map es (ces.map (·.born)) clk)) (E.setMap b ces clk) := by
  have hlt : b < E.w.heap.size := (Array.getElem?_eq_some_iff.1 hb).1
  have hself : (E.setMap b ces clk).w.heap[b]? = some (.map ⟨ces⟩ clk) := by simp [Env.setMap, hlt]
  have hcell : ∀ i, E.w.cell? ⟨b, i, none⟩ = none := fun i => by simp [World.cell?, hb]
  have X : Ext H.length B E (E.setMap b ces clk) := by
    refine ⟨by simp [Env.setMap], ?_, ?_, fun _ _ _ _ h => h, fun _ _ _ _ h => h, fun f s n b lo hi _ _ h => ⟨n, b, lo, hi, h, .inr ⟨rfl, rfl, rfl, rfl⟩⟩, ?_, ⟨rfl, rfl, rfl⟩, rfl, fun b' h => by rw [setMap_other E b ces clk b' (by rintro rfl; rw [hb] at h; cases h)]; exact h⟩
    · intro b' T n h
      by_cases e : b' = b
      · subst e; simp [World.shape?, hb] at h
      · rw [shape_of_heap (setMap_other E b ces clk b' e)]; exact h
    · intro b' i v _ h
      by_cases e : b' = b
      · subst e; rw [hcell] at h; cases h
      · rw [cell_of_heap (setMap_other E b ces clk b' e)]; exact h
    · intro b' hb'
      exact setMap_other E b ces clk b' (by omega)
  have hblk : blk E f0 s0 (.map es0 bs0 k0) = some b := hmu
  refine ⟨X, S.step f0 s0 _ (hget_lt ho) X (fun f s e => rfl) (by simp [Env.setMap, hmu]) (fun f s e => rfl) ?_ ?_ ?_ ?_ ?_ ?_⟩
  · intro n x h
    have := S.nreg f0 s0 n x h
    rw [ho] at this; cases this
  · intro f s o b' e ho' hb'
    refine ⟨?_, fun i h => h⟩
    have hne : b' ≠ b := fun e' => e (S.inj f s o f0 s0 _ b' ho' ho hb' (e' ▸ hblk))
    exact setMap_other E b ces clk b' hne
  · exact fun b i h => S.fmod b i h
  · intro b' i h
    simp only [Env.setMap, Array.size_setIfInBounds]
    exact S.modsz b' i h
  · exact ⟨b, ⟨ces⟩, hmu, hB, hself, RelM.mono X S.lt _ _ hr, rfl⟩
  · intro f s o b' e ho' hb' h
    simp only [blk, Env.setMap, hmu, Option.some.injEq] at h
    subst h
    exact e (S.inj f s o f0 s0 _ b ho' ho hb' hblk)

theorem RelM.set {es : List (V × V)} : ∀ {ces : List MapEntry} (i : Nat) {k x : V} {ck cx : Value}, RelM E es ces → Rel E k ck → Rel E x cx →
    RelM E (es.set i (k, x)) (ces.modify i fun e => { e with key := ck, val := cx }) := by
  induction es with
  | nil => intro ces i k x ck cx h _ _; simp only [RelM] at h; subst h; simp [RelM]
  | cons y es ih =>
    intro ces i k x ck cx h hk hx
    obtain ⟨k', x'⟩ := y
    obtain ⟨e, r, rfl, h1, h2, h3⟩ := h
    cases i with
    | zero => simp only [List.set_cons_zero, List.modify_cons, RelM]; exact ⟨_, _, rfl, hk, hx, h3⟩
    | succ i => simp only [List.set_cons_succ, List.modify_succ_cons, RelM]; exact ⟨_, _, rfl, h1, h2, ih i h3 hk hx⟩

theorem RelM.append {es es' : List (V × V)} : ∀ {ces ces' : List MapEntry}, RelM E es ces → RelM E es' ces' → RelM E (es ++ es') (ces ++ ces') := by
  induction es with
  | nil => intro ces ces' h g; simp only [RelM] at h; subst h; simpa using g
  | cons y es ih =>
    intro ces ces' h g
    obtain ⟨k', x'⟩ := y
    obtain ⟨e, r, rfl, h1, h2, h3⟩ := h
    exact ⟨e, r ++ ces', rfl, h1, h2, ih h3 g⟩

theorem RelM.one {k x : V} {e : MapEntry} (hk : Rel E k e.key) (hx : Rel E x e.val) : RelM E [(k, x)] [e] := ⟨e, [], rfl, hk, hx, rfl⟩

theorem RelM.erase {es : List (V × V)} : ∀ {ces : List MapEntry} (i : Nat), RelM E es ces → RelM E (es.eraseIdx i) (ces.eraseIdx i) := by
  induction es with
  | nil => intro ces i h; simp only [RelM] at h; subst h; simp [RelM]
  | cons y es ih =>
    intro ces i h
    obtain ⟨k', x'⟩ := y
    obtain ⟨e, r, rfl, h1, h2, h3⟩ := h
    cases i with
    | zero => simpa using h3
    | succ i => simp only [List.eraseIdx_cons_succ, RelM]; exact ⟨_, _, rfl, h1, h2, ih i h3⟩

theorem born_modify (ck cx : Value) : ∀ (l : List MapEntry) (j : Nat), (l.modify j fun e => { e with key := ck, val := cx }).map (·.born) = l.map (·.born)
  | [], j => by simp
  | e :: l, 0 => by simp
  | e :: l, j + 1 => by simp [born_modify ck cx l j]
theorem born_key (ck : Value) : ∀ (l : List MapEntry) (j : Nat), (l.modify j fun e => { e with key := ck }).map (·.born) = l.map (·.born)
  | [], j => by simp
  | e :: l, 0 => by simp
  | e :: l, j + 1 => by simp [born_key ck l j]
theorem findNow_val {kd : TypeDesc} {ck : Value} : ∀ {ces : List MapEntry} {i j : Nat} {v : Value}, Instr.findNow kd ck ces i = some (some (j, v)) → (ces[j - i]?).map (·.val) = some v
  | [], i, j, v, h => by cases h
  | e :: r, i, j, v, h => by
    simp only [Instr.findNow] at h
    split at h
    · cases h; simp
    · have h1 := findNow_val h
      have h2 : i + 1 ≤ j := by
        have : ∀ {ces : List MapEntry} {i j : Nat} {v : Value}, Instr.findNow kd ck ces i = some (some (j, v)) → i ≤ j := by
          intro ces
          induction ces with
          | nil => intro i j v h; cases h
          | cons e r ih =>
            intro i j v h
            simp only [Instr.findNow] at h
            split at h
            · cases h; exact Nat.le_refl _
            · have := ih h; omega
            · cases h
        exact this h
      rw [show j - i = (j - (i + 1)) + 1 by omega]
      simpa using h1
    · cases h
theorem born_erase : ∀ (l : List MapEntry) (j : Nat), (l.eraseIdx j).map (·.born) = (l.map (·.born)).eraseIdx j
  | [], j => by simp
  | e :: l, 0 => by simp
  | e :: l, j + 1 => by simp [born_erase l j]
theorem RelM.get {es : List (V × V)} : ∀ {ces : List MapEntry}, RelM E es ces → ∀ {i : Nat} {x : V × V}, es[i]? = some x → ∃ e, ces[i]? = some e ∧ Rel E x.1 e.key ∧ Rel E x.2 e.val := by
  induction es with
  | nil => intro ces h i x hx; simp at hx
  | cons y es ih =>
    intro ces h i x hx
    obtain ⟨k', x'⟩ := y
    obtain ⟨e, r, rfl, h1, h2, h3⟩ := h
    cases i with
    | zero => simp at hx; subst hx; exact ⟨e, rfl, h1, h2⟩
    | succ i => simp at hx; obtain ⟨e', q1, q2⟩ := ih h3 hx; exact ⟨e', by simpa using q1, q2⟩

def Does (B : Nat) (F : Nat → Nat → Prop) (H : Heap) (E : Env) (v : V) (wr : Option (Nat × Nat × O)) (r : Result Next) : Prop :=
  ∃ E' cv, Ext H.length B E E' ∧ Sim B F (match wr with | none => H | some (f, s, o) => hset H f s o) E' ∧ Rel E' v cv ∧ (r = .ok (.value cv) E'.w ∨ (r = .ok .skip E'.w ∧ cv = undef))

theorem Does.same (S : Sim B F H E) {v : V} {cv : Value} {r : Result Next} (hr : Rel E v cv) (h : r = .ok (.value cv) E.w) : Does B F H E v none r :=
  ⟨E, cv, Ext.refl _ _ _, S, hr, .inl h⟩

theorem keyStays {kd : TypeDesc} {k : V} {ck : Value} (hp : plainKey kd k = true) {ces : List MapEntry} : ∀ {i j : Nat} {v : Value}, Instr.findNow kd ck ces i = some (some (j, v)) → Rel E k ck →
    ∃ e, ces[j - i]? = some e ∧ i ≤ j ∧ Instr.sameBits 10000 e.key ck = true := by
  induction ces with
  | nil => intro i j v h _; cases h
  | cons e r ih =>
    intro i j v h rk
    simp only [Instr.findNow] at h
    split at h
    · rename_i hs
      cases h
      refine ⟨e, by simp, Nat.le_refl _, ?_⟩
      cases k <;> cases kd <;> simp only [plainKey, Bool.false_eq_true] at hp <;> simp only [Rel] at rk <;> subst rk
      · cases hk : e.key <;> rw [hk] at hs <;> simp only [Instr.sameNow, reduceCtorEq] at hs
        simp only [Option.some.injEq, beq_iff_eq] at hs; subst hs
        simp [Instr.sameBits]
      · cases hk : e.key <;> rw [hk] at hs <;> simp only [Instr.sameNow, reduceCtorEq] at hs
        split at hs
        · rename_i hkk
          simp only [Option.some.injEq, beq_iff_eq] at hs; subst hs; subst hkk
          simp [Instr.sameBits]
        · cases hs
      · cases hk : e.key <;> rw [hk] at hs <;> simp only [Instr.sameNow, reduceCtorEq] at hs
        rename_i s s'
        obtain ⟨⟨l⟩⟩ := s'
        rw [bytes_beq] at hs
        simp only [Option.some.injEq, beq_iff_eq] at hs; subst hs
        simp only [Instr.sameBits, bytes_beq, beq_self_eq_true]
    · obtain ⟨e', h1, h2, h3⟩ := ih h rk
      refine ⟨e', ?_, by omega, h3⟩
      rw [show j - i = (j - (i + 1)) + 1 by omega]
      simpa using h1
    · cases h

theorem updateV_sound (S : Sim B F H E) {t : TypeId} {m k x : V} {cm ck cx : Value} {st : Step} (h : updateV P (hget H) t m k x = some st) (rm : Rel E m cm) (rk : Rel E k ck) (rx : Rel E x cx) :
    ∃ v wr, st = .val v wr ∧ ∀ r, (Instr.mapUpdate t cm ck cx).run P E.w = r → ∃ E' cv, Ext H.length B E E' ∧ Sim B F (match wr with | none => H | some (f, s, o) => hset H f s o) E' ∧ Rel E' v cv ∧ r = .ok () E'.w ∧ cv = undef := by
  unfold updateV at h
  split at h
  case h_2 => cases h
  rename_i kt e hu
  split at h
  case h_2 => cases h
  rename_i kd hk
  split at h
  case isFalse => cases h
  rename_i hp
  split at h
  case h_2 => cases h
  rename_i f s
  split at h
  case h_2 => cases h
  rename_i es bs clk hg
  simp only [Rel] at rm
  obtain ⟨b, hb, rfl⟩ := rm
  obtain ⟨b', ces, g1, g2, g3, g4, g5⟩ := S.obj f s _ hg
  rw [hb] at g1; cases g1
  split at h
  · rename_i j y hf
    cases h
    refine ⟨_, _, rfl, ?_⟩
    rintro r rfl
    obtain ⟨r', h1, h2⟩ := findKey_sound hp rk es ces.toList 0 _ hf g4
    rcases h2 with ⟨h2, _⟩ | ⟨j', x', v, h2, rfl, h3, _, h5⟩
    · cases h2
    cases h2
    obtain ⟨e', q1, _, q2⟩ := keyStays hp h1 rk
    simp only [Nat.sub_zero] at q1
    have hkey : ((ces[j]?).map (·.key)).getD ck = e'.key := by
      have : ces[j]? = some e' := by simpa using q1
      rw [this]; rfl
    have q2' : Instr.sameBits 10000 (((ces[j]?).map (·.key)).getD ck) ck = true := by rw [hkey]; exact q2
    obtain ⟨X, S'⟩ := S.setMap hg hb g3 g2 (ces.toList.modify j fun e => { e with key := ck, val := cx }) clk (RelM.set j g4 rk rx)
    rw [born_modify, g5] at S'
    refine ⟨_, undef, X, S', by simp [Rel], ?_, rfl⟩
    simp only [Instr.mapUpdate, Sem.run_bind, run_und hu, Result.andThen_ok, run_getMap g3, run_checkKey E.w _ hk hp rk, run_findKey E.w hk h1, Instr.keyThatStays, q2', if_true, Sem.run_pure, run_setMap g3]
    congr 1
    simp only [Env.setMap]
    congr 2
    congr 1
    apply Array.ext'
    simp
  · rename_i hf
    cases h
    refine ⟨_, _, rfl, ?_⟩
    rintro r rfl
    obtain ⟨r', h1, h2⟩ := findKey_sound hp rk es ces.toList 0 _ hf g4
    rcases h2 with ⟨_, rfl⟩ | ⟨_, _, _, h2, _⟩
    · obtain ⟨X, S'⟩ := S.setMap hg hb g3 g2 (ces.toList ++ [{ key := ck, val := cx, born := clk }]) (clk + 1) (RelM.append g4 (RelM.one rk rx))
      rw [List.map_append, g5] at S'
      refine ⟨_, undef, X, S', by simp [Rel], ?_, rfl⟩
      simp only [Instr.mapUpdate, Sem.run_bind, run_und hu, Result.andThen_ok, run_getMap g3, run_checkKey E.w _ hk hp rk, run_findKey E.w hk h1, run_setMap g3]
      congr 1
      simp only [Env.setMap]
      congr 2
      congr 1
      apply Array.ext'
      simp
    · cases h2
  · cases h

theorem deleteV_sound (S : Sim B F H E) {ts : Array TypeId} {t ty : TypeId} {m k : V} {cm ck : Value} {st : Step} (ht : ts[0]? = some t) (h : deleteV P (hget H) t m k = some st) (rm : Rel E m cm) (rk : Rel E k ck) :
    ∃ v wr, st = .val v wr ∧ ∀ r, (Builtin.delete_ ts ty #[cm, ck]).run P E.w = r → ∃ E' cv, Ext H.length B E E' ∧ Sim B F (match wr with | none => H | some (f, s, o) => hset H f s o) E' ∧ Rel E' v cv ∧ r = .ok cv E'.w := by
  unfold deleteV at h
  split at h
  case h_2 => cases h
  rename_i kt e hu
  split at h
  case h_2 => cases h
  rename_i kd hk
  split at h
  case isFalse => cases h
  rename_i hp
  have hnil : Rel E (.tuple []) (.tuple #[]) := by simp only [Rel]; exact ⟨[], rfl, .nil⟩
  split at h
  · cases h
    refine ⟨_, _, rfl, ?_⟩
    rintro r rfl
    simp only [Rel] at rm; subst rm
    exact ⟨E, .tuple #[], Ext.refl _ _ _, S, hnil, by simp [Builtin.delete_, ht, run_und hu, run_checkKey E.w _ hk hp rk]⟩
  · rename_i f s
    split at h
    case h_2 => cases h
    rename_i es bs clk hg
    simp only [Rel] at rm
    obtain ⟨b, hb, rfl⟩ := rm
    obtain ⟨b', ces, g1, g2, g3, g4, g5⟩ := S.obj f s _ hg
    rw [hb] at g1; cases g1
    split at h
    · rename_i j y hf
      cases h
      refine ⟨_, _, rfl, ?_⟩
      rintro r rfl
      obtain ⟨r', h1, h2⟩ := findKey_sound hp rk es ces.toList 0 _ hf g4
      rcases h2 with ⟨h2, _⟩ | ⟨j', x', v, h2, rfl, h3, _, h5⟩
      · cases h2
      cases h2
      obtain ⟨X, S'⟩ := S.setMap hg hb g3 g2 (ces.toList.eraseIdx j) clk (RelM.erase j g4)
      rw [born_erase, g5] at S'
      refine ⟨_, .tuple #[], X, S', Rel.mono X S.lt _ _ hnil, ?_⟩
      have harr : (⟨ces.toList.eraseIdx j⟩ : Array MapEntry) = ces.eraseIdxIfInBounds j := by
        apply Array.ext'
        simp [Array.toList_eraseIdxIfInBounds]
      simp [Builtin.delete_, ht, run_und hu, run_getMap g3, run_checkKey E.w _ hk hp rk, run_findKey E.w hk h1, run_setMap g3, Env.setMap, harr]
    · rename_i hf
      cases h
      refine ⟨_, _, rfl, ?_⟩
      rintro r rfl
      obtain ⟨r', h1, h2⟩ := findKey_sound hp rk es ces.toList 0 _ hf g4
      rcases h2 with ⟨_, rfl⟩ | ⟨_, _, _, h2, _⟩
      · obtain ⟨X, S'⟩ := S.setMap hg hb g3 g2 ces.toList clk g4
        rw [g5] at S'
        refine ⟨_, .tuple #[], X, S', Rel.mono X S.lt _ _ hnil, ?_⟩
        simp [Builtin.delete_, ht, run_und hu, run_getMap g3, run_checkKey E.w _ hk hp rk, run_findKey E.w hk h1, run_setMap g3, Env.setMap]
      · cases h2
    · cases h
  · cases h

end Go.AM
end
section
/- The abstract machine, part 10: new slices, appends, copies: as the model does. -/
namespace Go.AM
variable {P : Program} {E : Env} {B : Nat} {F : Nat → Nat → Prop} {H : Heap}

theorem roomy_le {len bytes : Nat} (h : roomy len bytes = true) : len * bytes ≤ 35184372088832 ∧ len ≤ 35184372088832 := by
  simpa [roomy] using h

theorem growBy_le (newLen : Nat) : ∀ (r c : Nat), c ≤ newLen → Builtin.growBy newLen r c ≤ 2 * newLen + 192
  | 0, c, h => by simp only [Builtin.growBy]; omega
  | r + 1, c, h => by
    simp only [Builtin.growBy]
    split
    · omega
    · by_cases h2 : c + (c + 768) / 4 ≤ newLen
      · exact growBy_le newLen r _ h2
      · have : Builtin.growBy newLen r (c + (c + 768) / 4) = c + (c + 768) / 4 := by
          cases r with
          | zero => rfl
          | succ r => simp only [Builtin.growBy]; rw [if_pos (by omega)]
        rw [this]; omega

theorem nextcap_le {need cap bytes : Nat} (h : cap < need) (hr : roomy need bytes = true) : ¬ (Builtin.nextslicecap need cap * bytes > 2 ^ 48) := by
  obtain ⟨h1, h2⟩ := roomy_le hr
  unfold Builtin.nextslicecap
  split
  · omega
  · split
    · have : 2 * cap * bytes ≤ 2 * (need * bytes) := by
        rw [Nat.mul_assoc]
        exact Nat.mul_le_mul_left _ (Nat.mul_le_mul_right _ (by omega))
      omega
    · have g := growBy_le need 4 cap (by omega)
      have g1 : Builtin.growBy need 4 cap * bytes ≤ (2 * need + 192) * bytes := Nat.mul_le_mul_right _ g
      have g2 : (2 * need + 192) * bytes = 2 * (need * bytes) + 192 * bytes := by rw [Nat.add_mul, Nat.mul_assoc]
      have g3 : 256 * bytes ≤ need * bytes := Nat.mul_le_mul_right _ (by omega)
      omega

theorem zeroCells_fold (zs : Array Value) (n : Nat) : Builtin.zeroCells zs n = ⟨zerosN zs.toList n⟩ := by
  have := range_zeros zs.toList n
  simp only [Array.length_toList] at this
  exact this

inductive Src (P : Program) (w : World) (e : TypeId) (n by_ : Nat) (t2 : TypeId) : Value → Nat → List Value → Prop
  | zeros (k : Int) (kd : IntKind) (zv : Value) (hu : P.underlying t2 = some (.int kd)) (hk : 0 ≤ k) (hr : roomy k.toNat by_ = true) (hz : zer P e = some zv) (hl : zv.cells.size = n) :
      Src P w e n by_ t2 (.int .i64 k) k.toNat (zerosN zv.cells.toList k.toNat)
  | other (x : Value) (m : Nat) (news : List Value) (d : TypeDesc) (hu : P.underlying t2 = some d) (hd : ∀ k, d ≠ .int k)
      (hlen : ∀ w' : World, (Builtin.lenOf x).run P w' = .ok m w') (hc : ∀ w' : World, w'.heap = w.heap → (Builtin.firstCells n m x).run P w' = .ok ⟨news⟩ w') : Src P w e n by_ t2 x m news

theorem run_newRow (w : World) (T : TypeId) (c : Array Value) : (newRow T c).run P w = .ok ⟨w.heap.size, 0, none⟩ { w with heap := w.heap.push (.cells c T) } := rfl

theorem arr0 (a b : Value) : (#[a, b] : Array Value)[0]? = some a := rfl
theorem arr1 (a b : Value) : (#[a, b] : Array Value)[1]? = some b := rfl

theorem run_asInt (w : World) (k : IntKind) (n : Int) : (Go.asInt (.int k n)).run P w = .ok n w := by simp [Go.asInt, asIntOf]

theorem run_append_grow {w : World} {ts : Array TypeId} {t t2 ty e : TypeId} {n by_ m sLen sCap : Nat} {s x : Value} {base : Option Addr} {olds news : List Value} {zv : Value}
    (ht : ts[0]? = some t) (ht2 : ts[1]? = some t2) (hu : P.underlying t = some (.slice e)) (hn : sz P e = some n) (hb : byt P e = some by_) (hz : zer P e = some zv)
    (hs : s = .slice base sLen sCap) (hsrc : Src P w e n by_ t2 x m news)
    (hold : ∀ w' : World, w'.heap = w.heap → (Builtin.firstCells n sLen s).run P w' = .ok ⟨olds⟩ w') (hg : sCap < sLen + m) (hr : roomy (sLen + m) by_ = true) :
    ∃ newCap, sLen + m ≤ newCap ∧ (Builtin.append_ ts ty #[s, x]).run P w = .ok (.slice (some ⟨w.heap.size, 0, none⟩) (sLen + m) newCap)
      { w with heap := w.heap.push (.cells ⟨olds ++ news ++ zerosN zv.cells.toList (newCap - (sLen + m))⟩ e), drawn := w.drawn + 1 } := by
  obtain ⟨ti, hti, hbi⟩ := run_byt hb w
  have hti' : ∀ w' : World, (typeInfo e).run P w' = .ok ti w' := by
    intro w'
    obtain ⟨i2, h2, _⟩ := run_byt hb w'
    unfold typeInfo at hti h2 ⊢
    simp only [Sem.run_bind, run_program, Result.andThen_ok] at hti h2 ⊢
    cases hq : P.info? e with
    | none => rw [hq] at hti; simp at hti
    | some i => rw [hq] at hti; simp at hti; subst hti; simp
  have hnc := nextcap_le hg hr
  obtain ⟨hr1, hr2⟩ := roomy_le hr
  have hmax : IntKind.i64.max = 9223372036854775807 := by decide
  have hbig : ¬ (((sLen + m : Nat) : Int) > IntKind.i64.max) := by rw [hmax]; omega
  refine ⟨sLen + m + (w.tape w.drawn (.appendCap (sLen + m) sCap e)) % (2 ^ 63 - (sLen + m)), by omega, ?_⟩
  have hforced : (Question.appendCap (sLen + m) sCap e).forced = false := rfl
  subst hs
  cases hsrc with
  | zeros k kd zv' hu2 hk hrk hz' hl =>
    rw [hz] at hz'; cases hz'
    have hw : IntKind.i64.wrap k = k := by
      have := (roomy_le hrk).2
      rw [IntKind.wrap_i64]; omega
    have h1 : ¬ (k < 0) := by omega
    have h2 : ¬ (k * (by_ : Int) > 2 ^ 48) := by
      have h3 := (roomy_le hrk).1
      have : ((k.toNat * by_ : Nat) : Int) = k * (by_ : Int) := by push_cast; rw [Int.toNat_of_nonneg hk]
      omega
    have h3 : ¬ (sLen + k.toNat ≤ sCap) := by omega
    have hq : (Question.appendCap (sLen + k.toNat) sCap e).cut (w.tape w.drawn (.appendCap (sLen + k.toNat) sCap e)) =
      sLen + k.toNat + (w.tape w.drawn (.appendCap (sLen + k.toNat) sCap e)) % (2 ^ 63 - (sLen + k.toNat)) := rfl
    have happ : ∀ w' : World, (if k.toNat * n = 0 then Result.ok #[] w' else Result.ok (Builtin.zeroCells zv.cells k.toNat) w') = .ok ⟨zerosN zv.cells.toList k.toNat⟩ w' := by
      intro w'
      split
      · rename_i h0
        have : zerosN zv.cells.toList k.toNat = [] := by
          apply List.eq_nil_of_length_eq_zero
          rw [zerosN_length, Array.length_toList, hl, h0]
        rw [this]
      · rw [zeroCells_fold]
    have hold' := hold { w with drawn := w.drawn + 1 } rfl
    simp only [Builtin.append_, ht, ht2, arr0, arr1, Sem.run_bind, run_und hu, run_und hu2, run_sz hn, hti', hw, Result.andThen_ok, Sem.run_pure, run_asInt, h1, h2, h3, if_true, if_false, hbig, false_and, hbi, hnc, run_choose, hforced, hq, run_askRoom, Sem.run_ite, Bool.not_true, Bool.false_eq_true, hold', run_zer hz]
    rw [happ]
    simp only [Result.andThen_ok, run_newRow, zeroCells_fold, List.append_toArray]
  | other x m news d hu2 hd hlen hc =>
    have hold' := hold { w with drawn := w.drawn + 1 } rfl
    have hc' := hc { w with drawn := w.drawn + 1 } rfl
    have h3 : ¬ (sLen + m ≤ sCap) := by omega
    have hq : (Question.appendCap (sLen + m) sCap e).cut (w.tape w.drawn (.appendCap (sLen + m) sCap e)) =
      sLen + m + (w.tape w.drawn (.appendCap (sLen + m) sCap e)) % (2 ^ 63 - (sLen + m)) := rfl
    simp only [Builtin.append_, ht, ht2, arr0, arr1, Sem.run_bind, run_und hu, run_und hu2, run_sz hn, hti', Result.andThen_ok, Sem.run_pure, h3, if_true, if_false, hbig, false_and, hbi, hnc, run_choose, hforced, hq, run_askRoom, Sem.run_ite, Bool.not_false, Bool.false_eq_true, hold', run_zer hz, hlen, hc', run_newRow, zeroCells_fold]
    simp

theorem run_storeCells_z (P : Program) (g o : Nat) (t : TypeId) (z : Nat × Nat) : ∀ (vs : List Value) (i : Nat) (cur : Array Value) (w : World), w.heap[g]? = some (.cells cur t z) → (z = (0, 0) ∨ o + i + vs.length ≤ z.1) → o + i + vs.length ≤ cur.size → (∀ v ∈ vs, v.oneCell' = true) →
    (storeCells ⟨g, o, none⟩ vs i).run P w = .ok () (w.setRow g (cur.toList.take (o + i) ++ vs ++ cur.toList.drop (o + i + vs.length)).toArray)
  | [], i, cur, w, hg, _, _, _ => by
    simp only [storeCells, List.append_nil, List.length_nil, Nat.add_zero, List.take_append_drop, Array.toArray_toList]
    rw [setRow_self w g cur t z hg]
    rfl
  | v :: rest, i, cur, w, hg, hz, hl, h1 => by
    have hi : o + i < cur.size := by simp at hl; omega
    have hadd : (⟨g, o, none⟩ : Addr).add i = ⟨g, o + i, none⟩ := by unfold Addr.add; split <;> simp_all
    have hcell : w.cell? ⟨g, o + i, none⟩ = some cur[o + i] := by simp [World.cell?, hg, hi]
    have hfro : w.frozen? ⟨g, o + i, none⟩ = false := by
      rcases hz with rfl | hz
      · simp [World.frozen?, hg]
      · obtain ⟨lo, hi'⟩ := z
        simp only [World.frozen?, hg, Bool.and_eq_false_iff, decide_eq_false_iff_not]
        left
        simp only [List.length_cons] at hz
        omega
    have hst : (store ((⟨g, o, none⟩ : Addr).add i) v).run P w = .ok () (w.setRow g (cur.setIfInBounds (o + i) v)) := by
      rw [hadd, run_store P w _ v _ (h1 v (by simp)), hcell]
      simp [hfro, setCell_eq_setRow w g (o + i) cur t z v hg]
    have ih := run_storeCells_z P g o t z rest (i + 1) (cur.setIfInBounds (o + i) v) (w.setRow g (cur.setIfInBounds (o + i) v)) (setRow_heap w g cur _ t _ hg) (hz.imp id (fun h => by simp only [List.length_cons] at h; omega)) (by simp at hl ⊢; omega) (fun x hx => h1 x (by simp [hx]))
    simp only [storeCells, Sem.run_bind, hst, Result.andThen_ok, ih, setRow_setRow]
    congr 3
    have e := list_seg_step cur.toList (o + i) v rest (by simp at hl ⊢; omega)
    simpa [Array.toList_setIfInBounds, Nat.add_assoc] using e
theorem run_append_room {w : World} {ts : Array TypeId} {t t2 ty e : TypeId} {n by_ m sLen sCap b off : Nat} {x : Value} {news : List Value} {cur : Array Value} {T : TypeId} {z : Nat × Nat}
    (ht : ts[0]? = some t) (ht2 : ts[1]? = some t2) (hu : P.underlying t = some (.slice e)) (hn : sz P e = some n) (hb : byt P e = some by_)
    (hsrc : Src P w e n by_ t2 x m news) (hfit : sLen + m ≤ sCap) (hcell : w.heap[b]? = some (.cells cur T z))
    (hsz : off + sLen * n + news.length ≤ cur.size) (h1 : ∀ v ∈ news, v.oneCell' = true) (hz : z = (0, 0) ∨ off + sLen * n + news.length ≤ z.1 := by exact .inl rfl) :
    (Builtin.append_ ts ty #[.slice (some ⟨b, off, none⟩) sLen sCap, x]).run P w = .ok (.slice (some ⟨b, off, none⟩) (sLen + m) sCap)
      (w.setRow b ⟨splice cur.toList (off + sLen * n) news⟩) := by
  obtain ⟨ti, hti, hbi⟩ := run_byt hb w
  have hst := run_storeCells_z P b (off + sLen * n) T z news 0 cur w hcell (by simpa using hz) (by simpa using hsz) h1
  simp only [Nat.add_zero] at hst
  cases hsrc with
  | zeros k kd zv' hu2 hk hrk hz' hl =>
    have hw : IntKind.i64.wrap k = k := by
      have := (roomy_le hrk).2
      rw [IntKind.wrap_i64]; omega
    have g1 : ¬ (k < 0) := by omega
    have g2 : ¬ (k * (by_ : Int) > 2 ^ 48) := by
      have h3 := (roomy_le hrk).1
      have : ((k.toNat * by_ : Nat) : Int) = k * (by_ : Int) := by push_cast; rw [Int.toNat_of_nonneg hk]
      omega
    have happ : (if k.toNat * n = 0 then Result.ok #[] w else Result.ok (Builtin.zeroCells zv'.cells k.toNat) w) = .ok ⟨zerosN zv'.cells.toList k.toNat⟩ w := by
      split
      · rename_i h0
        have : zerosN zv'.cells.toList k.toNat = [] := by
          apply List.eq_nil_of_length_eq_zero
          rw [zerosN_length, Array.length_toList, hl, h0]
        rw [this]
      · rw [zeroCells_fold]
    simp only [Builtin.append_, ht, ht2, arr0, arr1, Sem.run_bind, run_und hu, run_und hu2, run_sz hn, hti, hw, Result.andThen_ok, Sem.run_pure, run_asInt, g1, g2, if_true, if_false, hbi, Sem.run_ite, Bool.not_true, Bool.false_eq_true, run_zer hz', hfit]
    rw [happ]
    simp only [Result.andThen_ok, addr_add, hst, splice]
  | other x m news d hu2 hd hlen hc =>
    have hc' := hc w rfl
    simp only [Builtin.append_, ht, ht2, arr0, arr1, Sem.run_bind, run_und hu, run_und hu2, run_sz hn, Result.andThen_ok, Sem.run_pure, if_true, if_false, Sem.run_ite, Bool.not_false, Bool.false_eq_true, hlen, hc', hfit, addr_add, hst, splice]

theorem run_append_zero {w : World} {ts : Array TypeId} {t t2 ty e : TypeId} {n by_ m sLen sCap : Nat} {base : Option Addr} {x : Value}
    (ht : ts[0]? = some t) (ht2 : ts[1]? = some t2) (hu : P.underlying t = some (.slice e)) (hn : sz P e = some n) (hb : byt P e = some by_)
    (hsrc : Src P w e n by_ t2 x m []) (hm : m = 0) (hfit : sLen ≤ sCap) :
    (Builtin.append_ ts ty #[.slice base sLen sCap, x]).run P w = .ok (.slice base sLen sCap) w := by
  obtain ⟨ti, hti, hbi⟩ := run_byt hb w
  have hst : ∀ a : Addr, (storeCells a []).run P w = .ok () w := fun a => rfl
  have hsrc' : ∃ news, news = [] ∧ Src P w e n by_ t2 x m news := ⟨[], rfl, hsrc⟩
  obtain ⟨news, hnil, hsrc'⟩ := hsrc'
  cases hsrc' with
  | zeros k kd zv' hu2 hk hrk hz' hl =>
    have hw : IntKind.i64.wrap k = k := by
      have := (roomy_le hrk).2
      rw [IntKind.wrap_i64]; omega
    have g1 : ¬ (k < 0) := by omega
    obtain rfl : k = 0 := by omega
    simp only [Builtin.append_, ht, ht2, arr0, arr1, Sem.run_bind, run_und hu, run_und hu2, run_sz hn, hti, hw, Result.andThen_ok, Sem.run_pure, run_asInt, g1, if_true, if_false, Sem.run_ite, Bool.not_true, Bool.false_eq_true, Int.toNat_zero, Nat.zero_mul, Nat.add_zero, hfit, Int.zero_mul]
    cases base <;> simp [hst]
  | other x m news d hu2 hd hlen hc =>
    subst hnil
    subst hm
    have hc' := hc w rfl
    simp only [Builtin.append_, ht, ht2, arr0, arr1, Sem.run_bind, run_und hu, run_und hu2, run_sz hn, Result.andThen_ok, Sem.run_pure, if_true, if_false, Sem.run_ite, Bool.not_false, Bool.false_eq_true, hlen, hc', Nat.add_zero, hfit]
    cases base <;> simp [hst]

end Go.AM
end
