/- This file holds in one the texts PK, PC; each says at its head what it proves. -/
import Derived.Test.YtebbgmeomkjibaaGreatI51
set_option linter.unusedSimpArgs false
set_option linter.unusedVariables false
section
/- The model in plain words: a line without its key tells nothing, and with it again what it told. -/
namespace Go.Mod

def pP : Bytes := [112]
/-- All keys have one passphrase. -/
def OneKey (S : MSt) : Prop := ∀ k ∈ S.keys, k.pass = pP
theorem oneKey_set {S : MSt} (h : OneKey S) {L : MLine} (hk : L.key < S.keys.length) (b : Bool) (l : List (Int × MLine)) (n : Int) : OneKey ⟨n, S.keys.set L.key { S.keyOf L with loaded := b }, l⟩ := by
  intro k hm
  rcases List.mem_or_eq_of_mem_set hm with h1 | rfl
  · exact h k h1
  · have e : S.keyOf L = S.keys[L.key] := by simp only [MSt.keyOf, List.getElem?_eq_getElem hk, Option.getD_some]
    show (S.keyOf L).pass = pP
    rw [e]
    exact h _ (List.getElem_mem hk)
theorem oneKey_do {S : MSt} {n : Nat} (ok : StOk S n) (h : OneKey S) {c : MCall} (ht : c.text = pP) : OneKey (doCall S c).1 := by
  unfold doCall
  split
  · unfold houseDo
    split
    · unfold hSet; split
      · exact h
      · intro k hk
        rcases List.mem_append.1 hk with h1 | h1
        · exact h k h1
        · rw [List.mem_singleton] at h1; subst h1; exact ht
    · split
      · unfold hSnap; split
        · exact h
        · split <;> exact h
      · split
        · unfold hClone; split
          · exact h
          · split <;> exact h
        · split
          · unfold hPromote; split
            · exact h
            · split
              · exact h
              · split <;> exact h
          · split
            · unfold hRoll; split
              · exact h
              · split
                · exact h
                · split
                  · exact h
                  · split <;> exact h
            · split
              · unfold hDestroy; split
                · exact h
                · split <;> exact h
              · split
                · unfold hLoad; split
                  · exact h
                  · rename_i L hL
                    split
                    · exact h
                    · split
                      · exact h
                      · exact oneKey_set h (ok.key _ (lineOf_mem hL)) true _ _
                · split
                  · unfold hUnload; split
                    · exact h
                    · rename_i L hL
                      split
                      · exact h
                      · exact oneKey_set h (ok.key _ (lineOf_mem hL)) false _ _
                  · split
                    · exact h
                    · split
                      · unfold hCommit; split <;> exact h
                      · exact h
  · split
    · exact h
    · split
      · exact h
      · split
        · exact h
        · split <;> exact h
theorem oneKey_run : ∀ (l : List MCall) (S : MSt) (n : Nat), StOk S n → OneKey S → (∀ c ∈ l, c.text = pP) → OneKey (runCalls S l).1
  | [], _, _, _, h, _ => h
  | c :: l, S, n, ok, h, hl => oneKey_run l _ (n + 1) (stOk_do ok c) (oneKey_do ok h (hl c (by simp))) fun d hd => hl d (List.mem_cons_of_mem _ hd)

def loadAt (i : Int) : MCall := ⟨7, i, 0, 0, [], [], pP, []⟩
def unloadAt (i : Int) : MCall := ⟨8, i, 0, 0, [], [], [], []⟩
theorem load_is (S : MSt) (i : Int) : doCall S (loadAt i) = hLoad S (loadAt i) := rfl
theorem unload_is (S : MSt) (i : Int) : doCall S (unloadAt i) = hUnload S (unloadAt i) := rfl

theorem looks_state (i : Int) : ∀ (l : List MCall) (S : MSt), (∀ c ∈ l, isLook c.kind = true) → SameLine i S (runCalls S l).1
  | [], _, _ => ⟨rfl, rfl⟩
  | c :: l, S, h => (look_state i S (h c (by simp))).trans (looks_state i l _ fun d hd => h d (List.mem_cons_of_mem _ hd))
/-- A line without its key. -/
theorem look_shut {S : MSt} {c : MCall} {L : MLine} (hk : isLook c.kind = true) (hL : lineOf S.lines c.a = some L) (h : (S.keyOf L).loaded = false) : doCall S c = (S, fail 200) := by
  unfold doCall
  simp only [(look_kind hk).1, (look_kind hk).2, hL, h]
  rfl
theorem looks_shut {i : Int} {L : MLine} : ∀ (l : List MCall) (S : MSt), (∀ c ∈ l, isLook c.kind = true ∧ c.a = i) → lineOf S.lines i = some L → (S.keyOf L).loaded = false → runCalls S l = (S, l.map fun _ => fail 200)
  | [], _, _, _, _ => rfl
  | c :: l, S, h, hL, hs => by
    have e := look_shut (h c (by simp)).1 (by rw [(h c (by simp)).2]; exact hL) hs
    simp only [runCalls, e, List.map_cons, looks_shut l S (fun d hd => h d (List.mem_cons_of_mem _ hd)) hL hs]

/-- Loaded, looked at, without its key, and with it again. -/
theorem keys_law {S : MSt} {n : Nat} (ok : StOk S n) (h1 : OneKey S) (i : Int) (l : List MCall) (hl : ∀ c ∈ l, isLook c.kind = true ∧ c.a = i) :
    (doCall S (loadAt i)).2.err = 6 ∨ ∃ S1 S2 S3 : MSt, (doCall S (loadAt i)) = (S1, fail 0) ∧ doCall (runCalls S1 l).1 (unloadAt i) = (S2, fail 0) ∧ runCalls S2 l = (S2, l.map fun _ => fail 200) ∧
      doCall S2 (loadAt i) = (S3, fail 0) ∧ (runCalls S3 l).2 = (runCalls S1 l).2 := by
  rw [load_is]
  unfold hLoad
  cases hL : lineOf S.lines (loadAt i).a with
  | none => exact .inl rfl
  | some L =>
    right
    have hk := ok.key _ (lineOf_mem hL)
    have hL' : lineOf S.lines i = some L := hL
    have e0 : S.keyOf L = S.keys[L.key] := by simp only [MSt.keyOf, List.getElem?_eq_getElem hk, Option.getD_some]
    have hp : (S.keyOf L).pass = pP := by rw [e0]; exact h1 _ (List.getElem_mem hk)
    have q1 : ¬ 64 < (loadAt i).text.length := by show ¬ 64 < pP.length; decide
    have q2 : ¬ (loadAt i).text ≠ (S.keyOf L).pass := by rw [hp]; exact fun h => h rfl
    simp only [if_neg q1, if_neg q2]
    have sm := looks_state i l ⟨S.last, S.keys.set L.key { S.keyOf L with loaded := true }, S.lines⟩ fun c hc => (hl c hc).1
    generalize hS1 : (⟨S.last, S.keys.set L.key { S.keyOf L with loaded := true }, S.lines⟩ : MSt) = S1 at *
    generalize hT : (runCalls S1 l).1 = T at *
    have tl : lineOf T.lines i = some L := by rw [← sm.1, ← hS1]; exact hL'
    have tk : T.keys = S.keys.set L.key { S.keyOf L with loaded := true } := by rw [← sm.2, ← hS1]
    have tko : T.keyOf L = { S.keyOf L with loaded := true } := by
      rw [MSt.keyOf, tk, List.getElem?_set_self hk]; rfl
    have eu : doCall T (unloadAt i) = ({ T with keys := T.keys.set L.key { T.keyOf L with loaded := false } }, fail 0) := by
      rw [unload_is]; unfold hUnload
      rw [show (unloadAt i).a = i from rfl, tl]
      simp only [tko, Bool.not_true, Bool.false_eq_true, if_false]
    generalize hS2 : ({ T with keys := T.keys.set L.key { T.keyOf L with loaded := false } } : MSt) = S2 at *
    have hk2 : L.key < T.keys.length := by rw [tk, List.length_set]; exact hk
    have l2 : lineOf S2.lines i = some L := by rw [← hS2]; exact tl
    have k2 : S2.keys = S.keys.set L.key { S.keyOf L with loaded := false } := by rw [← hS2]; simp only [tk, tko, List.set_set]
    have ko2 : S2.keyOf L = { S.keyOf L with loaded := false } := by
      rw [MSt.keyOf, k2, List.getElem?_set_self hk]; rfl
    have es := looks_shut (i := i) l S2 hl l2 (by rw [ko2])
    have el : doCall S2 (loadAt i) = ({ S2 with keys := S2.keys.set L.key { S2.keyOf L with loaded := true } }, fail 0) := by
      rw [load_is]; unfold hLoad
      rw [show (loadAt i).a = i from rfl, l2]
      have q3 : ¬ (loadAt i).text ≠ (S2.keyOf L).pass := by rw [ko2]; show ¬ _ ≠ (S.keyOf L).pass; rw [hp]; exact fun h => h rfl
      simp only [if_neg q1, if_neg q3]
    refine ⟨S1, S2, _, rfl, by rw [hT]; exact eu, es, el, ?_⟩
    refine looks_same (i := i) l _ _ ⟨?_, ?_⟩ hl
    · show lineOf S2.lines i = lineOf S1.lines i
      rw [l2, sm.1, tl]
    · show S2.keys.set _ _ = S1.keys
      rw [k2, ko2, List.set_set, ← hS1]
end Go.Mod
end
section
/- The model in plain words: a snapshot tells what its dataset tells, a clone what its snapshot tells, a dataset that went back what its snapshot tells. -/
namespace Go.Mod

def snapAt (i : Int) : MCall := ⟨2, i, 0, 0, [], [], [], []⟩
def cloneAt (i : Int) : MCall := ⟨3, i, 0, 0, [], [], [], []⟩
def rollAt (i : Int) : MCall := ⟨5, i, 0, 0, [], [], [], []⟩
theorem snap_is (S : MSt) (i : Int) : doCall S (snapAt i) = hSnap S (snapAt i) := rfl
theorem clone_is (S : MSt) (i : Int) : doCall S (cloneAt i) = hClone S (cloneAt i) := rfl
theorem roll_is (S : MSt) (i : Int) : doCall S (rollAt i) = hRoll S (rollAt i) := rfl
/-- A look by another number. -/
def MCall.on (c : MCall) (i : Int) : MCall := { c with a := i }

/-- Two lines, of two houses, that tell the same. -/
def Alike (i j : Int) (S T : MSt) : Prop := ∃ L M, lineOf S.lines i = some L ∧ lineOf T.lines j = some M ∧ L.names = M.names ∧ L.objs = M.objs ∧ (S.keyOf L).loaded = (T.keyOf M).loaded
theorem follow_alike {L M : MLine} (h1 : L.names = M.names) (ho : ∀ a, L.ob a = M.ob a) : ∀ (n : Nat) (s : Bytes), L.follow n s = M.follow n s
  | 0, _ => rfl
  | n + 1, s => by
    unfold MLine.follow
    rw [h1]
    cases numOf M.names s with
    | none => rfl
    | some a =>
      simp only
      rw [ho a]
      by_cases q : (M.ob a).kind = 3
      · rw [if_pos q, if_pos q]; exact follow_alike h1 ho n _
      · rw [if_neg q, if_neg q]
theorem read_alike {L M : MLine} (h1 : L.names = M.names) (ho : ∀ a, L.ob a = M.ob a) (c : MCall) : (L.read c).2 = (M.read c).2 := by
  unfold MLine.read
  rw [follow_alike h1 ho]
  by_cases q1 : (!inR c.b || !inR c.c) = true
  · rw [if_pos q1, if_pos q1]
  · rw [if_neg q1, if_neg q1]
    by_cases q2 : (M.follow 9 c.name).2 ≠ 0
    · rw [if_pos q2, if_pos q2]
    · rw [if_neg q2, if_neg q2, ho]
theorem look_alike {L M : MLine} (h1 : L.names = M.names) (h2 : L.objs = M.objs) {c : MCall} (hk : isLook c.kind = true) (i j : Int) : (lineDo c.kind L (c.on i)).2 = (lineDo c.kind M (c.on j)).2 := by
  have ho : ∀ a, L.ob a = M.ob a := fun a => by simp only [MLine.ob, h2]
  unfold isLook at hk
  simp only [Bool.or_eq_true, beq_iff_eq] at hk
  rcases hk with (h | h) | h <;> rw [h]
  · show (L.read (c.on i)).2 = (M.read (c.on i)).2
    exact read_alike h1 ho _
  · show (L.stat (c.on i)).2 = (M.stat (c.on i)).2
    unfold MLine.stat
    rw [h1]
    cases numOf M.names (c.on i).name with
    | none => rfl
    | some a => simp only [ho a]
  · show (L.list).2 = (M.list).2
    simp only [MLine.list, h1]
theorem alike_look {i j : Int} {S T : MSt} (h : Alike i j S T) {c : MCall} (hk : isLook c.kind = true) : Alike i j (doCall S (c.on i)).1 (doCall T (c.on j)).1 ∧ (doCall S (c.on i)).2 = (doCall T (c.on j)).2 := by
  obtain ⟨L, M, hL, hM, h1, h2, h3⟩ := h
  constructor
  · have a := look_state i S (c := c.on i) hk
    have b := look_state j T (c := c.on j) hk
    refine ⟨L, M, by rw [← a.1]; exact hL, by rw [← b.1]; exact hM, h1, h2, ?_⟩
    simp only [MSt.keyOf] at h3 ⊢
    rw [← a.2, ← b.2]; exact h3
  · have e1 : (c.on i).kind = c.kind := rfl
    have e2 : (c.on j).kind = c.kind := rfl
    unfold doCall
    simp only [e1, e2, (look_kind hk).1, (look_kind hk).2]
    simp only [Bool.false_eq_true, if_false, Bool.not_true]
    rw [show (c.on i).a = i from rfl, show (c.on j).a = j from rfl, hL, hM]
    simp only [h3]
    by_cases q1 : (!(T.keyOf M).loaded) = true
    · simp only [if_pos q1]
    · have e3 : (c.on i).name = (c.on j).name := rfl
      simp only [if_neg q1, e3]
      by_cases q2 : c.kind ≠ 18 ∧ nameE (c.on j).name ≠ 0
      · simp only [if_pos q2]
      · simp only [if_neg q2]
        exact look_alike h1 h2 hk i j
theorem alike_looks {i j : Int} : ∀ (l : List MCall) (S T : MSt), Alike i j S T → (∀ c ∈ l, isLook c.kind = true) → (runCalls S (l.map (·.on i))).2 = (runCalls T (l.map (·.on j))).2
  | [], _, _, _, _ => rfl
  | c :: l, S, T, h, hl => by
    have h1 := alike_look h (hl c (by simp))
    simp only [List.map_cons, runCalls]
    rw [h1.2, alike_looks l _ _ h1.1 fun d hd => hl d (List.mem_cons_of_mem _ hd)]
theorem lineOf_app (l m : List (Int × MLine)) (i : Int) : lineOf (l ++ m) i = match lineOf l i with | some L => some L | none => lineOf m i := by
  induction l with
  | nil => rfl
  | cons p l ih =>
    simp only [List.cons_append, lineOf]
    split
    · rfl
    · exact ih
/-- Calls on line i keep that it is no snapshot, its prev, its key, and all others. -/
structure Keep (i : Int) (S T : MSt) : Prop where
  keys : S.keys = T.keys
  other : ∀ j, j ≠ i → lineOf S.lines j = lineOf T.lines j
  one : ∀ L, lineOf S.lines i = some L → ∃ M, lineOf T.lines i = some M ∧ M.snap = L.snap ∧ M.prev = L.prev ∧ M.key = L.key
theorem Keep.rfl' (i : Int) (S : MSt) : Keep i S S := ⟨rfl, fun _ _ => rfl, fun L h => ⟨L, h, rfl, rfl, rfl⟩⟩
theorem Keep.trans {i : Int} {S T R : MSt} (h : Keep i S T) (g : Keep i T R) : Keep i S R := by
  refine ⟨h.keys.trans g.keys, fun j hj => (h.other j hj).trans (g.other j hj), fun L hL => ?_⟩
  obtain ⟨M, a1, a2, a3, a4⟩ := h.one L hL
  obtain ⟨N, b1, b2, b3, b4⟩ := g.one M a1
  exact ⟨N, b1, b2.trans a2, b3.trans a3, b4.trans a4⟩
theorem keep_line {S : MSt} {c : MCall} (hk : isLine c.kind = true) : Keep c.a S (doCall S c).1 := by
  have hh : isHouse c.kind = false := by
    unfold isLine at hk; unfold isHouse
    simp only [decide_eq_true_eq, Bool.or_eq_false_iff, decide_eq_false_iff_not] at *
    omega
  unfold doCall
  simp only [hh, hk]
  simp only [Bool.false_eq_true, if_false, Bool.not_true]
  split
  · exact Keep.rfl' _ _
  · rename_i L hL
    split
    · exact Keep.rfl' _ _
    · split
      · exact Keep.rfl' _ _
      · have kn := lineDo_kin c.kind L c
        refine ⟨rfl, fun j hj => ?_, fun L' hL' => ?_⟩
        · show lineOf S.lines j = lineOf (putL S.lines c.a _) j
          rw [lineOf_putL, if_neg (fun q => hj q.1)]
        · rw [hL] at hL'; cases hL'
          refine ⟨(lineDo c.kind L c).1, ?_, ?_⟩
          · show lineOf (putL S.lines c.a _) c.a = _
            rw [lineOf_putL, if_pos ⟨rfl, by rw [hL]; rfl⟩]
          · obtain ⟨k1, k2, k3, k4⟩ := kn
            refine ⟨?_, ?_, ?_⟩ <;> assumption

theorem look_idle {k : Int} (h : isLook k = true) : k = 14 ∨ k = 17 ∨ 18 ≤ k := by
  unfold isLook at h
  simp only [Bool.or_eq_true, beq_iff_eq] at h
  omega
theorem looks_stay : ∀ (l : List MCall) (S : MSt), (∀ c ∈ l, isLook c.kind = true) → (runCalls S l).1 = S
  | [], _, _ => rfl
  | c :: l, S, h => by
    have e : (doCall S c).1 = S := idle_do (by
      have := look_idle (h c (by simp))
      simp only [idleB, Bool.or_eq_true, beq_iff_eq, decide_eq_true_eq]
      omega)
    simp only [runCalls, e]
    exact looks_stay l S fun d hd => h d (List.mem_cons_of_mem _ hd)
theorem copies_law {S : MSt} {n : Nat} (ok : StOk S n) (i : Int) (l : List MCall) (hl : ∀ c ∈ l, isLook c.kind = true)
    (he : (doCall S (snapAt i)).2.err = 0) :
    ∃ (s : Int) (S1 S2 : MSt), s = S.last + 1 ∧ doCall S (snapAt i) = (S1, { fail 0 with id := s }) ∧ doCall S1 (cloneAt s) = (S2, { fail 0 with id := s + 1 }) ∧
      (runCalls S2 (l.map (·.on s))).2 = (runCalls S (l.map (·.on i))).2 ∧
      (runCalls S2 (l.map (·.on (s + 1)))).2 = (runCalls S (l.map (·.on i))).2 ∧
      ∀ d1 d2 : MCall, isLine d1.kind = true → isLine d2.kind = true → d1.a = i → d2.a = i →
        (runCalls (doCall (doCall (doCall S2 d1).1 d2).1 (rollAt i)).1 (l.map (·.on i))).2 = (runCalls S (l.map (·.on i))).2 := by
  rw [snap_is] at he ⊢
  unfold hSnap at he ⊢
  rw [show (snapAt i).a = i from rfl] at he ⊢
  cases hL : lineOf S.lines i with
  | none => rw [hL] at he; cases he
  | some L =>
    rw [hL] at he
    simp only at he ⊢
    have h1 := ok.id1 _ (lineOf_mem hL)
    have h0 := ok.last0
    simp only at h1
    split at he
    · cases he
    rename_i q
    rw [if_neg q]
    have qs : L.snap = false := by simpa using q
    have hf := ok.fresh
    have nl : (L.key < S.keys.length) := ok.key _ (lineOf_mem hL)
    generalize hs : S.last + 1 = s at *
    have ls : lineOf (putL (S.lines ++ [(s, { L with snap := true })]) i { L with prev := s }) s = some { L with snap := true } := by
      rw [lineOf_putL, if_neg (by omega), lineOf_app, hf]
      simp [lineOf]
    have li : lineOf (putL (S.lines ++ [(s, { L with snap := true })]) i { L with prev := s }) i = some { L with prev := s } := by
      rw [lineOf_putL, if_pos ⟨rfl, by rw [lineOf_app, hL]; rfl⟩]
    have ln : ∀ j, s < j → lineOf (putL (S.lines ++ [(s, { L with snap := true })]) i { L with prev := s }) j = none := by
      intro j hj
      rw [lineOf_putL, if_neg (by omega), lineOf_app]
      have : lineOf S.lines j = none := by
        rw [lineOf_none]
        intro hm
        obtain ⟨p, hp, e⟩ := List.mem_map.1 hm
        have := ok.id1 p hp
        omega
      rw [this]
      simp [lineOf]; omega
    generalize hl1 : putL (S.lines ++ [(s, { L with snap := true })]) i { L with prev := s } = l1 at *
    have ec : doCall ⟨s, S.keys, l1⟩ (cloneAt s) = (⟨s + 1, S.keys, l1 ++ [(s + 1, { L with snap := false, prev := s, owner := s + 1 })]⟩, { fail 0 with id := s + 1 }) := by
      rw [clone_is]
      unfold hClone
      rw [show (cloneAt s).a = s from rfl, ls]
      rfl
    have l2s : lineOf (l1 ++ [(s + 1, { L with snap := false, prev := s, owner := s + 1 })]) s = some { L with snap := true } := by rw [lineOf_app, ls]
    have l2i : lineOf (l1 ++ [(s + 1, { L with snap := false, prev := s, owner := s + 1 })]) i = some { L with prev := s } := by rw [lineOf_app, li]
    have l2n : lineOf (l1 ++ [(s + 1, { L with snap := false, prev := s, owner := s + 1 })]) (s + 1) = some { L with snap := false, prev := s, owner := s + 1 } := by
      rw [lineOf_app, ln _ (by omega)]; simp [lineOf]
    refine ⟨s, _, _, rfl, rfl, ec, ?_, ?_, ?_⟩
    · exact alike_looks l _ _ ⟨_, _, l2s, hL, rfl, rfl, rfl⟩ hl
    · exact alike_looks l _ _ ⟨_, _, l2n, hL, rfl, rfl, rfl⟩ hl
    · intro d1 d2 k1 k2 a1 a2
      generalize hS2 : (⟨s + 1, S.keys, l1 ++ [(s + 1, { L with snap := false, prev := s, owner := s + 1 })]⟩ : MSt) = S2 at *
      have e1 : lineOf S2.lines s = some { L with snap := true } := by rw [← hS2]; exact l2s
      have e2 : lineOf S2.lines i = some { L with prev := s } := by rw [← hS2]; exact l2i
      have e3 : S2.keys = S.keys := by rw [← hS2]
      have kp : Keep i S2 (doCall (doCall S2 d1).1 d2).1 := by
        have x := keep_line (S := S2) k1
        have y := keep_line (S := (doCall S2 d1).1) k2
        rw [a1] at x; rw [a2] at y
        exact x.trans y
      generalize (doCall (doCall S2 d1).1 d2).1 = U at *
      obtain ⟨M, m1, m2, m3, m4⟩ := kp.one _ e2
      simp only at m2 m3 m4
      have us := kp.other s (by omega)
      rw [e1] at us
      have er : doCall U (rollAt i) = ({ U with lines := putL U.lines i { M with names := L.names, objs := L.objs } }, fail 0) := by
        rw [roll_is]
        unfold hRoll
        rw [show (rollAt i).a = i from rfl, m1]
        have b1 : ¬ (M.snap = true) := by rw [m2, qs]; decide
        have b2 : ¬ (M.prev = 0) := by rw [m3]; omega
        simp only [if_neg b1, m3, ← us]
        rw [if_neg (by omega)]
      rw [er]
      refine alike_looks l _ _ ⟨{ M with names := L.names, objs := L.objs }, _, ?_, hL, rfl, rfl, ?_⟩ hl
      · show lineOf (putL U.lines i _) i = _
        rw [lineOf_putL, if_pos ⟨rfl, by rw [m1]; rfl⟩]
      · simp only [MSt.keyOf, m4, ← kp.keys, e3]
end Go.Mod
end
