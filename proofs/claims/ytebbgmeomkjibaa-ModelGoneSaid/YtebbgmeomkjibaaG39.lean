/- This file holds in one the texts PS, PS2; each says at its head what it proves. -/
import Derived.Test.YtebbgmeomkjibaaG24
import Derived.Test.YtebbgmeomkjibaaG29
set_option linter.unusedSimpArgs false
set_option linter.unusedVariables false
section
/- The model in plain words: what each call does to the house. -/
namespace Go.Mod

def lineOf : List (Int × MLine) → Int → Option MLine
  | [], _ => none
  | p :: l, i => if i = p.1 then some p.2 else lineOf l i
def putL : List (Int × MLine) → Int → MLine → List (Int × MLine)
  | [], _, _ => []
  | p :: l, i, L => if i = p.1 then (p.1, L) :: l else p :: putL l i L
def dropL : List (Int × MLine) → Int → List (Int × MLine)
  | [], _ => []
  | p :: l, i => if i = p.1 then l else p :: dropL l i

def ids (l : List (Int × MLine)) : List Int := l.map (·.1)
def MSt.keyOf (S : MSt) (L : MLine) : MKey := (S.keys[L.key]?).getD ⟨[], false⟩

def newLine (id : Int) (k : Nat) : MLine := ⟨false, id, 0, k, [], List.replicate 16 noObj⟩

def hSet (S : MSt) (c : MCall) : MSt × MReply :=
  if 64 < c.text.length then (S, fail 3) else
  (⟨S.last + 1, S.keys ++ [⟨c.text, true⟩], S.lines ++ [(S.last + 1, newLine (S.last + 1) S.keys.length)]⟩, { fail 0 with id := S.last + 1 })
def hSnap (S : MSt) (c : MCall) : MSt × MReply :=
  match lineOf S.lines c.a with
  | none => (S, fail 6)
  | some L => if L.snap then (S, fail 202) else
    (⟨S.last + 1, S.keys, putL (S.lines ++ [(S.last + 1, { L with snap := true })]) c.a { L with prev := S.last + 1 }⟩, { fail 0 with id := S.last + 1 })
def hClone (S : MSt) (c : MCall) : MSt × MReply :=
  match lineOf S.lines c.a with
  | none => (S, fail 6)
  | some L => if !L.snap then (S, fail 2) else
    (⟨S.last + 1, S.keys, S.lines ++ [(S.last + 1, { L with snap := false, prev := c.a, owner := S.last + 1 })]⟩, { fail 0 with id := S.last + 1 })
def promFrom (was a : Int) : Nat → List (Int × MLine) → Int → List (Int × MLine)
  | 0, l, _ => l
  | n + 1, l, i => if i = 0 then l else match lineOf l i with
    | none => l
    | some x => if x.owner = was then promFrom was a n (putL l i { x with owner := a }) x.prev else l
def ownerOf (l : List (Int × MLine)) (i : Int) : Int := ((lineOf l i).map (·.owner)).getD 0
def hPromote (S : MSt) (c : MCall) : MSt × MReply :=
  match lineOf S.lines c.a with
  | none => (S, fail 6)
  | some L => if L.snap then (S, fail 202) else if L.prev = 0 ∨ ownerOf S.lines L.prev = c.a then (S, fail 2) else
    ({ S with lines := promFrom (ownerOf S.lines L.prev) c.a (L.prev.toNat + 1) S.lines L.prev }, fail 0)
def hRoll (S : MSt) (c : MCall) : MSt × MReply :=
  match lineOf S.lines c.a with
  | none => (S, fail 6)
  | some L => if L.snap then (S, fail 202) else if L.prev = 0 then (S, fail 2) else
    match lineOf S.lines L.prev with
    | none => (S, fail 2)
    | some x => ({ S with lines := putL S.lines c.a { L with names := x.names, objs := x.objs } }, fail 0)
def owns (l : List (Int × MLine)) (a : Int) : Nat := (l.filter fun p => p.2.snap && decide (p.2.owner = a)).length
def nexts (l : List (Int × MLine)) (a : Int) : Nat := (l.filter fun p => decide (p.2.prev = a)).length
def rePrev (l : List (Int × MLine)) (a b : Int) : List (Int × MLine) := l.map fun p => if p.2.prev = a then (p.1, { p.2 with prev := b }) else p
def hDestroy (S : MSt) (c : MCall) : MSt × MReply :=
  match lineOf S.lines c.a with
  | none => (S, fail 6)
  | some L => if (!L.snap && decide (0 < owns S.lines c.a)) || (L.snap && decide (1 < nexts S.lines c.a)) then (S, fail 230) else
    ({ S with lines := dropL (rePrev S.lines c.a L.prev) c.a }, fail 0)
def hLoad (S : MSt) (c : MCall) : MSt × MReply :=
  match lineOf S.lines c.a with
  | none => (S, fail 6)
  | some L => if 64 < c.text.length then (S, fail 3) else if c.text ≠ (S.keyOf L).pass then (S, fail 201) else
    ({ S with keys := S.keys.set L.key { S.keyOf L with loaded := true } }, fail 0)
def hUnload (S : MSt) (c : MCall) : MSt × MReply :=
  match lineOf S.lines c.a with
  | none => (S, fail 6)
  | some L => if !(S.keyOf L).loaded then (S, fail 200) else
    ({ S with keys := S.keys.set L.key { S.keyOf L with loaded := false } }, fail 0)
def hAll (S : MSt) (_ : MCall) : MSt × MReply := (S, { fail 0 with lines := Go.AM.sortZ (ids S.lines) })
def hCommit (S : MSt) (c : MCall) : MSt × MReply :=
  match lineOf S.lines c.a with
  | none => (S, fail 6)
  | some L => (S, fail (if L.snap then 202 else 0))
def hSync (S : MSt) (_ : MCall) : MSt × MReply := (S, fail 0)

def lineDo (k : Int) (L : MLine) (c : MCall) : MLine × MReply :=
  if k = 9 then L.make c else if k = 10 then L.point c else if k = 11 then L.link c else if k = 12 then L.unlink c else if k = 13 then L.rename c else if k = 14 then L.read c
  else if k = 15 then L.write c else if k = 16 then L.cut c else if k = 17 then L.stat c else L.list
def houseDo (S : MSt) (c : MCall) : MSt × MReply :=
  if c.kind = 1 then hSet S c else if c.kind = 2 then hSnap S c else if c.kind = 3 then hClone S c else if c.kind = 4 then hPromote S c else if c.kind = 5 then hRoll S c else if c.kind = 6 then hDestroy S c
  else if c.kind = 7 then hLoad S c else if c.kind = 8 then hUnload S c else if c.kind = 19 then hAll S c else if c.kind = 20 then hCommit S c else hSync S c
def isHouse (k : Int) : Bool := decide (1 ≤ k ∧ k ≤ 8) || decide (19 ≤ k ∧ k ≤ 21)
def isLine (k : Int) : Bool := decide (9 ≤ k ∧ k ≤ 18)
def doCall (S : MSt) (c : MCall) : MSt × MReply :=
  if isHouse c.kind then houseDo S c else
  if !isLine c.kind then (S, fail 2) else
  match lineOf S.lines c.a with
  | none => (S, fail 6)
  | some L => if !(S.keyOf L).loaded then (S, fail 200) else if c.kind ≠ 18 ∧ nameE c.name ≠ 0 then (S, fail 240) else
    ({ S with lines := putL S.lines c.a (lineDo c.kind L c).1 }, (lineDo c.kind L c).2)
def runCalls : MSt → List MCall → MSt × List MReply
  | S, [] => (S, [])
  | S, c :: l => ((runCalls (doCall S c).1 l).1, (doCall S c).2 :: (runCalls (doCall S c).1 l).2)
def emptySt : MSt := ⟨0, [], []⟩

structure StOk (S : MSt) (n : Nat) : Prop where
  last0 : 0 ≤ S.last
  last1 : S.last ≤ n
  cnt : S.lines.length ≤ n
  id0 : ∀ p ∈ S.lines, 1 ≤ p.1
  id1 : ∀ p ∈ S.lines, p.1 ≤ S.last
  uniq : (ids S.lines).Nodup
  ok : ∀ p ∈ S.lines, LineOk p.2
  key : ∀ p ∈ S.lines, p.2.key < S.keys.length
  prev : ∀ p ∈ S.lines, p.2.prev = 0 ∨ ∃ q ∈ S.lines, q.1 = p.2.prev ∧ q.2.snap = true
  desc : ∀ p ∈ S.lines, p.2.snap = true → p.2.prev < p.1

theorem lineOf_mem {l : List (Int × MLine)} {i : Int} {L : MLine} (h : lineOf l i = some L) : (i, L) ∈ l := by
  induction l with
  | nil => cases h
  | cons p l ih =>
    simp only [lineOf] at h
    split at h
    · rename_i e; subst e; cases h; simp
    · exact List.mem_cons_of_mem _ (ih h)
theorem lineOf_none {l : List (Int × MLine)} {i : Int} : lineOf l i = none ↔ i ∉ ids l := by
  induction l with
  | nil => simp [lineOf, ids]
  | cons p l ih =>
    simp only [lineOf]
    split
    · rename_i e; simp [ids, e]
    · rename_i e; rw [ih]; simp [ids, e]
theorem lineOf_of_mem {l : List (Int × MLine)} (hu : (ids l).Nodup) {i : Int} {L : MLine} (h : (i, L) ∈ l) : lineOf l i = some L := by
  induction l with
  | nil => cases h
  | cons p l ih =>
    simp only [ids, List.map_cons, List.nodup_cons] at hu
    simp only [lineOf]
    rcases List.mem_cons.1 h with rfl | h
    · simp
    · rw [if_neg, ih hu.2 h]
      rintro rfl
      exact hu.1 (List.mem_map.2 ⟨_, h, rfl⟩)
theorem putL_ids (l : List (Int × MLine)) (i : Int) (L : MLine) : ids (putL l i L) = ids l := by
  induction l with
  | nil => rfl
  | cons p l ih =>
    simp only [putL]
    split
    · simp [ids]
    · simp only [ids, List.map_cons] at ih ⊢; rw [ih]
theorem putL_mem {l : List (Int × MLine)} {i : Int} {L : MLine} {p : Int × MLine} (h : p ∈ putL l i L) : p ∈ l ∨ p = (i, L) := by
  induction l with
  | nil => cases h
  | cons q l ih =>
    simp only [putL] at h
    split at h
    · rename_i e
      rcases List.mem_cons.1 h with rfl | h
      · right; rw [e]
      · left; exact List.mem_cons_of_mem _ h
    · rcases List.mem_cons.1 h with rfl | h
      · left; simp
      · rcases ih h with h | h
        · left; exact List.mem_cons_of_mem _ h
        · right; exact h
theorem lineOf_putL (l : List (Int × MLine)) (i j : Int) (L : MLine) : lineOf (putL l i L) j = if j = i ∧ (lineOf l i).isSome then some L else lineOf l j := by
  induction l with
  | nil => simp [putL, lineOf]
  | cons p l ih =>
    simp only [putL]
    by_cases e : i = p.1
    · subst e
      by_cases e2 : j = p.1
      · subst e2; simp [lineOf]
      · simp [lineOf, e2]
    · rw [if_neg e]
      simp only [lineOf, ih, e, if_false]
      by_cases e2 : j = p.1
      · subst e2
        have : ¬ p.1 = i := fun h => e h.symm
        simp [this]
      · simp [e2]
theorem StOk.line {S : MSt} {n : Nat} (h : StOk S n) {i : Int} {L : MLine} (e : lineOf S.lines i = some L) : LineOk L := h.ok _ (lineOf_mem e)
theorem StOk.fresh {S : MSt} {n : Nat} (h : StOk S n) : lineOf S.lines (S.last + 1) = none := by
  rw [lineOf_none]
  intro hm
  obtain ⟨p, hp, e⟩ := List.mem_map.1 hm
  have := h.id1 p hp
  omega
theorem StOk.prevOf {S : MSt} {n : Nat} (h : StOk S n) {i : Int} {L : MLine} (e : lineOf S.lines i = some L) (hp : L.prev ≠ 0) : ∃ x, lineOf S.lines L.prev = some x ∧ x.snap = true := by
  rcases h.prev _ (lineOf_mem e) with h0 | ⟨q, hq, e1, e2⟩
  · exact absurd h0 hp
  · refine ⟨q.2, ?_, e2⟩
    apply lineOf_of_mem h.uniq
    rw [← e1]; exact hq
theorem StOk.putL {S : MSt} {n : Nat} (ok : StOk S n) {i : Int} {L L' : MLine} (hL : lineOf S.lines i = some L) (h1 : LineOk L') (h2 : L'.key = L.key) (h3 : L'.prev = L.prev) (h4 : L'.snap = L.snap) : StOk { S with lines := putL S.lines i L' } n := by
  have hm := lineOf_mem hL
  have key : ∀ p ∈ Mod.putL S.lines i L', ∃ q ∈ S.lines, p.1 = q.1 ∧ p.2.key = q.2.key ∧ p.2.prev = q.2.prev ∧ p.2.snap = q.2.snap ∧ (LineOk p.2) := by
    intro p hp
    rcases putL_mem hp with h | rfl
    · exact ⟨p, h, rfl, rfl, rfl, rfl, ok.ok p h⟩
    · exact ⟨(i, L), hm, rfl, h2, h3, h4, h1⟩
  have back : ∀ q ∈ S.lines, ∃ p ∈ Mod.putL S.lines i L', p.1 = q.1 ∧ p.2.snap = q.2.snap := by
    intro q hq
    have hq2 := lineOf_of_mem ok.uniq (i := q.1) (L := q.2) hq
    have h5 := lineOf_putL S.lines i q.1 L'
    split at h5
    · rename_i e
      refine ⟨_, lineOf_mem h5, rfl, ?_⟩
      rw [← e.1, hq2] at hL
      cases hL; exact h4
    · rw [hq2] at h5
      exact ⟨_, lineOf_mem h5, rfl, rfl⟩
  refine ⟨ok.last0, ok.last1, ?_, fun p hp => ?_, fun p hp => ?_, by rw [putL_ids]; exact ok.uniq, fun p hp => ?_, fun p hp => ?_, fun p hp => ?_, fun p hp => ?_⟩
  · have e := congrArg List.length (putL_ids S.lines i L')
    simp only [ids, List.length_map] at e
    simp only [e]; exact ok.cnt
  · obtain ⟨q, hq, e1, _⟩ := key p hp; rw [e1]; exact ok.id0 q hq
  · obtain ⟨q, hq, e1, _⟩ := key p hp; rw [e1]; exact ok.id1 q hq
  · obtain ⟨q, hq, _, _, _, _, h⟩ := key p hp; exact h
  · obtain ⟨q, hq, _, e, _⟩ := key p hp; rw [e]; exact ok.key q hq
  · obtain ⟨q, hq, _, _, e, _⟩ := key p hp
    rw [e]
    rcases ok.prev q hq with h0 | ⟨r, hr, e1, e2⟩
    · exact .inl h0
    · obtain ⟨r', hr', f1, f2⟩ := back r hr
      exact .inr ⟨r', hr', f1.trans e1, f2.trans e2⟩
  · obtain ⟨q, hq, e1, _, e2, e3, _⟩ := key p hp
    rw [e1, e2, e3]; exact ok.desc q hq
theorem LineOk.owner {L : MLine} (h : LineOk L) (o : Int) : LineOk { L with owner := o } := ⟨h.n16, h.nums, h.few, h.uniq, h.short, h.data⟩

end Go.Mod
end
section
/- The model in plain words: what holds of a house is kept by each call. -/
namespace Go.Mod

theorem turn_of {L : MLine} {e : Int} {L' : MLine} {p : MLine → Prop} (h1 : e = 0 → p L') (h2 : p L) : p (L.turn e L').1 := by
  unfold MLine.turn
  split
  · rename_i h
    refine h1 ?_
    unfold turnE at h
    split at h
    · assumption
    · rename_i h3; exact absurd h h3
  · exact h2
def Kin (L L' : MLine) : Prop := L'.snap = L.snap ∧ L'.owner = L.owner ∧ L'.prev = L.prev ∧ L'.key = L.key
theorem Kin.rfl' (L : MLine) : Kin L L := ⟨rfl, rfl, rfl, rfl⟩
theorem add_kin (L : MLine) (s : Bytes) (o : MObj) : Kin L (L.add s o).1 := by
  unfold MLine.add; split
  · exact ⟨rfl, rfl, rfl, rfl⟩
  · exact .rfl' L
theorem lineDo_kin (k : Int) (L : MLine) (c : MCall) : Kin L (lineDo k L c).1 := by
  unfold lineDo
  split
  · exact add_kin _ _ _
  · split
    · unfold MLine.point; split
      · exact .rfl' L
      · exact add_kin _ _ _
    · split
      · exact turn_of (p := Kin L) (fun _ => ⟨rfl, rfl, rfl, rfl⟩) (.rfl' L)
      · split
        · exact turn_of (p := Kin L) (fun _ => ⟨rfl, rfl, rfl, rfl⟩) (.rfl' L)
        · split
          · exact turn_of (p := Kin L) (fun _ => ⟨rfl, rfl, rfl, rfl⟩) (.rfl' L)
          · split
            · unfold MLine.read; split
              · exact .rfl' L
              · split <;> exact .rfl' L
            · split
              · unfold MLine.write; split
                · exact .rfl' L
                · exact turn_of (p := Kin L) (fun _ => ⟨rfl, rfl, rfl, rfl⟩) (.rfl' L)
              · split
                · unfold MLine.cut; split
                  · exact .rfl' L
                  · exact turn_of (p := Kin L) (fun _ => ⟨rfl, rfl, rfl, rfl⟩) (.rfl' L)
                · split
                  · unfold MLine.stat; split <;> exact .rfl' L
                  · exact .rfl' L
theorem lineDo_key (k : Int) (L : MLine) (c : MCall) : (lineDo k L c).1.key = L.key := (lineDo_kin k L c).2.2.2

theorem okName_len {s : Bytes} (h : nameE s = 0) : s.length ≤ 14 := by
  unfold nameE at h
  split at h
  · rename_i hq
    simp only [okName, Bool.and_eq_true, decide_eq_true_eq] at hq
    exact hq.1.2
  · cases h
theorem mem_set {l : List MObj} {i : Nat} {o p : MObj} (h : p ∈ l.set i o) : p ∈ l ∨ p = o := List.mem_or_eq_of_mem_set h
theorem LineOk.setOb {L : MLine} (h : LineOk L) (i : Int) {o : MObj} (ho : o.data.length ≤ 3840) : LineOk (L.setOb i o) :=
  ⟨by simp [MLine.setOb, h.n16], h.nums, h.few, h.uniq, h.short, fun p hp => by
    rcases mem_set hp with h1 | h1
    · exact h.data p h1
    · rw [h1]; exact ho⟩
theorem freeFrom_range (l : List MObj) : ∀ (k i : Nat), i ≤ freeFrom l k i ∧ freeFrom l k i ≤ i + k
  | 0, i => by simp [freeFrom]
  | k + 1, i => by
    unfold freeFrom
    split
    · omega
    · have := freeFrom_range l k (i + 1); omega
theorem LineOk.names {L : MLine} (h : LineOk L) {s : Bytes} {m : Int} (h1 : numOf L.names s = none) (h2 : L.names.length < 16) (h3 : s.length ≤ 14) (h4 : 1 ≤ m ∧ m < 16) : LineOk { L with names := L.names ++ [(s, m)] } := by
  refine ⟨h.n16, fun p hp => ?_, by simp; omega, ?_, fun p hp => ?_, h.data⟩
  · rcases List.mem_append.1 hp with q | q
    · exact h.nums p q
    · rw [List.mem_singleton.1 q]; exact h4
  · rw [List.map_append, List.nodup_append]
    refine ⟨h.uniq, by simp, fun a ha b hb => ?_⟩
    simp at hb
    subst hb
    rintro rfl
    exact (numOf_none.1 h1) ha
  · rcases List.mem_append.1 hp with q | q
    · exact h.short p q
    · rw [List.mem_singleton.1 q]; exact h3
theorem roomE_zero {l : List (Bytes × Int)} {s : Bytes} (h : roomE l s = 0) : numOf l s = none ∧ l.length < 16 := by
  unfold roomE at h
  cases hq : numOf l s with
  | some x => rw [hq] at h; simp at h
  | none =>
    rw [hq] at h
    simp only [Option.isSome_none, Bool.false_eq_true, if_false] at h
    split at h
    · cases h
    · exact ⟨rfl, by omega⟩
theorem LineOk.add {L : MLine} (h : LineOk L) {s : Bytes} {o : MObj} (hs : s.length ≤ 14) (ho : o.data.length ≤ 3840) : LineOk (L.add s o).1 := by
  unfold MLine.add
  split
  · rename_i he
    unfold addE at he
    split at he
    · rename_i h1; exact absurd he h1
    · rename_i h1
      have h1 : roomE L.names s = 0 := by simpa using h1
      split at he
      · cases he
      · rename_i h2
        have hr := freeFrom_range L.objs 15 1
        have h3 : LineOk (L.setOb (L.free : Int) o) := h.setOb _ ho
        have h4 := h3.names (s := s) (m := (L.free : Int)) (roomE_zero h1).1 (roomE_zero h1).2 hs (by unfold MLine.free at h2 ⊢; omega)
        exact h4
  · exact h
theorem eraseN_sub : ∀ (l : List (Bytes × Int)) (s : Bytes), (eraseN l s).Sublist l
  | [], _ => .slnil
  | p :: l, s => by
    unfold eraseN
    split
    · exact List.sublist_cons_self _ _
    · exact (eraseN_sub l s).cons_cons _
theorem LineOk.erase {L : MLine} (h : LineOk L) (s : Bytes) : LineOk { L with names := eraseN L.names s } :=
  ⟨h.n16, fun p hp => h.nums p ((eraseN_sub _ _).mem hp), Nat.le_trans (eraseN_sub _ _).length_le h.few, h.uniq.sublist ((eraseN_sub _ _).map _), fun p hp => h.short p ((eraseN_sub _ _).mem hp), h.data⟩
theorem erase_none {l : List (Bytes × Int)} {s s' : Bytes} (h : numOf l s' = none) : numOf (eraseN l s) s' = none := by
  rw [numOf_none] at *
  intro hm
  obtain ⟨p, hp, e⟩ := List.mem_map.1 hm
  exact h (List.mem_map.2 ⟨p, (eraseN_sub _ _).mem hp, e⟩)
theorem eraseN_len {l : List (Bytes × Int)} {s : Bytes} {n : Int} (h : numOf l s = some n) : (eraseN l s).length + 1 = l.length := by
  induction l with
  | nil => cases h
  | cons p l ih =>
    simp only [numOf] at h
    simp only [eraseN]
    split
    · simp
    · rename_i e
      rw [if_neg e] at h
      simp only [List.length_cons]; rw [ih h]
theorem wrote_len {l d : Bytes} {o : Nat} (h1 : l.length ≤ 3840) (h2 : o + d.length ≤ 3840) : (wrote l o d).length ≤ 3840 := by
  unfold wrote
  split
  · exact h1
  · unfold over sized
    simp only [List.length_append, List.length_take, List.length_drop, List.length_replicate]
    omega

theorem LineOk.do {L : MLine} (h : LineOk L) (k : Int) (c : MCall) (hn : k ≠ 18 → c.name.length ≤ 14) : LineOk (lineDo k L c).1 := by
  unfold lineDo
  split
  · rename_i hk; exact h.add (hn (by omega)) (by simp)
  · split
    · rename_i hk
      unfold MLine.point; split
      · exact h
      · rename_i h1
        have h1 : nameE c.as_ = 0 := by simpa using h1
        exact h.add (hn (by omega)) (by have := okName_len h1; simp only; omega)
    · split
      · refine turn_of (p := LineOk) (fun he => ?_) h
        unfold linkE at he
        split at he
        · rename_i h1; exact absurd he h1
        · rename_i h1
          have h1 : nameE c.as_ = 0 := by simpa using h1
          split at he
          · cases he
          · rename_i m hm
            split at he
            · cases he
            · have hr := roomE_zero he
              rw [hm]
              have h3 : LineOk (L.setOb m { L.ob m with links := w64 ((L.ob m).links + 1) }) := h.setOb _ (h.dat m)
              exact h3.names (s := c.as_) (m := m) hr.1 hr.2 (okName_len h1) (h.num hm)
      · split
        · refine turn_of (p := LineOk) (fun he => ?_) h
          refine LineOk.erase (L := L.setOb _ _) (h.setOb _ ?_) c.name
          split
          · simp [noObj]
          · exact h.dat _
        · split
          · refine turn_of (p := LineOk) (fun he => ?_) h
            unfold renameE at he
            split at he
            · rename_i h1; exact absurd he h1
            · rename_i h1
              have h1 : nameE c.as_ = 0 := by simpa using h1
              split at he
              · rename_i h2
                split at he
                · cases he
                · rename_i h3
                  obtain ⟨m, hm⟩ := Option.isSome_iff_exists.1 h2
                  have h4 : numOf L.names c.as_ = none := by
                    cases hq : numOf L.names c.as_ with
                    | none => rfl
                    | some x => rw [hq] at h3; simp at h3
                  rw [hm]
                  have hl := eraseN_len hm
                  have hf := h.few
                  exact (h.erase c.name).names (s := c.as_) (m := m) (erase_none h4) (by simp only; omega) (okName_len h1) (h.num hm)
              · cases he
          · split
            · unfold MLine.read; split
              · exact h
              · split <;> exact h
            · split
              · unfold MLine.write; split
                · exact h
                · rename_i hb
                  refine turn_of (p := LineOk) (fun he => ?_) h
                  simp only [Bool.or_eq_true, Bool.not_eq_true', inR, Bool.and_eq_false_iff, decide_eq_false_iff_not, decide_eq_true_eq, not_or] at hb
                  exact h.setOb _ (wrote_len (h.dat _) (by omega))
              · split
                · unfold MLine.cut; split
                  · exact h
                  · rename_i hb
                    refine turn_of (p := LineOk) (fun he => ?_) h
                    simp only [Bool.not_eq_true', inR, Bool.and_eq_false_iff, decide_eq_false_iff_not, not_or] at hb
                    refine h.setOb _ ?_
                    unfold sized
                    simp only [List.length_append, List.length_take, List.length_replicate]
                    omega
                · split
                  · unfold MLine.stat; split <;> exact h
                  · exact h

theorem StOk.mono {S : MSt} {n m : Nat} (ok : StOk S n) (h : n ≤ m) : StOk S m :=
  ⟨ok.last0, by have := ok.last1; omega, by have := ok.cnt; omega, ok.id0, ok.id1, ok.uniq, ok.ok, ok.key, ok.prev, ok.desc⟩
theorem StOk.keysSet {S : MSt} {n : Nat} (ok : StOk S n) (i : Nat) (k : MKey) : StOk { S with keys := S.keys.set i k } n :=
  ⟨ok.last0, ok.last1, ok.cnt, ok.id0, ok.id1, ok.uniq, ok.ok, fun p hp => by simp only [List.length_set]; exact ok.key p hp, ok.prev, ok.desc⟩
theorem StOk.put2 {S : MSt} {n : Nat} (ok : StOk S n) {i : Int} {L L' : MLine} (hL : lineOf S.lines i = some L) (h1 : LineOk L') (h2 : L'.key < S.keys.length) (h3 : L'.prev = 0 ∨ ∃ q ∈ S.lines, q.1 = L'.prev ∧ q.2.snap = true) (h4 : L'.snap = L.snap) (h5 : L'.snap = true → L'.prev < i) :
    StOk { S with lines := Mod.putL S.lines i L' } n := by
  have hm := lineOf_mem hL
  have back : ∀ q ∈ S.lines, ∃ p ∈ Mod.putL S.lines i L', p.1 = q.1 ∧ p.2.snap = q.2.snap := by
    intro q hq
    have hq2 := lineOf_of_mem ok.uniq (i := q.1) (L := q.2) hq
    have h5 := lineOf_putL S.lines i q.1 L'
    split at h5
    · rename_i e
      refine ⟨_, lineOf_mem h5, rfl, ?_⟩
      rw [← e.1, hq2] at hL
      cases hL; exact h4
    · rw [hq2] at h5
      exact ⟨_, lineOf_mem h5, rfl, rfl⟩
  refine ⟨ok.last0, ok.last1, ?_, fun p hp => ?_, fun p hp => ?_, by rw [putL_ids]; exact ok.uniq, fun p hp => ?_, fun p hp => ?_, fun p hp => ?_, fun p hp => ?_⟩
  · have e := congrArg List.length (putL_ids S.lines i L')
    simp only [ids, List.length_map] at e
    simp only [e]; exact ok.cnt
  · rcases putL_mem hp with q | rfl
    · exact ok.id0 p q
    · exact ok.id0 (i, L) hm
  · rcases putL_mem hp with q | rfl
    · exact ok.id1 p q
    · exact ok.id1 (i, L) hm
  · rcases putL_mem hp with q | rfl
    · exact ok.ok p q
    · exact h1
  · rcases putL_mem hp with q | rfl
    · exact ok.key p q
    · exact h2
  · have hh : p.2.prev = 0 ∨ ∃ q ∈ S.lines, q.1 = p.2.prev ∧ q.2.snap = true := by
      rcases putL_mem hp with q | rfl
      · exact ok.prev p q
      · exact h3
    rcases hh with h0 | ⟨r, hr, e1, e2⟩
    · exact .inl h0
    · obtain ⟨r', hr', f1, f2⟩ := back r hr
      exact .inr ⟨r', hr', f1.trans e1, f2.trans e2⟩
  · rcases putL_mem hp with q | rfl
    · exact ok.desc p q
    · exact h5
theorem StOk.grow {S : MSt} {n : Nat} (ok : StOk S n) (ks : List MKey) {L : MLine} (h1 : LineOk L) (h2 : L.key < (S.keys ++ ks).length) (h3 : L.prev = 0 ∨ ∃ q ∈ S.lines, q.1 = L.prev ∧ q.2.snap = true) (h5 : L.snap = true → L.prev < S.last + 1) :
    StOk ⟨S.last + 1, S.keys ++ ks, S.lines ++ [(S.last + 1, L)]⟩ (n + 1) := by
  have l0 := ok.last0
  have l1 := ok.last1
  have mem : ∀ p ∈ S.lines ++ [(S.last + 1, L)], p ∈ S.lines ∨ p = (S.last + 1, L) := fun p hp => by
    rcases List.mem_append.1 hp with q | q
    · exact .inl q
    · exact .inr (List.mem_singleton.1 q)
  have pr : ∀ {x : Int}, (x = 0 ∨ ∃ q ∈ S.lines, q.1 = x ∧ q.2.snap = true) → (x = 0 ∨ ∃ q ∈ S.lines ++ [(S.last + 1, L)], q.1 = x ∧ q.2.snap = true) := fun {x} h => by
    rcases h with h | ⟨q, hq, e⟩
    · exact .inl h
    · exact .inr ⟨q, List.mem_append_left _ hq, e⟩
  refine ⟨by simp only; omega, by simp only; omega, by simp only [List.length_append, List.length_cons, List.length_nil]; have := ok.cnt; omega, fun p hp => ?_, fun p hp => ?_, ?_, fun p hp => ?_, fun p hp => ?_, fun p hp => ?_, fun p hp => ?_⟩
  · rcases mem p hp with q | rfl
    · exact ok.id0 p q
    · simp only; omega
  · rcases mem p hp with q | rfl
    · have := ok.id1 p q; simp only; omega
    · exact Int.le_refl _
  · simp only [ids, List.map_append, List.map_cons, List.map_nil, List.nodup_append]
    refine ⟨ok.uniq, by simp, fun a ha b hb => ?_⟩
    simp at hb
    subst hb
    obtain ⟨p, hp, rfl⟩ := List.mem_map.1 ha
    have := ok.id1 p hp; omega
  · rcases mem p hp with q | rfl
    · exact ok.ok p q
    · exact h1
  · rcases mem p hp with q | rfl
    · have := ok.key p q
      simp only [List.length_append]; omega
    · exact h2
  · rcases mem p hp with q | rfl
    · exact pr (ok.prev p q)
    · exact pr h3
  · rcases mem p hp with q | rfl
    · exact ok.desc p q
    · exact h5
theorem StOk.prom {S : MSt} {n : Nat} (was a : Int) : ∀ (k : Nat) (l : List (Int × MLine)) (i : Int), StOk { S with lines := l } n → StOk { S with lines := promFrom was a k l i } n
  | 0, l, i, h => h
  | k + 1, l, i, h => by
    unfold promFrom
    split
    · exact h
    · split
      · exact h
      · rename_i x hx
        split
        · refine StOk.prom was a k _ _ ?_
          exact h.putL (L := x) hx ((h.line hx).owner a) rfl rfl rfl
        · exact h
theorem newLine_ok (id : Int) (k : Nat) : LineOk (newLine id k) :=
  ⟨by simp [newLine], by simp [newLine], by simp [newLine], by simp [newLine], by simp [newLine], fun o ho => by
    have : o = noObj := List.eq_of_mem_replicate ho
    rw [this]; simp [noObj]⟩
theorem dropL_sub (l : List (Int × MLine)) (i : Int) : (dropL l i).Sublist l := by
  induction l with
  | nil => exact .slnil
  | cons x l ih =>
    simp only [dropL]
    split
    · exact List.sublist_cons_self _ _
    · exact ih.cons_cons _
theorem dropL_mem {l : List (Int × MLine)} (hu : (ids l).Nodup) {i : Int} {p : Int × MLine} (h : p ∈ l) (hne : p.1 ≠ i) : p ∈ dropL l i := by
  induction l with
  | nil => cases h
  | cons x l ih =>
    simp only [ids, List.map_cons, List.nodup_cons] at hu
    simp only [dropL]
    rcases List.mem_cons.1 h with rfl | h
    · rw [if_neg (fun e => hne e.symm)]; simp
    · split
      · exact h
      · exact List.mem_cons_of_mem _ (ih hu.2 h)
theorem dropL_ne {l : List (Int × MLine)} (hu : (ids l).Nodup) {i : Int} {p : Int × MLine} (h : p ∈ dropL l i) : p.1 ≠ i := by
  induction l with
  | nil => cases h
  | cons x l ih =>
    simp only [ids, List.map_cons, List.nodup_cons] at hu
    simp only [dropL] at h
    split at h
    · rename_i e
      rintro rfl
      exact hu.1 (List.mem_map.2 ⟨p, h, e⟩)
    · rename_i e
      rcases List.mem_cons.1 h with rfl | h
      · exact fun e2 => e e2.symm
      · exact ih hu.2 h
theorem rePrev_ids (l : List (Int × MLine)) (a b : Int) : ids (rePrev l a b) = ids l := by
  simp only [ids, rePrev, List.map_map]
  apply List.map_congr_left
  intro p _
  simp only [Function.comp]
  split <;> rfl
theorem stOk_destroy {S : MSt} {n : Nat} (ok : StOk S n) {i : Int} {L : MLine} (hL : lineOf S.lines i = some L) : StOk { S with lines := dropL (rePrev S.lines i L.prev) i } n := by
  have hm := lineOf_mem hL
  have sub := dropL_sub (rePrev S.lines i L.prev) i
  have hu : (ids (rePrev S.lines i L.prev)).Nodup := by rw [rePrev_ids]; exact ok.uniq
  have mem : ∀ p ∈ dropL (rePrev S.lines i L.prev) i, p.1 ≠ i ∧ ∃ q ∈ S.lines, p = if q.2.prev = i then (q.1, { q.2 with prev := L.prev }) else q := by
    intro p hp
    refine ⟨dropL_ne hu hp, ?_⟩
    obtain ⟨q, hq, rfl⟩ := List.mem_map.1 (sub.mem hp)
    exact ⟨q, hq, rfl⟩
  have back : ∀ q ∈ S.lines, q.1 ≠ i → ∃ p ∈ dropL (rePrev S.lines i L.prev) i, p.1 = q.1 ∧ p.2.snap = q.2.snap := by
    intro q hq hne
    refine ⟨if q.2.prev = i then (q.1, { q.2 with prev := L.prev }) else q, dropL_mem hu (List.mem_map.2 ⟨q, hq, rfl⟩) ?_, ?_, ?_⟩
    · split <;> exact hne
    · split <;> rfl
    · split <;> rfl
  have snapI : ∀ q ∈ S.lines, q.2.prev = i → L.snap = true := by
    intro q hq e
    rcases ok.prev q hq with h0 | ⟨r, hr, e1, e2⟩
    · have := ok.id0 _ hm
      simp only at this; omega
    · have h1 := lineOf_of_mem ok.uniq (i := r.1) (L := r.2) hr
      rw [e1, e, hL] at h1
      cases h1; exact e2
  have hne : L.prev ≠ i := by
    intro e
    have h1 := snapI _ hm e
    have := ok.desc _ hm h1
    simp only at this; omega
  refine ⟨ok.last0, ok.last1, ?_, fun p hp => ?_, fun p hp => ?_, hu.sublist (sub.map _), fun p hp => ?_, fun p hp => ?_, fun p hp => ?_, fun p hp => ?_⟩
  · have := sub.length_le
    simp only [rePrev, List.length_map] at this
    have := ok.cnt
    simp only [rePrev]; omega
  · obtain ⟨_, q, hq, rfl⟩ := mem p hp
    have := ok.id0 q hq
    split <;> exact this
  · obtain ⟨_, q, hq, rfl⟩ := mem p hp
    have := ok.id1 q hq
    split <;> exact this
  · obtain ⟨_, q, hq, rfl⟩ := mem p hp
    have h := ok.ok q hq
    split
    · exact ⟨h.n16, h.nums, h.few, h.uniq, h.short, h.data⟩
    · exact h
  · obtain ⟨_, q, hq, rfl⟩ := mem p hp
    have := ok.key q hq
    split <;> exact this
  · obtain ⟨_, q, hq, rfl⟩ := mem p hp
    split
    · rcases ok.prev _ hm with h0 | ⟨r, hr, e1, e2⟩
      · exact .inl h0
      · obtain ⟨r', hr', f1, f2⟩ := back r hr (by rw [e1]; exact hne)
        exact .inr ⟨r', hr', f1.trans e1, f2.trans e2⟩
    · rename_i hq2
      rcases ok.prev q hq with h0 | ⟨r, hr, e1, e2⟩
      · exact .inl h0
      · obtain ⟨r', hr', f1, f2⟩ := back r hr (by rw [e1]; exact hq2)
        exact .inr ⟨r', hr', f1.trans e1, f2.trans e2⟩
  · obtain ⟨_, q, hq, rfl⟩ := mem p hp
    split
    · rename_i hq2
      intro hs
      have h1 := ok.desc q hq hs
      have h2 := ok.desc _ hm (snapI q hq hq2)
      simp only at h2 ⊢; omega
    · exact ok.desc q hq
theorem LineOk.like {L L' : MLine} (h : LineOk L) (h1 : L'.names = L.names) (h2 : L'.objs = L.objs) : LineOk L' :=
  ⟨by rw [h2]; exact h.n16, by rw [h1]; exact h.nums, by rw [h1]; exact h.few, by rw [h1]; exact h.uniq, by rw [h1]; exact h.short, by rw [h2]; exact h.data⟩

theorem stOk_do {S : MSt} {n : Nat} (ok : StOk S n) (c : MCall) : StOk (doCall S c).1 (n + 1) := by
  have same : StOk S (n + 1) := ok.mono (Nat.le_succ n)
  have l0 := ok.last0
  unfold doCall
  split
  · unfold houseDo
    split
    · unfold hSet; split
      · exact same
      · exact ok.grow [⟨c.text, true⟩] (newLine_ok _ _) (by simp [newLine]) (.inl rfl) (by simp [newLine])
    · split
      · unfold hSnap; split
        · exact same
        · rename_i L hL
          split
          · exact same
          · rename_i hs
            have hm := lineOf_mem hL
            have hk := ok.key _ hm
            have g := ok.grow [] (L := { L with snap := true }) ((ok.line hL).like rfl rfl) (by simpa using hk) (ok.prev _ hm) (fun _ => by
              simp only
              rcases ok.prev _ hm with h0 | ⟨q, hq, e1, e2⟩
              · simp only at h0; omega
              · have := ok.id1 q hq; simp only at e1; omega)
            simp only [List.append_nil] at g
            have hL2 : lineOf (S.lines ++ [(S.last + 1, { L with snap := true })]) c.a = some L := lineOf_of_mem g.uniq (List.mem_append_left _ hm)
            exact g.put2 (L := L) hL2 ((ok.line hL).like rfl rfl) hk (.inr ⟨_, List.mem_append_right _ (List.mem_singleton.2 rfl), rfl, rfl⟩) rfl (fun h => absurd h hs)
      · split
        · unfold hClone; split
          · exact same
          · rename_i L hL
            split
            · exact same
            · rename_i hs
              have hm := lineOf_mem hL
              have hk := ok.key _ hm
              have g := ok.grow [] (L := { L with snap := false, prev := c.a, owner := S.last + 1 }) ((ok.line hL).like rfl rfl) (by simpa using hk) (.inr ⟨_, hm, rfl, by simpa using hs⟩) (by simp)
              simpa only [List.append_nil] using g
        · split
          · unfold hPromote; split
            · exact same
            · split
              · exact same
              · split
                · exact same
                · exact (StOk.prom (S := S) _ _ _ _ _ ok).mono (Nat.le_succ n)
          · split
            · unfold hRoll; split
              · exact same
              · rename_i L hL
                split
                · exact same
                · split
                  · exact same
                  · split
                    · exact same
                    · rename_i x hx
                      have hm := lineOf_mem hL
                      exact (ok.put2 hL (L' := { L with names := x.names, objs := x.objs }) ((ok.line hx).like rfl rfl) (ok.key _ hm) (ok.prev _ hm) rfl (ok.desc _ hm)).mono (Nat.le_succ n)
            · split
              · unfold hDestroy; split
                · exact same
                · rename_i L hL
                  split
                  · exact same
                  · exact (stOk_destroy ok hL).mono (Nat.le_succ n)
              · split
                · unfold hLoad; split
                  · exact same
                  · split
                    · exact same
                    · split
                      · exact same
                      · exact (ok.keysSet _ _).mono (Nat.le_succ n)
                · split
                  · unfold hUnload; split
                    · exact same
                    · split
                      · exact same
                      · exact (ok.keysSet _ _).mono (Nat.le_succ n)
                  · split
                    · exact same
                    · split
                      · unfold hCommit; split <;> exact same
                      · exact same
  · split
    · exact same
    · split
      · exact same
      · rename_i L hL
        split
        · exact same
        · split
          · exact same
          · rename_i hb
            have kin := lineDo_kin c.kind L c
            have hok : LineOk (lineDo c.kind L c).1 := (ok.line hL).do c.kind c (fun hk => by
              have : nameE c.name = 0 := by
                rcases Classical.em (nameE c.name = 0) with h | h
                · exact h
                · exact absurd ⟨hk, h⟩ hb
              exact okName_len this)
            exact (ok.putL hL hok kin.2.2.2 kin.2.2.1 kin.1).mono (Nat.le_succ n)
end Go.Mod
end
