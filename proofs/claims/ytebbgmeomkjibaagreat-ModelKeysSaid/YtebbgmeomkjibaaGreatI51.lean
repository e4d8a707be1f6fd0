/- This file holds in one the texts PG, PT, PI; each says at its head what it proves. -/
import Derived.Test.YtebbgmeomkjibaaGreatI38
set_option linter.unusedSimpArgs false
set_option linter.unusedVariables false
section
/- The model in plain words: ids rise, and what was destroyed is gone. -/
namespace Go.Mod

/-- What a call may do to the lines that there are. -/
inductive GoneR (S : MSt) (c : MCall) : MSt → MReply → Prop
  | same {S' r} (h1 : r.id = 0) (h2 : c.kind = 6 → r.err ≠ 0) (h3 : S'.last = S.last) (h4 : ids S'.lines = ids S.lines) : GoneR S c S' r
  | more {S' r} (h1 : r.id = S.last + 1) (h2 : c.kind ≠ 6) (h3 : S'.last = S.last + 1) (h4 : ids S'.lines = ids S.lines ++ [S.last + 1]) : GoneR S c S' r
  | less {S' r} (h1 : r.id = 0) (h2 : c.kind = 6) (h5 : r.err = 0) (h3 : S'.last = S.last) (h4 : ids S'.lines = (ids S.lines).filter fun x => x ≠ c.a) (h6 : c.a ∈ ids S.lines) : GoneR S c S' r
end Go.Mod
end
section
/- The model in plain words: what a snapshot tells stays under calls on another line. -/
namespace Go.Mod

/-- Two houses that tell the same of one line. -/
def SameLine (i : Int) (S S' : MSt) : Prop := lineOf S.lines i = lineOf S'.lines i ∧ S.keys = S'.keys
theorem SameLine.trans {i : Int} {S T R : MSt} (h : SameLine i S T) (g : SameLine i T R) : SameLine i S R := ⟨h.1.trans g.1, h.2.trans g.2⟩
/-- A look at a line: it stays, and tells what it is. -/
def isLook (k : Int) : Bool := k == 14 || k == 17 || k == 18
theorem look_line {k : Int} (h : isLook k = true) (L : MLine) (c : MCall) : (lineDo k L c).1 = L := by
  unfold isLook at h
  simp only [Bool.or_eq_true, beq_iff_eq] at h
  rcases h with (rfl | rfl) | rfl
  · show (L.read c).1 = L
    unfold MLine.read; split
    · rfl
    · split <;> rfl
  · show (L.stat c).1 = L
    unfold MLine.stat; split <;> rfl
  · rfl
theorem SameLine.symm {i : Int} {S T : MSt} (h : SameLine i S T) : SameLine i T S := ⟨h.1.symm, h.2.symm⟩
theorem look_kind {k : Int} (hk : isLook k = true) : isLine k = true ∧ isHouse k = false := by
  unfold isLook at hk
  simp only [Bool.or_eq_true, beq_iff_eq] at hk
  rcases hk with (rfl | rfl) | rfl <;> exact ⟨rfl, rfl⟩
theorem look_state (i : Int) (S : MSt) {c : MCall} (hk : isLook c.kind = true) : SameLine i S (doCall S c).1 := by
  unfold doCall
  simp only [(look_kind hk).1, (look_kind hk).2]
  split
  · rename_i h; cases h
  · split
    · rename_i h; cases h
    · split
      · exact ⟨rfl, rfl⟩
      · rename_i L hL
        split
        · exact ⟨rfl, rfl⟩
        · split
          · exact ⟨rfl, rfl⟩
          · refine ⟨?_, rfl⟩
            rw [lineOf_putL, look_line hk]
            split
            · rename_i q; rw [q.1, hL]
            · rfl
theorem look_same {i : Int} {S T : MSt} (h : SameLine i S T) {c : MCall} (hk : isLook c.kind = true) (ha : c.a = i) : SameLine i (doCall S c).1 (doCall T c).1 ∧ (doCall S c).2 = (doCall T c).2 := by
  refine ⟨((look_state i S hk).symm.trans h).trans (look_state i T hk), ?_⟩
  subst ha
  obtain ⟨h1, h2⟩ := h
  unfold doCall
  simp only [(look_kind hk).1, (look_kind hk).2, h1, MSt.keyOf, h2]
  cases hL : lineOf T.lines c.a with
  | none => rfl
  | some L =>
    simp only [Bool.false_eq_true, if_false, Bool.not_true]
    by_cases q1 : (!(T.keys[L.key]?.getD { pass := [], loaded := false }).loaded) = true
    · simp only [q1, if_true]
    · by_cases q2 : c.kind ≠ 18 ∧ nameE c.name ≠ 0
      · simp only [if_neg q1, if_pos q2]
      · simp only [if_neg q1, if_neg q2]
theorem looks_same {i : Int} : ∀ (l : List MCall) (S T : MSt), SameLine i S T → (∀ c ∈ l, isLook c.kind = true ∧ c.a = i) → (runCalls S l).2 = (runCalls T l).2
  | [], _, _, _, _ => rfl
  | c :: l, S, T, h, hl => by
    have h1 := look_same h (hl c (by simp)).1 (hl c (by simp)).2
    simp only [runCalls]
    rw [h1.2, looks_same l _ _ h1.1 fun d hd => hl d (List.mem_cons_of_mem _ hd)]
end Go.Mod
end
section
/- The model in plain words: calls that have an error, or only look, leave the house as it is. -/
namespace Go.Mod

def idleB (c : MCall) (r : MReply) : Bool := decide (r.err ≠ 0) || c.kind == 14 || c.kind == 17 || decide (18 ≤ c.kind)
/-- Calls that are not idle, with their replies. -/
def busyOf (l : List MCall) (r : List MReply) : List (MCall × MReply) := (l.zip r).filter fun p => !idleB p.1 p.2

theorem putL_same {l : List (Int × MLine)} {i : Int} {L : MLine} (h : lineOf l i = some L) : putL l i L = l := by
  induction l with
  | nil => rfl
  | cons p l ih =>
    simp only [lineOf] at h
    simp only [putL]
    split at h
    · rename_i e; cases h; rw [if_pos e]
    · rename_i e; rw [if_neg e, ih h]
theorem turn_err {L : MLine} {e : Int} {L' : MLine} (h : (L.turn e L').2.err ≠ 0) : (L.turn e L').1 = L := by
  unfold MLine.turn at *
  split
  · rename_i q; rw [if_pos q] at h; exact absurd rfl h
  · rfl
theorem add_err {L : MLine} {s : Bytes} {o : MObj} (h : (L.add s o).2.err ≠ 0) : (L.add s o).1 = L := by
  unfold MLine.add at *
  split
  · rename_i q; rw [if_pos q] at h; exact absurd rfl h
  · rfl
theorem lineDo_err {k : Int} {L : MLine} {c : MCall} (h : (lineDo k L c).2.err ≠ 0) : (lineDo k L c).1 = L := by
  by_cases h9 : k = 9
  · simp only [lineDo, h9, if_true] at *; exact add_err h
  by_cases h10 : k = 10
  · subst h10
    have e : lineDo 10 L c = L.point c := rfl
    rw [e] at h ⊢
    unfold MLine.point at *
    split
    · rfl
    · rename_i q; rw [if_neg q] at h; exact add_err h
  by_cases h11 : k = 11
  · subst h11; have e : lineDo 11 L c = L.link c := rfl
    rw [e] at h ⊢; exact turn_err h
  by_cases h12 : k = 12
  · subst h12; have e : lineDo 12 L c = L.unlink c := rfl
    rw [e] at h ⊢; exact turn_err h
  by_cases h13 : k = 13
  · subst h13; have e : lineDo 13 L c = L.rename c := rfl
    rw [e] at h ⊢; exact turn_err h
  by_cases h14 : k = 14
  · subst h14; exact look_line rfl L c
  by_cases h15 : k = 15
  · subst h15; have e : lineDo 15 L c = L.write c := rfl
    rw [e] at h ⊢
    unfold MLine.write at *
    split
    · rfl
    · rename_i q; rw [if_neg q] at h; exact turn_err h
  by_cases h16 : k = 16
  · subst h16; have e : lineDo 16 L c = L.cut c := rfl
    rw [e] at h ⊢
    unfold MLine.cut at *
    split
    · rfl
    · rename_i q; rw [if_neg q] at h; exact turn_err h
  by_cases h17 : k = 17
  · subst h17; exact look_line rfl L c
  · simp only [lineDo, h9, h10, h11, h12, h13, h14, h15, h16, h17, if_false, MLine.list]
/-- A call that is idle. -/
theorem idle_do {S : MSt} {c : MCall} (h : idleB c (doCall S c).2 = true) : (doCall S c).1 = S := by
  simp only [idleB, Bool.or_eq_true, decide_eq_true_eq, beq_iff_eq] at h
  by_cases hh : isHouse c.kind = true
  · have e : doCall S c = houseDo S c := by unfold doCall; rw [if_pos hh]
    rw [e] at h ⊢
    have he : (houseDo S c).2.err ≠ 0 ∨ 18 ≤ c.kind := by
      rcases h with ((h | h) | h) | h
      · exact .inl h
      · rw [h] at hh; cases hh
      · rw [h] at hh; cases hh
      · exact .inr h
    unfold houseDo at *
    split
    · rename_i q
      rw [if_pos q] at he
      have he := he.resolve_right (by omega)
      unfold hSet at *; split
      · rfl
      · rename_i q2; rw [if_neg q2] at he; exact absurd rfl he
    rename_i q; rw [if_neg q] at he
    split
    · rename_i q
      rw [if_pos q] at he
      have he := he.resolve_right (by omega)
      unfold hSnap at *; split
      · rfl
      · rename_i L hL
        rw [hL] at he
        simp only at he
        split
        · rfl
        · rename_i q2; rw [if_neg q2] at he; exact absurd rfl he
    rename_i q; rw [if_neg q] at he
    split
    · rename_i q
      rw [if_pos q] at he
      have he := he.resolve_right (by omega)
      unfold hClone at *; split
      · rfl
      · rename_i L hL
        rw [hL] at he
        simp only at he
        split
        · rfl
        · rename_i q2; rw [if_neg q2] at he; exact absurd rfl he
    rename_i q; rw [if_neg q] at he
    split
    · rename_i q
      rw [if_pos q] at he
      have he := he.resolve_right (by omega)
      unfold hPromote at *; split
      · rfl
      · rename_i L hL
        rw [hL] at he
        simp only at he
        split
        · rfl
        · rename_i q2
          rw [if_neg q2] at he
          split
          · rfl
          · rename_i q3; rw [if_neg q3] at he; exact absurd rfl he
    rename_i q; rw [if_neg q] at he
    split
    · rename_i q
      rw [if_pos q] at he
      have he := he.resolve_right (by omega)
      unfold hRoll at *; split
      · rfl
      · rename_i L hL
        rw [hL] at he
        simp only at he
        split
        · rfl
        · rename_i q2
          rw [if_neg q2] at he
          split
          · rfl
          · rename_i q3
            rw [if_neg q3] at he
            split
            · rfl
            · rename_i x hx
              rw [hx] at he
              exact absurd rfl he
    rename_i q; rw [if_neg q] at he
    split
    · rename_i q
      rw [if_pos q] at he
      have he := he.resolve_right (by omega)
      unfold hDestroy at *; split
      · rfl
      · rename_i L hL
        rw [hL] at he
        simp only at he
        split
        · rfl
        · rename_i q2; rw [if_neg q2] at he; exact absurd rfl he
    rename_i q; rw [if_neg q] at he
    split
    · rename_i q
      rw [if_pos q] at he
      have he := he.resolve_right (by omega)
      unfold hLoad at *; split
      · rfl
      · rename_i L hL
        rw [hL] at he
        simp only at he
        split
        · rfl
        · rename_i q2
          rw [if_neg q2] at he
          split
          · rfl
          · rename_i q3; rw [if_neg q3] at he; exact absurd rfl he
    rename_i q; rw [if_neg q] at he
    split
    · rename_i q
      rw [if_pos q] at he
      have he := he.resolve_right (by omega)
      unfold hUnload at *; split
      · rfl
      · rename_i L hL
        rw [hL] at he
        simp only at he
        split
        · rfl
        · rename_i q2; rw [if_neg q2] at he; exact absurd rfl he
    · split
      · rfl
      · split
        · unfold hCommit; split <;> rfl
        · rfl
  · unfold doCall at *
    rw [if_neg hh] at *
    split
    · rfl
    · rename_i q
      rw [if_neg q] at h
      split
      · rfl
      · rename_i L hL
        rw [hL] at h
        simp only at h
        split
        · rfl
        · rename_i q2
          rw [if_neg q2] at h
          split
          · rfl
          · rename_i q3
            rw [if_neg q3] at h
            have e : (lineDo c.kind L c).1 = L := by
              rcases h with ((h | h) | h) | h
              · exact lineDo_err h
              · exact look_line (by rw [h]; rfl) L c
              · exact look_line (by rw [h]; rfl) L c
              · have : c.kind = 18 := by
                  simp [isLine] at q
                  omega
                exact look_line (by rw [this]; rfl) L c
            rw [e, putL_same hL]
/-- Without all idle calls, the others tell the same. -/
theorem idle_run : ∀ (l : List MCall) (S : MSt), (runCalls S ((busyOf l (runCalls S l).2).map (·.1))).2 = (busyOf l (runCalls S l).2).map (·.2)
  | [], _ => rfl
  | c :: l, S => by
    have ih := idle_run l (doCall S c).1
    simp only [busyOf, runCalls, List.zip_cons_cons] at ih ⊢
    cases h : idleB c (doCall S c).2 with
    | true =>
      rw [List.filter_cons_of_neg (by simp [h])]
      rw [idle_do h] at ih ⊢
      exact ih
    | false =>
      rw [List.filter_cons_of_pos (by simp [h])]
      simp only [List.map_cons, runCalls]
      rw [ih]
end Go.Mod
end
