/- This file holds in one the texts Bf3, Bf4; each says at its head what it proves. -/
import Derived.Test.YtafhcdagifopeaaGreatDoorT24
import Derived.Test.YtafhcdagifopeaaGreatDoorT31
set_option linter.unusedSimpArgs false
set_option linter.unusedVariables false
section
/- The machine for closed laws, reckoned quickly, part 3: temporaries and objects in trees stand for those in lists. -/
namespace Go.AM.BM

/-! ### Temporaries -/
def NV.toL (t : NV) : List V := [t.x0, t.x1, t.x2, t.x3, t.x4, t.x5, t.x6, t.x7, t.x8, t.x9, t.x10, t.x11, t.x12, t.x13, t.x14, t.x15, t.x16, t.x17, t.x18, t.x19, t.x20, t.x21, t.x22, t.x23, t.x24, t.x25, t.x26, t.x27, t.x28, t.x29, t.x30, t.x31]
def NN.toL (t : NN) : List NV := [t.x0, t.x1, t.x2, t.x3, t.x4, t.x5, t.x6, t.x7, t.x8, t.x9, t.x10, t.x11, t.x12, t.x13, t.x14, t.x15, t.x16, t.x17, t.x18, t.x19, t.x20, t.x21, t.x22, t.x23, t.x24, t.x25, t.x26, t.x27, t.x28, t.x29, t.x30, t.x31]
theorem selV_eq (d : Box (NV → V)) (t : NV) : ∀ i, i < 32 → (selV.getD i d).f t = t.toL.getD i .bad
  | 0, _ => rfl
  | 1, _ => rfl
  | 2, _ => rfl
  | 3, _ => rfl
  | 4, _ => rfl
  | 5, _ => rfl
  | 6, _ => rfl
  | 7, _ => rfl
  | 8, _ => rfl
  | 9, _ => rfl
  | 10, _ => rfl
  | 11, _ => rfl
  | 12, _ => rfl
  | 13, _ => rfl
  | 14, _ => rfl
  | 15, _ => rfl
  | 16, _ => rfl
  | 17, _ => rfl
  | 18, _ => rfl
  | 19, _ => rfl
  | 20, _ => rfl
  | 21, _ => rfl
  | 22, _ => rfl
  | 23, _ => rfl
  | 24, _ => rfl
  | 25, _ => rfl
  | 26, _ => rfl
  | 27, _ => rfl
  | 28, _ => rfl
  | 29, _ => rfl
  | 30, _ => rfl
  | 31, _ => rfl
  | i + 32, h => by omega
theorem updV_eq (d : Box (NV → V → NV)) (t : NV) (v : V) : ∀ i, i < 32 → ((updV.getD i d).f t v).toL = t.toL.set i v
  | 0, _ => rfl
  | 1, _ => rfl
  | 2, _ => rfl
  | 3, _ => rfl
  | 4, _ => rfl
  | 5, _ => rfl
  | 6, _ => rfl
  | 7, _ => rfl
  | 8, _ => rfl
  | 9, _ => rfl
  | 10, _ => rfl
  | 11, _ => rfl
  | 12, _ => rfl
  | 13, _ => rfl
  | 14, _ => rfl
  | 15, _ => rfl
  | 16, _ => rfl
  | 17, _ => rfl
  | 18, _ => rfl
  | 19, _ => rfl
  | 20, _ => rfl
  | 21, _ => rfl
  | 22, _ => rfl
  | 23, _ => rfl
  | 24, _ => rfl
  | 25, _ => rfl
  | 26, _ => rfl
  | 27, _ => rfl
  | 28, _ => rfl
  | 29, _ => rfl
  | 30, _ => rfl
  | 31, _ => rfl
  | i + 32, h => by omega
theorem selN_eq (d : Box (NN → NV)) (e : NV) (t : NN) : ∀ i, i < 32 → (selN.getD i d).f t = t.toL.getD i e
  | 0, _ => rfl
  | 1, _ => rfl
  | 2, _ => rfl
  | 3, _ => rfl
  | 4, _ => rfl
  | 5, _ => rfl
  | 6, _ => rfl
  | 7, _ => rfl
  | 8, _ => rfl
  | 9, _ => rfl
  | 10, _ => rfl
  | 11, _ => rfl
  | 12, _ => rfl
  | 13, _ => rfl
  | 14, _ => rfl
  | 15, _ => rfl
  | 16, _ => rfl
  | 17, _ => rfl
  | 18, _ => rfl
  | 19, _ => rfl
  | 20, _ => rfl
  | 21, _ => rfl
  | 22, _ => rfl
  | 23, _ => rfl
  | 24, _ => rfl
  | 25, _ => rfl
  | 26, _ => rfl
  | 27, _ => rfl
  | 28, _ => rfl
  | 29, _ => rfl
  | 30, _ => rfl
  | 31, _ => rfl
  | i + 32, h => by omega
theorem updN_eq (d : Box (NN → NV → NN)) (t : NN) (v : NV) : ∀ i, i < 32 → ((updN.getD i d).f t v).toL = t.toL.set i v
  | 0, _ => rfl
  | 1, _ => rfl
  | 2, _ => rfl
  | 3, _ => rfl
  | 4, _ => rfl
  | 5, _ => rfl
  | 6, _ => rfl
  | 7, _ => rfl
  | 8, _ => rfl
  | 9, _ => rfl
  | 10, _ => rfl
  | 11, _ => rfl
  | 12, _ => rfl
  | 13, _ => rfl
  | 14, _ => rfl
  | 15, _ => rfl
  | 16, _ => rfl
  | 17, _ => rfl
  | 18, _ => rfl
  | 19, _ => rfl
  | 20, _ => rfl
  | 21, _ => rfl
  | 22, _ => rfl
  | 23, _ => rfl
  | 24, _ => rfl
  | 25, _ => rfl
  | 26, _ => rfl
  | 27, _ => rfl
  | 28, _ => rfl
  | 29, _ => rfl
  | 30, _ => rfl
  | 31, _ => rfl
  | i + 32, h => by omega
theorem selA_eq (d : Box (TM → V)) (t : TM) : ∀ i, i < 32 → (selA.getD i d).f t = t.a.toL.getD i .bad
  | 0, _ => rfl
  | 1, _ => rfl
  | 2, _ => rfl
  | 3, _ => rfl
  | 4, _ => rfl
  | 5, _ => rfl
  | 6, _ => rfl
  | 7, _ => rfl
  | 8, _ => rfl
  | 9, _ => rfl
  | 10, _ => rfl
  | 11, _ => rfl
  | 12, _ => rfl
  | 13, _ => rfl
  | 14, _ => rfl
  | 15, _ => rfl
  | 16, _ => rfl
  | 17, _ => rfl
  | 18, _ => rfl
  | 19, _ => rfl
  | 20, _ => rfl
  | 21, _ => rfl
  | 22, _ => rfl
  | 23, _ => rfl
  | 24, _ => rfl
  | 25, _ => rfl
  | 26, _ => rfl
  | 27, _ => rfl
  | 28, _ => rfl
  | 29, _ => rfl
  | 30, _ => rfl
  | 31, _ => rfl
  | i + 32, h => by omega
theorem updA_eq (d : Box (TM → V → TM)) (t : TM) (v : V) : ∀ i, i < 32 → ((updA.getD i d).f t v).a.toL = t.a.toL.set i v
  | 0, _ => rfl
  | 1, _ => rfl
  | 2, _ => rfl
  | 3, _ => rfl
  | 4, _ => rfl
  | 5, _ => rfl
  | 6, _ => rfl
  | 7, _ => rfl
  | 8, _ => rfl
  | 9, _ => rfl
  | 10, _ => rfl
  | 11, _ => rfl
  | 12, _ => rfl
  | 13, _ => rfl
  | 14, _ => rfl
  | 15, _ => rfl
  | 16, _ => rfl
  | 17, _ => rfl
  | 18, _ => rfl
  | 19, _ => rfl
  | 20, _ => rfl
  | 21, _ => rfl
  | 22, _ => rfl
  | 23, _ => rfl
  | 24, _ => rfl
  | 25, _ => rfl
  | 26, _ => rfl
  | 27, _ => rfl
  | 28, _ => rfl
  | 29, _ => rfl
  | 30, _ => rfl
  | 31, _ => rfl
  | i + 32, h => by omega
theorem updA_b (d : Box (TM → V → TM)) (t : TM) (v : V) : ∀ i, i < 32 → ((updA.getD i d).f t v).b = t.b
  | 0, _ => rfl
  | 1, _ => rfl
  | 2, _ => rfl
  | 3, _ => rfl
  | 4, _ => rfl
  | 5, _ => rfl
  | 6, _ => rfl
  | 7, _ => rfl
  | 8, _ => rfl
  | 9, _ => rfl
  | 10, _ => rfl
  | 11, _ => rfl
  | 12, _ => rfl
  | 13, _ => rfl
  | 14, _ => rfl
  | 15, _ => rfl
  | 16, _ => rfl
  | 17, _ => rfl
  | 18, _ => rfl
  | 19, _ => rfl
  | 20, _ => rfl
  | 21, _ => rfl
  | 22, _ => rfl
  | 23, _ => rfl
  | 24, _ => rfl
  | 25, _ => rfl
  | 26, _ => rfl
  | 27, _ => rfl
  | 28, _ => rfl
  | 29, _ => rfl
  | 30, _ => rfl
  | 31, _ => rfl
  | i + 32, h => by omega

theorem gC_lo {i : Nat} (h : i < 32) (T : TM) : (gC i).f T = T.a.toL.getD i .bad := by
  have : Nat.blt i 32 = true := by rw [Nat.blt_eq]; exact h
  simp only [gC, this, cond_true]
  exact selA_eq _ T i h
theorem gC_hi {i : Nat} (h : ¬ i < 32) (h2 : i < 1056) (T : TM) : (gC i).f T = (T.b.toL.getD ((i - 32) / 32) empV).toL.getD ((i - 32) % 32) .bad := by
  have : Nat.blt i 32 = false := by rw [Bool.eq_false_iff]; intro e; rw [Nat.blt_eq] at e; exact h e
  simp only [gC, this, cond_false]
  rw [selN_eq _ empV _ _ (by omega), selV_eq _ _ _ (by omega)]
theorem sC_hi {i : Nat} (h : ¬ i < 32) (T : TM) (v : V) : (sC i).f T v = ⟨T.a, (updN.getD ((i - 32) / 32) ⟨fun t _ => t⟩).f T.b ((updV.getD ((i - 32) % 32) ⟨fun t _ => t⟩).f ((selN.getD ((i - 32) / 32) ⟨fun t => t.x0⟩).f T.b) v)⟩ := by
  have : Nat.blt i 32 = false := by rw [Bool.eq_false_iff]; intro e; rw [Nat.blt_eq] at e; exact h e
  simp only [sC, this, cond_false]
theorem sC_lo {i : Nat} (h : i < 32) (T : TM) (v : V) : (sC i).f T v = (updA.getD i ⟨fun t _ => t⟩).f T v := by
  have : Nat.blt i 32 = true := by rw [Nat.blt_eq]; exact h
  simp only [sC, this, cond_true]
theorem NV.toL_length (t : NV) : t.toL.length = 32 := rfl
theorem NN.toL_length (t : NN) : t.toL.length = 32 := rfl
theorem getD_set {α : Type} (l : List α) (i j : Nat) (v d : α) (hi : i < l.length) : (l.set i v).getD j d = if j = i then v else l.getD j d := by
  simp only [List.getD, List.getElem?_set]
  by_cases e : i = j
  · subst e; simp [hi]
  · rw [if_neg e, if_neg (Ne.symm e)]
theorem gC_sC {i j : Nat} (hi : i < 1056) (hj : j < 1056) (T : TM) (v : V) : (gC j).f ((sC i).f T v) = if j = i then v else (gC j).f T := by
  by_cases a : i < 32
  · rw [sC_lo a]
    by_cases b : j < 32
    · rw [gC_lo b, gC_lo b, updA_eq _ _ _ _ a, getD_set _ _ _ _ _ (by rw [NV.toL_length]; exact a)]
    · rw [gC_hi b hj, gC_hi b hj, updA_b _ _ _ _ a, if_neg (by omega)]
  · rw [sC_hi a]
    by_cases b : j < 32
    · rw [gC_lo b, gC_lo b, if_neg (by omega)]
    · rw [gC_hi b hj, gC_hi b hj, updN_eq _ _ _ _ (by omega), getD_set _ _ _ _ _ (by rw [NN.toL_length]; omega)]
      by_cases e : (j - 32) / 32 = (i - 32) / 32
      · rw [if_pos e, updV_eq _ _ _ _ (by omega), getD_set _ _ _ _ _ (by rw [NV.toL_length]; omega), selN_eq _ empV _ _ (by omega), e]
        by_cases e2 : (j - 32) % 32 = (i - 32) % 32
        · rw [if_pos e2, if_pos (by omega)]
        · rw [if_neg e2, if_neg (by omega)]
      · rw [if_neg e, if_neg (by omega)]

structure RT (n : Nat) (T : TM) (t : List V) : Prop where
  len : t.length = n
  le : n ≤ 1056
  get : ∀ i, i < n → (gC i).f T = t.getD i .bad

theorem rep_getD {α : Type} (n i : Nat) (x : α) : (List.replicate n x).getD i x = x := by
  simp only [List.getD, List.getElem?_replicate]
  split <;> rfl
theorem gC_emp (i : Nat) (h : i < 1056) : (gC i).f emp = .bad := by
  have e2 : empV.toL = List.replicate 32 .bad := rfl
  by_cases a : i < 32
  · rw [gC_lo a]
    show empV.toL.getD i .bad = .bad
    rw [e2, rep_getD]
  · rw [gC_hi a h]
    have e : emp.b.toL = List.replicate 32 empV := rfl
    rw [e, rep_getD, e2, rep_getD]

theorem RT.put {n : Nat} {T : TM} {t : List V} (R : RT n T t) (dst : Option Nat) (v : V) : RT n ((cP n dst).f T v) (putT t dst v) := by
  cases dst with
  | none => exact R
  | some i =>
    simp only [cP, putT]
    by_cases h : i < n
    · have hb : Nat.blt i n = true := by rw [Nat.blt_eq]; exact h
      rw [hb]
      refine ⟨by rw [List.length_set]; exact R.len, R.le, fun j hj => ?_⟩
      have hn := R.le
      simp only [cond_true]
      rw [gC_sC (by omega) (by omega), getD_set _ _ _ _ _ (by rw [R.len]; exact h), R.get j hj]
    · have hb : Nat.blt i n = false := by rw [Bool.eq_false_iff]; intro e; rw [Nat.blt_eq] at e; exact h e
      rw [hb]
      rw [List.set_eq_of_length_le (by rw [R.len]; omega)]
      exact R
theorem RT.rho {n : Nat} {T : TM} {t : List V} (R : RT n T t) (x : Operand) : (cR n x).f T = AM.rho t x := by
  cases x with
  | tmp i =>
    simp only [cR, AM.rho]
    by_cases h : i < n
    · have hb : Nat.blt i n = true := by rw [Nat.blt_eq]; exact h
      rw [hb]; exact R.get i h
    · have hb : Nat.blt i n = false := by rw [Bool.eq_false_iff]; intro e; rw [Nat.blt_eq] at e; exact h e
      have h' : n ≤ i := Nat.le_of_not_lt h
      rw [hb]
      simp only [cond_false, List.getD]
      rw [List.getElem?_eq_none (by rw [R.len]; exact h')]; rfl
  | const v => rfl
  | global g => rfl
  | func f => rfl
theorem RT.rhoF {n : Nat} {T : TM} {t : List V} (R : RT n T t) : (fun x => (cR n x).f T) = AM.rho t := funext R.rho
theorem cL_eq (n : Nat) (T : TM) : ∀ l : List Operand, (cL n l).f T = l.map fun x => (cR n x).f T
  | [] => rfl
  | x :: l => by
    have := cL_eq n T l
    show (cR n x).f T :: (cL n l).f T = _
    rw [this]; rfl

theorem toL_eq {n : Nat} {T : TM} {t : List V} (R : RT n T t) : toL T n 0 = t := by
  have : ∀ m i, toL T m i = (List.range' i m).map fun j => (gC j).f T := by
    intro m
    induction m with
    | zero => intro i; rfl
    | succ m ih =>
      intro i
      show (gC i).f T :: toL T m (Nat.succ i) = _
      rw [ih]; simp [List.range'_succ]
  rw [this]
  apply List.ext_getElem?
  intro i
  by_cases h : i < n
  · simp only [List.getElem?_map, List.getElem?_range' h, Option.map_some, Nat.zero_add, Nat.one_mul]
    rw [R.get i h, List.getD, List.getElem?_eq_getElem (by rw [R.len]; exact h)]; rfl
  · rw [List.getElem?_eq_none (by simp; omega), List.getElem?_eq_none (by rw [R.len]; omega)]

theorem ofL_get {n : Nat} (hn : n ≤ 1056) : ∀ (l : List V) (i : Nat) (T : TM), i + l.length ≤ n → ∀ j, j < n → (gC j).f (ofL l i T) = if i ≤ j ∧ j < i + l.length then l.getD (j - i) .bad else (gC j).f T
  | [], i, T, _, j, _ => by
    show (gC j).f T = _
    rw [if_neg (by simp only [List.length_nil]; omega)]
  | v :: l, i, T, h, j, hj => by
    simp only [List.length_cons] at h
    show (gC j).f (ofL l (Nat.succ i) ((sC i).f T v)) = _
    rw [ofL_get hn l (Nat.succ i) _ (by omega) j hj, gC_sC (by omega) (by omega)]
    by_cases e : j = i
    · subst e
      rw [if_neg (by omega), if_pos rfl, if_pos (by simp)]; simp
    · by_cases c : i ≤ j ∧ j < i + (l.length + 1)
      · rw [if_pos (by omega), if_pos (by simpa using c)]
        have : j - i = (j - Nat.succ i) + 1 := by omega
        rw [this]; rfl
      · rw [if_neg (by omega), if_neg e, if_neg (by simpa using c)]
theorem RT.args {n : Nat} (hn : n ≤ 1056) (l : List V) (h : l.length ≤ n) : RT n (ofL l 0 emp) (l ++ List.replicate (n - l.length) .bad) := by
  refine ⟨by simp; omega, hn, fun i hi => ?_⟩
  rw [ofL_get hn l 0 emp (by omega) i hi]
  by_cases c : i < l.length
  · rw [if_pos (by omega)]; simp [List.getD, List.getElem?_append_left c]
  · rw [if_neg (by omega), gC_emp i (by omega)]
    simp only [List.getD, List.getElem?_append_right (by omega : l.length ≤ i), List.getElem?_replicate]
    split <;> rfl
theorem RT.ofT {n : Nat} (hn : n ≤ 1056) (l : List V) (h : l.length = n) : RT n (ofL l 0 emp) l := by
  have := RT.args hn l (by omega)
  rwa [h, Nat.sub_self, List.replicate_zero, List.append_nil] at this

/-! ### Objects -/
theorem four_eq {α : Type} (j : Nat) (a b c d : α) : four j a b c d = if (j / 2) % 2 = 0 then (if j % 2 = 0 then a else b) else (if j % 2 = 0 then c else d) := by
  have h1 : Nat.land j (nat_lit 1) = j % 2 := Nat.and_one_is_mod j
  have h2 : Nat.land (Nat.shiftRight j (nat_lit 1)) (nat_lit 1) = (j / 2) % 2 := by
    have : Nat.shiftRight j 1 = j / 2 := rfl
    show Nat.land (Nat.shiftRight j 1) 1 = _
    rw [this]; exact Nat.and_one_is_mod _
  unfold four
  rw [h1, h2]
  have e : ∀ (m : Nat) (x y : α), Bool.rec (motive := fun _ => α) x y (Nat.beq m (nat_lit 0)) = if m = 0 then y else x := by
    intro m x y
    cases m <;> rfl
  rw [e, e, e]
theorem Tr.get_node (o : Option O) (a b c d : Tr) (k : Nat) : (Tr.node o a b c d).get k = match k with
    | 0 => o
    | j + 1 => four j (a.get) (b.get) (c.get) (d.get) (j / 4) := by
  cases k with
  | zero => rfl
  | succ j =>
    show four j a.get b.get c.get d.get (Nat.shiftRight j (nat_lit 2)) = _
    have hs : Nat.shiftRight j (nat_lit 2) = j / 4 := by
      show Nat.shiftRight j 2 = _
      have : Nat.shiftRight j 2 = j / 2 / 2 := rfl
      rw [this, Nat.div_div_eq_div_mul]
    rw [hs]
theorem Tr.on_get (t : Tr) (k : Nat) : t.get k = t.on fun o a b c d => (Tr.node o a b c d).get k := by
  cases t with
  | nil =>
    show none = (Tr.node none .nil .nil .nil .nil).get k
    rw [Tr.get_node]
    cases k with
    | zero => rfl
    | succ j => simp only [four_eq]; repeat' split
                all_goals rfl
  | node o a b c d => rfl
theorem Tr.get_set : ∀ (n : Nat) (t : Tr) (k : Nat) (o : O), k < n → ∀ k', (Tr.set n t k o).get k' = if k' = k then some o else t.get k'
  | 0, _, _, _, h, _ => by omega
  | n + 1, t, k, x, h, k' => by
    have main : ∀ (o : Option O) (a b c d : Tr), (Nat.rec (motive := fun _ => Tr) (.node (some x) a b c d)
      (fun j _ => four j (Tr.node o (Tr.set n a (Nat.shiftRight j (nat_lit 2)) x) b c d) (.node o a (Tr.set n b (Nat.shiftRight j (nat_lit 2)) x) c d) (.node o a b (Tr.set n c (Nat.shiftRight j (nat_lit 2)) x) d) (.node o a b c (Tr.set n d (Nat.shiftRight j (nat_lit 2)) x))) k : Tr).get k' =
        if k' = k then some x else (Tr.node o a b c d).get k' := by
      intro o a b c d
      cases k with
      | zero =>
        show (Tr.node (some x) a b c d).get k' = _
        rw [Tr.get_node, Tr.get_node]
        cases k' with
        | zero => rfl
        | succ j => simp
      | succ j =>
        show (four j (Tr.node o (Tr.set n a (Nat.shiftRight j (nat_lit 2)) x) b c d) (.node o a (Tr.set n b (Nat.shiftRight j (nat_lit 2)) x) c d) (.node o a b (Tr.set n c (Nat.shiftRight j (nat_lit 2)) x) d) (.node o a b c (Tr.set n d (Nat.shiftRight j (nat_lit 2)) x))).get k' = _
        have hs : Nat.shiftRight j (nat_lit 2) = j / 4 := by
          show Nat.shiftRight j 2 = _
          have : Nat.shiftRight j 2 = j / 2 / 2 := rfl
          rw [this, Nat.div_div_eq_div_mul]
        rw [hs]
        have hlt : j / 4 < n := by omega
        have ih := fun (t : Tr) => Tr.get_set n t (j / 4) x hlt
        cases k' with
        | zero =>
          simp only [four_eq]
          repeat' split
          all_goals first | rfl | (exfalso; omega) | skip
          all_goals simp [Tr.get_node]
        | succ j' =>
          simp only [four_eq]
          (repeat' split) <;> (try simp only [Tr.get_node, four_eq]) <;> (repeat' split) <;> (try simp only [ih]) <;> (repeat' split) <;> first | rfl | (exfalso; omega)
    cases t with
    | nil => 
      exact (main none .nil .nil .nil .nil).trans (by rw [Tr.on_get .nil k']; rfl)
    | node o a b c d => exact main o a b c d

def RH (F : FH) (H : Heap) : Prop := ∃ fr, H = [fr] ∧ (∀ s, fget fr s = F.tr.get s) ∧ topOf fr = F.next
theorem fget_top : ∀ (fr : Frame) (s : Nat), topOf fr ≤ s → fget fr s = none
  | [], _, _ => rfl
  | (k, o) :: r, s, h => by
    simp only [topOf] at h
    simp only [fget]
    rw [if_neg (by omega)]
    exact fget_top r s (by omega)
theorem RH.get {F : FH} {H : Heap} (h : RH F H) : getF F = hget H := by
  obtain ⟨fr, rfl, h1, _⟩ := h
  funext f s
  cases f with
  | zero => exact (h1 s).symm
  | succ f => simp [getF, hget]
theorem RH.tr {F : FH} {H : Heap} (h : RH F H) (s : Nat) : F.tr.get s = hget H 0 s := by
  rw [← h.get]; rfl
theorem RH.next {F : FH} {H : Heap} (h : RH F H) : nextOf H = F.next := by
  obtain ⟨fr, rfl, _, h2⟩ := h; exact h2
theorem RH.fresh {F : FH} {H : Heap} (h : RH F H) : F.tr.get F.next = none := by
  obtain ⟨fr, rfl, h1, h2⟩ := h
  rw [← h1, ← h2]; exact fget_top fr _ (Nat.le_refl _)
theorem RH.set {F : FH} {H : Heap} (h : RH F H) (s : Nat) (o : O) : RH (setF F s o) (hset H 0 s o) := by
  obtain ⟨fr, rfl, h1, h2⟩ := h
  refine ⟨fset fr s o, rfl, fun s' => ?_, ?_⟩
  · rw [fget_fset, h1]
    exact (Tr.get_set (Nat.succ s) F.tr s o (Nat.lt_succ_self s) s').symm
  · rw [topOf_fset, h2]
    simp only [setF]
    cases e : Nat.ble (Nat.succ s) F.next with
    | true => have := Nat.le_of_ble_eq_true e; simp only; omega
    | false =>
      have : ¬ Nat.succ s ≤ F.next := fun h => by rw [Nat.ble_eq_true_of_le h] at e; cases e
      simp only; omega
theorem RH.wr {F : FH} {H : Heap} (h : RH F H) (w : Option (Nat × Nat × O)) : RH (wrF F w) (AM.wr H w) := by
  match w with
  | none => exact h
  | some (0, s, o) => exact h.set s o
  | some (f + 1, s, o) =>
    obtain ⟨fr, rfl, h1, h2⟩ := h
    exact ⟨fr, by simp [AM.wr, hset], h1, h2⟩
theorem RH.wrL : ∀ (ws : List (Nat × Nat × O)) {F : FH} {H : Heap}, RH F H → RH (wrLF F ws) (BM.wrL H ws)
  | [], _, _, h => h
  | (f, s, o) :: r, F, H, h => by
    have := h.wr (some (f, s, o))
    exact RH.wrL r this
end Go.AM.BM
end
section
/- The machine for closed laws, reckoned quickly, part 4: an operation. -/
namespace Go.AM.BM

def RO (n : Nat) : FO → Out → Prop
  | .no, _ => True
  | .nrm T F, o => ∃ t H, o = some (.normal, t, H) ∧ RT n T t ∧ RH F H
  | .exi i T F, o => ∃ t H, o = some (.exit i, t, H) ∧ RT n T t ∧ RH F H
  | .ret T F, o => ∃ t H, o = some (.ret, t, H) ∧ RT n T t ∧ RH F H
  | .pan v T F, o => ∃ t H, o = some (.panic v, t, H) ∧ RT n T t ∧ RH F H
def RR : FR → Option (Rt × Heap) → Prop
  | .no, _ => True
  | .ret v F, o => ∃ H, o = some (.ret v, H) ∧ RH F H
  | .pan v F, o => ∃ H, o = some (.pan v, H) ∧ RH F H
def RC (cc : FC) (C : Call) : Prop := ∀ f args F H, RH F H → RR (cc f args F) (C f args H)

def Sub {α : Type} (no x y : α) : Prop := x = no ∨ x = y
theorem Sub.refl {α : Type} {no : α} (x : α) : Sub no x x := .inr rfl

/-! ### The parts, by cases -/
theorem optK_none (k : V → FO) : optK none k = .no := rfl
theorem nthV_eq : ∀ (l : List V) (i : Nat), nthV l i = l[i]?
  | [], i => rfl
  | x :: l, 0 => rfl
  | x :: l, i + 1 => by
    show nthV l i = _
    rw [nthV_eq l i]; rfl
theorem setV_eq : ∀ (l : List V) (i : Nat) (v : V), setV l i v = l.set i v
  | [], i, v => rfl
  | x :: l, 0, v => rfl
  | x :: l, i + 1, v => by
    show x :: setV l i v = _
    rw [setV_eq l i v]; rfl
theorem set_splice (l : List V) (i : Nat) (v : V) (h : i < l.length) : l.set i v = splice l i [v] := by
  induction l generalizing i with
  | nil => simp at h
  | cons x l ih =>
    cases i with
    | zero => simp [splice]
    | succ i =>
      simp only [List.length_cons] at h
      simp only [List.set_cons_succ, ih i (by omega), splice]
      simp
theorem oCells_eq {R : Type} (o : Option O) (k : List V → R) (e : R) : oCells o k e = match o with
    | some (.cells xs) => k xs
    | _ => e := by
  cases o with
  | none => rfl
  | some o => cases o <;> rfl
theorem vPtr_eq {R : Type} (v : V) (kp : Nat → Nat → Nat → R) (ki kr : List V → Nat → R) (e : R) : vPtr v kp ki kr e = match v with
    | .ptr f s o => kp f s o
    | .iptr cs o => ki cs o
    | .rptr cs o => kr cs o
    | _ => e := by cases v <;> rfl
theorem vInt_eq {R : Type} (v : V) (k : IntKind → Int → R) (e : R) : vInt v k e = match v with
    | .int a m => k a m
    | _ => e := by cases v <;> rfl
theorem vAgg_eq {R : Type} (v : V) (k : List V → R) (e : R) : vAgg v k e = match v with
    | .agg cs => k cs
    | _ => e := by cases v <;> rfl
theorem vTup_eq {R : Type} (v : V) (k : List V → R) (e : R) : vTup v k e = match v with
    | .tuple cs => k cs
    | _ => e := by cases v <;> rfl
theorem vBool_eq {R : Type} (v : V) (a b e : R) : vBool v a b e = match v with
    | .bool t => if t then a else b
    | _ => e := by
  cases v with
  | bool t => cases t <;> rfl
  | _ => rfl
theorem kindN_eq (a b : IntKind) : Nat.beq (kindN a) (kindN b) = decide (a = b) := by
  cases a <;> cases b <;> rfl
theorem natsK_eq {R : Type} (m l : Int) (k : Nat → Nat → R) (e : R) (x : Int → Int → R) (h : ∀ a b : Nat, m = a → l = b → k a b = x m l) (he : e = x m l) : natsK m l k e = x m l := by
  cases m with
  | ofNat a => cases l with
    | ofNat b => exact h a b rfl rfl
    | negSucc b => exact he
  | negSucc a => exact he
theorem wrapN_eq (k : IntKind) (m : Nat) : wrapN k m = k.wrap (m : Int) := by
  have hu : ∀ (n : Nat), (Int.ofNat (Nat.mod m n)) = (m : Int) % (n : Int) := fun n => (Int.natCast_emod m n)
  cases k with
  | i64 =>
    show Bool.rec (motive := fun _ => Int) (IntKind.i64.wrap (Int.ofNat m)) (Int.ofNat m) (Nat.ble m (nat_lit 9223372036854775807)) = _
    cases h : Nat.ble m (nat_lit 9223372036854775807) with
    | false => rfl
    | true =>
      have h1 : m ≤ 9223372036854775807 := Nat.le_of_ble_eq_true h
      show (m : Int) = _
      have e : (m : Int) % (2 ^ 64 : Int) = m := by omega
      simp only [IntKind.wrap, IntKind.bits, IntKind.signed, Bool.true_and, e]
      rw [if_neg]
      simp only [decide_eq_true_eq]
      omega
  | u8 => exact hu 256
  | u16 => exact hu 65536
  | u32 => exact hu 4294967296
  | u64 => exact hu 18446744073709551616
  | i8 => rfl
  | i16 => rfl
  | i32 => rfl
theorem addI_eq (k : IntKind) (m l : Int) : addI k m l = k.wrap (m + l) := by
  refine natsK_eq m l _ _ (fun m l => k.wrap (m + l)) ?_ rfl
  rintro a b rfl rfl
  rw [wrapN_eq]; rfl
theorem subI_eq (k : IntKind) (m l : Int) : subI k m l = k.wrap (m - l) := by
  refine natsK_eq m l _ _ (fun m l => k.wrap (m - l)) ?_ rfl
  rintro a b rfl rfl
  cases h : Nat.ble b a with
  | false => rfl
  | true =>
    have := Nat.le_of_ble_eq_true h
    show wrapN k (a - b) = _
    rw [wrapN_eq]
    congr 1
    omega
theorem ltI_eq (m l : Int) : ltI m l = decide (m < l) := by
  refine natsK_eq m l _ _ (fun m l => decide (m < l)) ?_ rfl
  rintro a b rfl rfl
  cases h : Nat.ble (Nat.succ a) b with
  | true => have := Nat.le_of_ble_eq_true h; symm; exact decide_eq_true (by omega)
  | false =>
    symm
    apply decide_eq_false
    intro e
    have : Nat.ble (Nat.succ a) b = true := Nat.ble_eq_true_of_le (by omega)
    rw [this] at h; cases h
theorem leI_eq (m l : Int) : leI m l = decide (m ≤ l) := by
  refine natsK_eq m l _ _ (fun m l => decide (m ≤ l)) ?_ rfl
  rintro a b rfl rfl
  cases h : Nat.ble a b with
  | true => have := Nat.le_of_ble_eq_true h; symm; exact decide_eq_true (by omega)
  | false =>
    symm
    apply decide_eq_false
    intro e
    have : Nat.ble a b = true := Nat.ble_eq_true_of_le (by omega)
    rw [this] at h; cases h
theorem eqI_eq (m l : Int) : eqI m l = (m == l) := by
  have : (m == l) = decide (m = l) := by by_cases h : m = l <;> simp [h]
  rw [this]
  refine natsK_eq m l _ _ (fun m l => decide (m = l)) ?_ rfl
  rintro a b rfl rfl
  cases h : Nat.beq a b with
  | true => have := Nat.eq_of_beq_eq_true h; symm; exact decide_eq_true (by omega)
  | false =>
    have := Nat.ne_of_beq_eq_false h
    symm
    exact decide_eq_false (by omega)
theorem convI_eq (k : IntKind) (m : Int) : convI k m = k.wrap m := by
  cases m with
  | ofNat a => exact wrapN_eq k a
  | negSucc a => rfl

section
variable {P : Program} {pol : Pol} {n : Nat}

theorem gen_val {o : Op} {dst : Option Nat} {cc : FC} {nm : Nat} {k : KT} {T : TM} {F : FH} {x : Option V} (h : evX P (getF F) (fun x => (cR n x).f T) nm o = aVal x)
    (hm : x = none → moreOp P (getF F) (fun x => (cR n x).f T) nm o = none) : optK x (fun v => k ((cP n dst).f T v) F) = (cGen P pol n dst o).f cc nm k T F := by
  simp only [cGen, h, aVal]
  cases x with
  | none => simp only [Option.map_none, stepK, hm rfl, optK_none]
  | some v => rfl

theorem more_of {o : Op} {g : Get} {r : Operand → V} {nm : Nat} (h : ∀ c, o ≠ .call c) : moreOp P g r nm o = none := by
  unfold moreOp
  split
  · rename_i c; exact absurd rfl (h c)
  · rfl

theorem cMove_ok (dst : Option Nat) (x : Operand) (cc : FC) (nm : Nat) (k : KT) (T : TM) (F : FH) : (cMove n dst x).f cc nm k T F = (cGen P pol n dst (.move x)).f cc nm k T F := rfl
theorem cMove_ok' (dst : Option Nat) (x : Operand) (cc : FC) (nm : Nat) (k : KT) (T : TM) (F : FH) : (cMove n dst x).f cc nm k T F = (cGen P pol n dst (.assign x)).f cc nm k T F := rfl
theorem cPick_ok (dst : Option Nat) (c a b : Operand) (cc : FC) (nm : Nat) (k : KT) (T : TM) (F : FH) : (cPick n dst c a b).f cc nm k T F = (cGen P pol n dst (.pick c a b)).f cc nm k T F := by
  simp only [cPick, boolK, vBool_eq, cGen, evX, aPick]
  cases (cR n c).f T with
  | bool t => cases t <;> rfl
  | _ => rfl
theorem cNil_ok (dst : Option Nat) (x : Operand) (cc : FC) (nm : Nat) (k : KT) (T : TM) (F : FH) : (cNil n dst x).f cc nm k T F = (cGen P pol n dst (.nilCheck x)).f cc nm k T F :=
  gen_val (x := ncV ((cR n x).f T)) rfl (fun _ => rfl)
theorem cUnOp_ok (dst : Option Nat) (op : UnOp) (t : TypeId) (x : Operand) (cc : FC) (nm : Nat) (k : KT) (T : TM) (F : FH) : (cUnOp n dst op x).f cc nm k T F = (cGen P pol n dst (.unOp op t x)).f cc nm k T F :=
  gen_val (x := unV op ((cR n x).f T)) rfl (fun _ => rfl)
theorem intsK_eq (x y : V) (k : IntKind → Int → Int → Option V) (e : Option V) (h : ∀ a m l, x = .int a m → y = .int a l → k a m l = e) (h2 : ∀ a b m l, x = .int a m → y = .int b l → a ≠ b → e = none) : intsK x y k e = e := by
  simp only [intsK, vInt_eq]
  cases x with
  | int a m =>
    cases y with
    | int b l =>
      simp only [kindN_eq]
      by_cases c : a = b
      · subst c
        simp only [decide_true]
        exact h a m l rfl rfl
      · simp only [c, decide_false]
        exact (h2 a b m l rfl rfl c).symm
    | _ => rfl
  | _ => rfl
theorem cBin_eq (op : BinOp) (t : TypeId) (x y : Operand) (a b : V) : (cBin P op t x y).f a b = binV P op t x y a b := by
  have no : ∀ (c d : IntKind) (m l : Int), a = .int c m → b = .int d l → c ≠ d → op ≠ .shl → op ≠ .shr → binV P op t x y a b = none := by
    rintro c d m l rfl rfl h h1 h2
    cases op <;> first | exact absurd rfl h1 | exact absurd rfl h2 | simp [binV, h]
  have yes : ∀ (c : IntKind) (m l : Int), a = .int c m → b = .int c l → op ≠ .shl → op ≠ .shr → binV P op t x y a b = binI op c m l := by
    rintro c m l rfl rfl h1 h2
    cases op <;> first | exact absurd rfl h1 | exact absurd rfl h2 | simp [binV]
  cases op <;> simp only [cBin]
  case add => exact intsK_eq a b _ _ (fun c m l h1 h2 => by rw [yes c m l h1 h2 (by simp) (by simp), addI_eq]; rfl) (fun c d m l h1 h2 h => no c d m l h1 h2 h (by simp) (by simp))
  case sub => exact intsK_eq a b _ _ (fun c m l h1 h2 => by rw [yes c m l h1 h2 (by simp) (by simp), subI_eq]; rfl) (fun c d m l h1 h2 h => no c d m l h1 h2 h (by simp) (by simp))
  case eql => exact intsK_eq a b _ _ (fun c m l h1 h2 => by rw [yes c m l h1 h2 (by simp) (by simp), eqI_eq]; rfl) (fun c d m l h1 h2 h => no c d m l h1 h2 h (by simp) (by simp))
  case neq => exact intsK_eq a b _ _ (fun c m l h1 h2 => by rw [yes c m l h1 h2 (by simp) (by simp), eqI_eq]; simp only [binI, bne]; cases (m == l) <;> rfl) (fun c d m l h1 h2 h => no c d m l h1 h2 h (by simp) (by simp))
  case lss => exact intsK_eq a b _ _ (fun c m l h1 h2 => by rw [yes c m l h1 h2 (by simp) (by simp), ltI_eq]; rfl) (fun c d m l h1 h2 h => no c d m l h1 h2 h (by simp) (by simp))
  case leq => exact intsK_eq a b _ _ (fun c m l h1 h2 => by rw [yes c m l h1 h2 (by simp) (by simp), leI_eq]; rfl) (fun c d m l h1 h2 h => no c d m l h1 h2 h (by simp) (by simp))
  case gtr => exact intsK_eq a b _ _ (fun c m l h1 h2 => by rw [yes c m l h1 h2 (by simp) (by simp), ltI_eq]; rfl) (fun c d m l h1 h2 h => no c d m l h1 h2 h (by simp) (by simp))
  case geq => exact intsK_eq a b _ _ (fun c m l h1 h2 => by rw [yes c m l h1 h2 (by simp) (by simp), leI_eq]; rfl) (fun c d m l h1 h2 h => no c d m l h1 h2 h (by simp) (by simp))
theorem cBinOp_ok (dst : Option Nat) (op : BinOp) (t u : TypeId) (x y : Operand) (cc : FC) (nm : Nat) (k : KT) (T : TM) (F : FH) : (cBinOp P n dst op t x y).f cc nm k T F = (cGen P pol n dst (.binOp op t x y u)).f cc nm k T F := by
  simp only [cBinOp, cBin_eq]
  exact gen_val (x := binV P op t x y ((cR n x).f T) ((cR n y).f T)) rfl (fun _ => rfl)
theorem cExtract_ok (dst : Option Nat) (t : Operand) (i : Nat) (cc : FC) (nm : Nat) (k : KT) (T : TM) (F : FH) : (cExtract n dst t i).f cc nm k T F = (cGen P pol n dst (.extract t i)).f cc nm k T F := by
  refine gen_val (x := tupO ((cR n t).f T) i) ?_ (fun _ => rfl)
  simp only [evX, aExtract, tupO, vTup_eq, aVal]
  cases (cR n t).f T with
  | tuple vs => simp only [nthV_eq]
  | _ => rfl

theorem cAlloc_ok (chk : Bool) (dst : Option Nat) (t : TypeId) (cc : FC) (nm : Nat) (k : KT) (T : TM) (F : FH) (hf : chk = false → F.tr.get nm = none) :
    (cAlloc P n chk dst t).f cc nm k T F = (cGen P pol n dst (.alloc t)).f cc nm k T F := by
  simp only [cAlloc, cGen, evX, aAlloc]
  cases zeroCells P t with
  | none => rfl
  | some z =>
    simp only [Option.bind_some, new, newK, getF]
    cases chk with
    | false =>
      have := hf rfl
      simp only [this]
      rfl
    | true =>
      cases h : F.tr.get nm with
      | none => rfl
      | some o => rfl

theorem cRead_eq (t : TypeId) (xs : List V) (o : Nat) : (cRead P t).f xs o = readAt P t xs o := by
  simp only [cRead, readAt]
  cases P.underlying t with
  | none => rfl
  | some dd =>
    cases sz P t with
    | none => rfl
    | some m =>
      simp only
      cases aggD dd with
      | false => simp only [cond_false, nthV_eq, Bool.false_eq_true, if_false]
      | true =>
        simp only [cond_true, if_true]
        by_cases h : o + m ≤ xs.length
        · rw [if_pos h, Nat.ble_eq_true_of_le h]; rfl
        · have : Nat.ble (o + m) xs.length = false := by
            rw [Bool.eq_false_iff]; intro e; exact h (Nat.le_of_ble_eq_true e)
          rw [if_neg h, this]; rfl
theorem cLoad_ok (dst : Option Nat) (t : TypeId) (a : Operand) (cc : FC) (nm : Nat) (k : KT) (T : TM) (F : FH) : (cLoad P n dst t a).f cc nm k T F = (cGen P pol n dst (.load t a)).f cc nm k T F := by
  simp only [cLoad, loadK, vPtr_eq, oCells_eq, cGen, evX, aLoad, more_of (P := P) (o := .load t a) (by simp), cRead_eq]
  cases (cR n a).f T with
  | ptr f s o =>
    simp only
    cases getF F f s with
    | none => rfl
    | some q =>
      cases q with
      | cells xs =>
        simp only
        cases readAt P t xs o <;> rfl
      | _ => rfl
  | iptr cs o => simp only; cases readAt P t cs o <;> rfl
  | rptr cs o => simp only; cases readAt P t cs o <;> rfl
  | _ => rfl

theorem brec_eq {α : Type} (x y : α) (b : Bool) : Bool.rec (motive := fun _ => α) x y b = if b then y else x := by cases b <;> rfl
theorem vCells_eq {R : Type} (v : V) (k1 : R) (kc : List V → R) (e : R) : vCells v k1 kc e = match v with
    | .agg cs => if cs.all V.scalar then kc cs else e
    | .bad | .tuple _ => e
    | _ => k1 := by
  cases v with
  | agg cs => exact brec_eq _ _ _
  | _ => rfl
theorem cStore_ok (dst : Option Nat) (t : TypeId) (a x : Operand) (cc : FC) (nm : Nat) (k : KT) (T : TM) (F : FH) : (cStore P n dst t a x).f cc nm k T F = (cGen P pol n dst (.store t a x)).f cc nm k T F := by
  simp only [cStore, cGen, evX, aStore, more_of (P := P) (o := .store t a x) (by simp)]
  cases sz P t with
  | none =>
    simp only
    cases (cR n a).f T with
    | ptr f s o => cases ((cR n x).f T).cells <;> rfl
    | _ => rfl
  | some m =>
    simp only [storeK, vPtr_eq]
    cases (cR n a).f T with
    | ptr f s o =>
      simp only [vCells_eq]
      have one : ∀ v : V, v.cells = some [v] → (oCells (getF F f s) (fun xs => Bool.rec (motive := fun _ => FO) .no (Option.rec (motive := fun _ => FO) .no (fun _ => k ((cP n dst).f T .bad) (wrF F (some (f, s, .cells (setV xs o v))))) (nthV xs o)) (Nat.beq m (nat_lit 1))) .no) =
          stepK pol (match V.ptr f s o, v.cells, some m with
            | .ptr f s o, some cs, some n => (match getF F f s with
              | some (.cells xs) => if cs.length = n ∧ o + n ≤ xs.length then some (.val .bad (some (f, s, .cells (splice xs o cs)))) else none
              | _ => none)
            | _, _, _ => none) none cc (fun v F => k ((cP n dst).f T v) F) T F := by
        intro v hv
        simp only [hv, oCells_eq]
        cases getF F f s with
        | none => rfl
        | some q =>
          cases q with
          | cells xs =>
            simp only [brec_eq, nthV_eq, setV_eq]
            by_cases h : m = 1
            · subst h
              by_cases h2 : o < xs.length
              · rw [List.getElem?_eq_getElem h2, if_pos (show Nat.beq 1 1 = true from rfl), if_pos ⟨rfl, h2⟩, set_splice _ _ _ h2]; rfl
              · rw [List.getElem?_eq_none (by omega), if_pos (show Nat.beq 1 1 = true from rfl), if_neg (fun e => h2 e.2)]; rfl
            · have : Nat.beq m 1 = false := by rw [Bool.eq_false_iff]; intro e; exact h (Nat.eq_of_beq_eq_true e)
              show (if Nat.beq m 1 = true then _ else FO.no) = _
              rw [this, if_neg (by simp), if_neg (fun e => h (by simpa using e.1.symm))]; rfl
          | _ => rfl
      cases (cR n x).f T with
      | bad => rfl
      | tuple l => rfl
      | agg cs =>
        simp only [V.cells]
        by_cases hs : cs.all V.scalar
        · simp only [hs, if_true, oCells_eq]
          cases getF F f s with
          | none => rfl
          | some q =>
            cases q with
            | cells xs =>
              simp only [brec_eq]
              by_cases h : cs.length = m
              · have e : Nat.beq cs.length m = true := by rw [h]; exact Nat.beq_refl m
                by_cases h2 : o + m ≤ xs.length
                · have e2 : Nat.ble (Nat.add o m) xs.length = true := Nat.ble_eq_true_of_le h2
                  rw [e, e2, if_pos rfl, if_pos rfl, if_pos ⟨h, h2⟩]; rfl
                · have e2 : Nat.ble (Nat.add o m) xs.length = false := by rw [Bool.eq_false_iff]; intro q; exact h2 (Nat.le_of_ble_eq_true q)
                  rw [e, e2, if_pos rfl, if_neg (by simp), if_neg (fun q => h2 q.2)]; rfl
              · have e : Nat.beq cs.length m = false := by rw [Bool.eq_false_iff]; intro q; exact h (Nat.eq_of_beq_eq_true q)
                rw [e, if_neg (by simp), if_neg (fun q => h q.1)]; rfl
            | _ => rfl
        · simp only [hs, if_false, Bool.false_eq_true]; rfl
      | _ => exact one _ rfl
    | _ => rfl

theorem cFieldAddr_ok (dst : Option Nat) (t : TypeId) (x : Operand) (i : Nat) (cc : FC) (nm : Nat) (k : KT) (T : TM) (F : FH) : (cFieldAddr P n dst t x i).f cc nm k T F = (cGen P pol n dst (.fieldAddr t x i)).f cc nm k T F := by
  simp only [cFieldAddr, cGen, evX, aFieldAddr, more_of (P := P) (o := .fieldAddr t x i) (by simp)]
  cases P.underlying t with
  | none => rfl
  | some dd =>
    cases dd with
    | struct fs =>
      simp only
      cases fs[i]? with
      | none => rfl
      | some f =>
        simp only
        cases sz P f.type with
        | none => rfl
        | some m =>
          simp only
          by_cases h : m = 0
          · subst h; rfl
          · have e : Nat.beq m 0 = false := by rw [Bool.eq_false_iff]; intro q; exact h (Nat.eq_of_beq_eq_true q)
            rw [e, if_neg h]
            simp only [cond_false, offV, vPtr_eq]
            cases (cR n x).f T <;> rfl
    | _ => rfl
theorem cPart_eq (t : TypeId) (xs : List V) (o : Nat) : (cPart P t).f xs o = partV P t xs o := by
  simp only [cPart, partV]
  cases P.underlying t with
  | none => rfl
  | some dd =>
    cases sz P t with
    | none => rfl
    | some m =>
      simp only
      cases aggD dd with
      | false => simp only [cond_false, nthV_eq, Bool.false_eq_true, if_false]
      | true => rfl
theorem cField_ok (dst : Option Nat) (t : TypeId) (x : Operand) (i : Nat) (cc : FC) (nm : Nat) (k : KT) (T : TM) (F : FH) : (cField P n dst t x i).f cc nm k T F = (cGen P pol n dst (.field t x i)).f cc nm k T F := by
  simp only [cField, cGen, evX, aField, more_of (P := P) (o := .field t x i) (by simp)]
  cases P.underlying t with
  | none => rfl
  | some dd =>
    cases dd with
    | struct fs =>
      simp only
      cases hf : fs[i]? with
      | none =>
        simp only
        cases (cR n x).f T <;> first | rfl | (simp only [hf]; rfl)
      | some f =>
        simp only [aggO, vAgg_eq, cPart_eq]
        cases (cR n x).f T with
        | agg cs =>
          simp only [hf]
          cases partV P f.type cs f.offset <;> rfl
        | _ => rfl
    | _ => rfl
end
end Go.AM.BM
end
