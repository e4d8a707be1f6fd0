/- This file holds in one the texts O35; each says at its head what it proves. -/
import Derived.Test.YtebbgmeomkjibaaG50
set_option linter.unusedSimpArgs false
set_option linter.unusedVariables false
section
/- model: a list of numbers that is filtered again and again, in one slot at a loop's head. -/
set_option maxRecDepth 100000
namespace Go.Proofs.Ytebbgmeomkjibaa
open Go.AM Go.Mod

def AllG (H : Heap) : Prop := ∃ F : AM.Frame, H = [F] ∧ ∀ e ∈ F, ∃ n, e.2 = .grow n
theorem clearF_grow (p : Nat → Nat → Bool) : ∀ (F : AM.Frame), (∀ e ∈ F, ∃ n, e.2 = O.grow n) → clearF p F = true
  | [], _ => rfl
  | (k, o) :: r, h => by
    obtain ⟨n, e⟩ := h (k, o) (by simp)
    simp only at e
    subst e
    simp only [clearF, O.refs, Bool.not_false, Bool.true_and]
    exact clearF_grow p r fun e he => h e (List.mem_cons_of_mem _ he)
theorem fdel_sub (q : Nat → Bool) : ∀ (F : AM.Frame), ∀ e ∈ fdel q F, e ∈ F
  | [], e, h => h
  | (k, o) :: r, e, h => by
    simp only [fdel] at h
    split at h
    · exact List.mem_cons_of_mem _ (fdel_sub q r e h)
    · rcases List.mem_cons.1 h with h | h
      · rw [h]; simp
      · exact List.mem_cons_of_mem _ (fdel_sub q r e h)
theorem AllG.del {H : Heap} (h : AllG H) (q : Nat → Bool) : AllG (H.modify 0 (fdel q)) ∧ ∀ p, clearH p (H.modify 0 (fdel q)) = true := by
  obtain ⟨F, rfl, hF⟩ := h
  have h2 : ∀ e ∈ fdel q F, ∃ n, e.2 = O.grow n := fun e he => hF e (fdel_sub q F e he)
  refine ⟨⟨fdel q F, rfl, h2⟩, fun p => ?_⟩
  show (clearF p (fdel q F) && true) = true
  rw [clearF_grow p _ h2]; rfl
theorem fset_sub (s : Nat) (o : O) : ∀ (F : AM.Frame), ∀ e ∈ fset F s o, e ∈ F ∨ e = (s, o)
  | [], e, h => .inr (by simpa [fset] using h)
  | (k, p) :: r, e, h => by
    simp only [fset] at h
    split at h
    · rcases List.mem_cons.1 h with h | h
      · exact .inr h
      · exact .inl (List.mem_cons_of_mem _ h)
    · split at h
      · rcases List.mem_cons.1 h with h | h
        · exact .inr h
        · exact .inl h
      · rcases List.mem_cons.1 h with h | h
        · exact .inl (by rw [h]; simp)
        · rcases fset_sub s o r e h with h | h
          · exact .inl (List.mem_cons_of_mem _ h)
          · exact .inr h
theorem AllG.put {H : Heap} (h : AllG H) (s n : Nat) : AllG (hset H 0 s (.grow n)) := by
  obtain ⟨F, rfl, hF⟩ := h
  refine ⟨fset F s (.grow n), rfl, fun e he => ?_⟩
  rcases fset_sub s _ F e he with h | h
  · exact hF e h
  · exact ⟨n, by rw [h]⟩
theorem AllG.len {H : Heap} (h : AllG H) : H.length = 1 := by obtain ⟨F, rfl, _⟩ := h; rfl

def InS (ss : List Nat) (H : Heap) (v : V) (l : List Int) : Prop := (v = .nilslice ∧ l = []) ∨ ∃ s ∈ ss, v = .gslice 0 s (ofInts l) l.length 1 ∧ hget H 0 s = some (.grow l.length)
theorem InS.frz {ss : List Nat} {H : Heap} {v : V} {l : List Int} (h : InS ss H v l) : Gr H v (ofInts l) l.length 1 := by
  rcases h with ⟨rfl, rfl⟩ | ⟨s, _, rfl, hg⟩
  · exact .inl ⟨rfl, rfl, rfl⟩
  · exact .inr ⟨0, s, rfl, hg, by simp [ofInts]⟩
theorem by_int : byt Try.prog 3 = some 8 := by kernel_rfl
theorem InS.add {ss : List Nat} {H : Heap} {v : V} {l : List Int} (h : InS ss H v l) (hG : AllG H) (d : Nat) (hd : v = .nilslice → hget H 0 d = none) (n : Int) {mt : Nat → Bool} (hm : mt d = false) (hl : l.length ≤ 900) :
    ∃ v' w, appendV Try.prog mt 0 (hget H) (some d) 34 34 v (.islice [.int .i64 n] 1 true) = some (.val v' w) ∧ InS (d :: ss) (wr H w) v' (l ++ [n]) ∧ AllG (wr H w) ∧ (∀ e, e ≠ d → (v = .nilslice ∨ hget H 0 e = none) → hget (wr H w) 0 e = hget H 0 e) := by
  have hlen := hG.len
  rcases h with ⟨rfl, rfl⟩ | ⟨s, hs, rfl, hg⟩
  · refine ⟨.gslice 0 d [.int .i64 n] 1 1, some (0, d, .grow 1), ?_, .inr ⟨d, by simp, by simp [ofInts], ?_⟩, hG.put d 1, fun e he _ => ?_⟩
    · rw [app_nil Try.underlying34 sz3 by_int zc3 rfl Try.underlying34 (cs := [.int .i64 n]) (m := 1) rfl (by omega) (roomy_of (by omega) (by omega)), grown_im hm rfl (hd rfl)]
    · simp only [wr]; rw [hget_same (by omega)]; rfl
    · simp only [wr]; rw [hget_ne (by omega)]; exact fun q => he q.2
  · have hf := hget_lt hg
    refine ⟨.gslice 0 s (ofInts l ++ [.int .i64 n]) (l.length + 1) 1, some (0, s, .grow (l.length + 1)), ?_, .inr ⟨s, by simp [hs], by simp [ofInts], ?_⟩, hG.put s _, fun e he h2 => ?_⟩
    · exact app_more Try.underlying34 sz3 by_int zc3 rfl Try.underlying34 (cs := [.int .i64 n]) (m := 1) rfl (by omega) (roomy_of (by omega) (by omega)) rfl rfl hg
    · simp only [wr]; rw [hget_same hf]; simp
    · rcases h2 with h2 | h2
      · cases h2
      · simp only [wr]; rw [hget_ne hf]
        rintro ⟨_, rfl⟩
        rw [h2] at hg; cases hg
theorem InS.mono {ss ss' : List Nat} {H : Heap} {v : V} {l : List Int} (h : InS ss H v l) (hs : ∀ s ∈ ss, s ∈ ss') : InS ss' H v l := by
  rcases h with h | ⟨s, h1, h2⟩
  · exact .inl h
  · exact .inr ⟨s, hs s h1, h2⟩
theorem InS.on {ss : List Nat} {H H' : Heap} {v : V} {l : List Int} (h : InS ss H v l) (hk : ∀ s ∈ ss, hget H 0 s ≠ none → hget H' 0 s = hget H 0 s) : InS ss H' v l := by
  rcases h with h | ⟨s, h1, h2, h3⟩
  · exact .inl h
  · exact .inr ⟨s, h1, h2, by rw [hk s h1 (by rw [h3]; simp)]; exact h3⟩

theorem drop_no {H : Heap} {t : List V} {s : Nat} (h : refsL (slotP 0 s) t = false) (hG : AllG H) : dropOne 0 s t H = some (H.modify 0 (fdel fun x => [s].contains x)) := by
  unfold dropOne
  rw [h, (hG.del _).2]; rfl
theorem drop_yes {H : Heap} {t : List V} {s : Nat} (h : refsL (slotP 0 s) t = true) : dropOne 0 s t H = some H := by
  unfold dropOne
  rw [h]; rfl
def stG (v0 v5 v7 v8 v9 : V) : List V := st6_12 v0 v5 v7 v8 v9
theorem refs_stG {v0 v5 v8 : V} {a b : Int} (p : Nat → Nat → Bool) (h0 : v0.refs p = false) (h5 : v5.refs p = false) : refsL p (stG v0 v5 (.int .i64 a) v8 (.int .i64 b)) = v8.refs p := by
  simp only [stG, st6_12, refsL, V.refs, h0, h5, Bool.or_false, Bool.false_or]
theorem map_stG {v0 v5 v8 : V} {a b : Int} {x y : Nat} (h0 : renV 0 x y v0 = v0) (h5 : renV 0 x y v5 = v5) : (stG v0 v5 (.int .i64 a) v8 (.int .i64 b)).map (renV 0 x y) = stG v0 v5 (.int .i64 a) (renV 0 x y v8) (.int .i64 b) := by
  have hb : renV 0 x y .bad = .bad := rfl
  have hi : ∀ n, renV 0 x y (.int .i64 n) = .int .i64 n := fun _ => rfl
  simp only [stG, st6_12, List.map_cons, List.map_nil, h0, h5, hb, hi]
theorem sl_ren {esz n : Nat} {v : V} {cells : List V} (h : IsSl esz v cells n) (x y : Nat) : renV 0 x y v = v := by
  obtain ⟨_, ⟨rfl, _⟩ | ⟨f, rfl⟩⟩ := h <;> rfl

theorem forget_gone {v0 v5 th : V} {a b : Int} {H : Heap} {t : List V} {l : List Int} {c0 c5 : List V} {n0 n5 : Nat} (h0 : IsSl 8 v0 c0 n0) (h5 : IsSl 10 v5 c5 n5)
    (ht : maskT [0, 5, 7, 8, 9] t 0 = stG v0 v5 (.int .i64 a) th (.int .i64 b)) (hG : AllG H) (hI : InS [200, 65, 102] H th l) :
    ∃ th' H', forget pol 6 0 12 t H = some (stG v0 v5 (.int .i64 a) th' (.int .i64 b), H') ∧ AllG H' ∧ InS [200] H' th' l ∧ hget H' 0 65 = none ∧ hget H' 0 102 = none ∧ (th' = .nilslice → hget H' 0 200 = none) := by
  have r0 : ∀ p, v0.refs p = false := fun p => h0.noRefs _
  have r5 : ∀ p, v5.refs p = false := fun p => h5.noRefs _
  have hg1 : ∀ (H : Heap) (ds : List Nat) (s : Nat), hget (H.modify 0 (fdel fun x => ds.contains x)) 0 s = if ds.contains s then none else hget H 0 s := fun H ds s => by
    rw [hget_del]; simp
  have hH1 := hG.del fun x => [29, 34].contains x
  have g1 := hg1 H [29, 34]
  have hI1 : InS [200, 65, 102] (H.modify 0 (fdel fun x => [29, 34].contains x)) th l := hI.on fun s hs _ => by
    rw [g1, if_neg]
    simp only [List.mem_cons, List.not_mem_nil, or_false] at hs
    rcases hs with rfl | rfl | rfl <;> decide
  have tr : th.refs (fun f s => f == 0 && [29, 34].contains s) = false := by
    rcases hI with ⟨rfl, _⟩ | ⟨s, hs, rfl, _⟩
    · rfl
    · simp only [List.mem_cons, List.not_mem_nil, or_false] at hs
      rcases hs with rfl | rfl | rfl <;> rfl
  have e1 : forgetK pol 6 0 12 t H = some (stG v0 v5 (.int .i64 a) th (.int .i64 b), H.modify 0 (fdel fun x => [29, 34].contains x)) := by
    unfold forgetK
    rw [show pol.keep 6 12 = some ([0, 5, 7, 8, 9], [29, 34]) from rfl]
    simp only [ht]
    rw [refs_stG _ (r0 _) (r5 _), tr, hH1.2]; rfl
  clear hI hG g1
  replace hH1 := hH1.1
  generalize H.modify 0 (fdel fun x => [29, 34].contains x) = H1 at *
  have rf : ∀ (s s' : Nat) (cs : List V) (n : Nat), (V.gslice 0 s cs n 1).refs (slotP 0 s') = decide (s = s') := by
    intro s s' cs n
    simp only [V.refs, slotP]
    by_cases e : s = s' <;> simp [e]
  unfold forget
  rw [e1]
  simp only [show pol.move 6 12 = some ([65, 102], 200) from rfl]
  rcases hI1 with ⟨rfl, rfl⟩ | ⟨s, hs, rfl, hg⟩
  · have q : ∀ s, refsL (slotP 0 s) (stG v0 v5 (.int .i64 a) .nilslice (.int .i64 b)) = false := fun s => by rw [refs_stG _ (r0 _) (r5 _)]; rfl
    have a1 := hH1.del fun x => [200].contains x
    have a2 := a1.1.del fun x => [65].contains x
    have a3 := a2.1.del fun x => [102].contains x
    simp only [dropAll, drop_no (q 200) hH1, drop_no (q 65) a1.1, drop_no (q 102) a2.1]
    have k65 : hget (((H1.modify 0 (fdel fun x => [200].contains x)).modify 0 (fdel fun x => [65].contains x)).modify 0 (fdel fun x => [102].contains x)) 0 65 = none := by simp only [hg1]; rfl
    have k102 : hget (((H1.modify 0 (fdel fun x => [200].contains x)).modify 0 (fdel fun x => [65].contains x)).modify 0 (fdel fun x => [102].contains x)) 0 102 = none := by simp only [hg1]; rfl
    have k200 : hget (((H1.modify 0 (fdel fun x => [200].contains x)).modify 0 (fdel fun x => [65].contains x)).modify 0 (fdel fun x => [102].contains x)) 0 200 = none := by simp only [hg1]; rfl
    refine ⟨.nilslice, _, ?_, a3.1, .inl ⟨rfl, rfl⟩, k65, k102, fun _ => k200⟩
    simp only [moveAll, moveOne, k65, k102]
  · simp only [List.mem_cons, List.not_mem_nil, or_false] at hs
    have q : ∀ s', refsL (slotP 0 s') (stG v0 v5 (.int .i64 a) (.gslice 0 s (ofInts l) l.length 1) (.int .i64 b)) = decide (s = s') := fun s' => by rw [refs_stG _ (r0 _) (r5 _)]; exact rf _ _ _ _
    rcases hs with rfl | rfl | rfl
    · have a2 := hH1.del fun x => [65].contains x
      have a3 := a2.1.del fun x => [102].contains x
      simp only [dropAll, drop_yes (q 200), drop_no (q 65) hH1, drop_no (q 102) a2.1]
      have k65 : hget ((H1.modify 0 (fdel fun x => [65].contains x)).modify 0 (fdel fun x => [102].contains x)) 0 65 = none := by simp only [hg1]; rfl
      have k102 : hget ((H1.modify 0 (fdel fun x => [65].contains x)).modify 0 (fdel fun x => [102].contains x)) 0 102 = none := by simp only [hg1]; rfl
      have k200 : hget ((H1.modify 0 (fdel fun x => [65].contains x)).modify 0 (fdel fun x => [102].contains x)) 0 200 = some (.grow l.length) := by simp only [hg1]; exact hg
      refine ⟨_, _, ?_, a3.1, .inr ⟨200, by simp, rfl, k200⟩, k65, k102, fun h => by cases h⟩
      simp only [moveAll, moveOne, k65, k102]
    · have a2 := hH1.del fun x => [200].contains x
      have a3 := a2.1.del fun x => [102].contains x
      simp only [dropAll, drop_yes (q 65), drop_no (q 200) hH1, drop_no (q 102) a2.1]
      have k65 : hget ((H1.modify 0 (fdel fun x => [200].contains x)).modify 0 (fdel fun x => [102].contains x)) 0 65 = some (.grow l.length) := by simp only [hg1]; exact hg
      have k102 : hget ((H1.modify 0 (fdel fun x => [200].contains x)).modify 0 (fdel fun x => [102].contains x)) 0 102 = none := by simp only [hg1]; rfl
      have k200 : hget ((H1.modify 0 (fdel fun x => [200].contains x)).modify 0 (fdel fun x => [102].contains x)) 0 200 = none := by simp only [hg1]; rfl
      replace a3 := a3.1
      generalize ((H1.modify 0 (fdel fun x => [200].contains x)).modify 0 (fdel fun x => [102].contains x)) = H3 at *
      have a4 := a3.del fun x => [65].contains x
      have l4 := a4.1.len
      have m1 : moveOne 0 65 200 (stG v0 v5 (.int .i64 a) (.gslice 0 65 (ofInts l) l.length 1) (.int .i64 b)) H3 = some (stG v0 v5 (.int .i64 a) (.gslice 0 200 (ofInts l) l.length 1) (.int .i64 b), hset (H3.modify 0 (fdel fun x => [65].contains x)) 0 200 (.grow l.length)) := by
        unfold moveOne
        rw [k65, k200]
        simp only [map_stG (sl_ren h0 65 200) (sl_ren h5 65 200), renV, and_self, if_true, refs_stG _ (r0 _) (r5 _), rf, a4.2]
        rfl
      have g65 : hget (hset (H3.modify 0 (fdel fun x => [65].contains x)) 0 200 (.grow l.length)) 0 65 = none := by
        rw [hget_ne (by omega) (by decide), hg1]; rfl
      have g102 : hget (hset (H3.modify 0 (fdel fun x => [65].contains x)) 0 200 (.grow l.length)) 0 102 = none := by
        rw [hget_ne (by omega) (by decide), hg1]; exact k102
      have g200 : hget (hset (H3.modify 0 (fdel fun x => [65].contains x)) 0 200 (.grow l.length)) 0 200 = some (.grow l.length) := hget_same (by omega)
      refine ⟨_, _, ?_, a4.1.put 200 l.length, .inr ⟨200, by simp, rfl, g200⟩, g65, g102, fun h => by cases h⟩
      simp only [moveAll, m1]
      unfold moveOne
      rw [g102]
    · have a2 := hH1.del fun x => [200].contains x
      have a3 := a2.1.del fun x => [65].contains x
      simp only [dropAll, drop_yes (q 102), drop_no (q 200) hH1, drop_no (q 65) a2.1]
      have k102 : hget ((H1.modify 0 (fdel fun x => [200].contains x)).modify 0 (fdel fun x => [65].contains x)) 0 102 = some (.grow l.length) := by simp only [hg1]; exact hg
      have k65 : hget ((H1.modify 0 (fdel fun x => [200].contains x)).modify 0 (fdel fun x => [65].contains x)) 0 65 = none := by simp only [hg1]; rfl
      have k200 : hget ((H1.modify 0 (fdel fun x => [200].contains x)).modify 0 (fdel fun x => [65].contains x)) 0 200 = none := by simp only [hg1]; rfl
      replace a3 := a3.1
      generalize ((H1.modify 0 (fdel fun x => [200].contains x)).modify 0 (fdel fun x => [65].contains x)) = H3 at *
      have a4 := a3.del fun x => [102].contains x
      have l4 := a4.1.len
      have m1 : moveOne 0 65 200 (stG v0 v5 (.int .i64 a) (.gslice 0 102 (ofInts l) l.length 1) (.int .i64 b)) H3 = some (stG v0 v5 (.int .i64 a) (.gslice 0 102 (ofInts l) l.length 1) (.int .i64 b), H3) := by
        unfold moveOne
        rw [k65]
      have m2 : moveOne 0 102 200 (stG v0 v5 (.int .i64 a) (.gslice 0 102 (ofInts l) l.length 1) (.int .i64 b)) H3 = some (stG v0 v5 (.int .i64 a) (.gslice 0 200 (ofInts l) l.length 1) (.int .i64 b), hset (H3.modify 0 (fdel fun x => [102].contains x)) 0 200 (.grow l.length)) := by
        unfold moveOne
        rw [k102, k200]
        simp only [map_stG (sl_ren h0 102 200) (sl_ren h5 102 200), renV, and_self, if_true, refs_stG _ (r0 _) (r5 _), rf, a4.2]
        rfl
      have g65 : hget (hset (H3.modify 0 (fdel fun x => [102].contains x)) 0 200 (.grow l.length)) 0 65 = none := by
        rw [hget_ne (by omega) (by decide), hg1]; exact k65
      have g102 : hget (hset (H3.modify 0 (fdel fun x => [102].contains x)) 0 200 (.grow l.length)) 0 102 = none := by
        rw [hget_ne (by omega) (by decide), hg1]; rfl
      have g200 : hget (hset (H3.modify 0 (fdel fun x => [102].contains x)) 0 200 (.grow l.length)) 0 200 = some (.grow l.length) := hget_same (by omega)
      refine ⟨_, _, ?_, a4.1.put 200 l.length, .inr ⟨200, by simp, rfl, g200⟩, g65, g102, fun h => by cases h⟩
      simp only [moveAll, m1, m2]
end Go.Proofs.Ytebbgmeomkjibaa
end
