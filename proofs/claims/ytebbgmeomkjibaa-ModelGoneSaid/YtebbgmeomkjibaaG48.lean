/- This file holds in one the texts O26, O27; each says at its head what it proves. -/
import Derived.Test.YtebbgmeomkjibaaG47
set_option linter.unusedSimpArgs false
set_option linter.unusedVariables false
section
/- model: Play. -/
set_option maxRecDepth 100000
namespace Go.Proofs.Ytebbgmeomkjibaa
open Go.AM Go.Mod

attribute [local irreducible] U W lineC

def RepsC : List V → List MReply → Prop
  | cs, [] => cs = []
  | cs, r :: rs => ∃ c d, cs = c ++ d ∧ c.length = 10 ∧ RepV (.agg c) r ∧ RepsC d rs
def CallsC : List V → List MCall → Prop
  | cs, [] => cs = []
  | cs, m :: ms => ∃ dv d, cs = callC m dv ++ d ∧ CallOk m dv ∧ CallsC d ms
theorem RepsC.add {r : MReply} {c : List V} (hl : c.length = 10) (hr : RepV (.agg c) r) : ∀ {rs : List MReply} {cs : List V}, RepsC cs rs → RepsC (cs ++ c) (rs ++ [r])
  | [], cs, h => by
    have : cs = [] := h
    subst this
    exact ⟨c, [], by simp, hl, hr, rfl⟩
  | x :: rs, cs, h => by
    obtain ⟨a, d, rfl, h1, h2, h3⟩ := h
    exact ⟨a, d ++ c, by simp, h1, h2, RepsC.add hl hr h3⟩
theorem RepsC.len : ∀ {rs : List MReply} {cs : List V}, RepsC cs rs → cs.length = rs.length * 10
  | [], cs, h => by
    have : cs = [] := h
    subst this; rfl
  | x :: rs, cs, h => by
    obtain ⟨a, d, rfl, h1, h2, h3⟩ := h
    have := h3.len
    simp only [List.length_append, List.length_cons]; omega
theorem RepsC.at_ : ∀ {rs : List MReply} {cs : List V} {i : Nat} {r : MReply}, RepsC cs rs → rs[i]? = some r → RepV (.agg ((cs.drop (i * 10)).take 10)) r
  | [], cs, i, r, h, hi => by simp at hi
  | x :: rs, cs, 0, r, h, hi => by
    obtain ⟨a, d, rfl, h1, h2, h3⟩ := h
    simp only [List.getElem?_cons_zero, Option.some.injEq] at hi
    subst hi
    rw [Nat.zero_mul, List.drop_zero, List.take_append_of_le_length (by omega), List.take_of_length_le (by omega)]
    exact h2
  | x :: rs, cs, i + 1, r, h, hi => by
    obtain ⟨a, d, rfl, h1, h2, h3⟩ := h
    simp only [List.getElem?_cons_succ] at hi
    rw [show (i + 1) * 10 = a.length + i * 10 by omega, ← List.drop_drop, List.drop_left]
    exact RepsC.at_ h3 hi
theorem CallsC.len : ∀ {ms : List MCall} {cs : List V}, CallsC cs ms → cs.length = ms.length * 8
  | [], cs, h => by
    have : cs = [] := h
    subst this; rfl
  | x :: rs, cs, h => by
    obtain ⟨dv, d, rfl, h1, h2⟩ := h
    have := h2.len
    simp only [List.length_append, List.length_cons, List.length_nil, callC]; omega
theorem CallsC.at_ : ∀ {ms : List MCall} {cs : List V} {i : Nat} {m : MCall}, CallsC cs ms → ms[i]? = some m → ∃ dv, (cs.drop (i * 8)).take 8 = callC m dv ∧ CallOk m dv
  | [], cs, i, r, h, hi => by simp at hi
  | x :: rs, cs, 0, r, h, hi => by
    obtain ⟨dv, d, rfl, h1, h2⟩ := h
    simp only [List.getElem?_cons_zero, Option.some.injEq] at hi
    subst hi
    exact ⟨dv, by rfl, h1⟩
  | x :: rs, cs, i + 1, r, h, hi => by
    obtain ⟨dv, d, rfl, h1, h2⟩ := h
    simp only [List.getElem?_cons_succ] at hi
    rw [show (i + 1) * 8 = (callC x dv).length + i * 8 by simp [callC]; omega, ← List.drop_drop, List.drop_left]
    exact CallsC.at_ h2 hi
theorem IsSl.nfp {esz n : Nat} {v : V} {cells : List V} (h : IsSl esz v cells n) (hp : pureL cells = true) (p : Nat → Nat → Bool) (hn : nfL p cells = true) : v.nf p = true := by
  obtain ⟨_, ⟨rfl, _⟩ | ⟨f, rfl⟩⟩ := h
  · rfl
  · simp only [V.nf, hp, hn, Bool.and_self]
theorem nf_ofBytes (p : Nat → Nat → Bool) (l : Bytes) : nfL p (ofBytes l) = true := by
  rw [nl_iff]; intro x hx; obtain ⟨b, _, rfl⟩ := List.mem_map.1 hx; rfl
theorem IsBytes.nf {v : V} {l : Bytes} (h : IsBytes v l) (p : Nat → Nat → Bool) : v.nf p = true := IsSl.nfp h (pureL_ofBytes l) p (nf_ofBytes p l)

theorem pnf : PNF pol := by
  intro f g hg p fr dst G args x hfr hG ha hx
  simp only [pol] at hg
  split at hg
  · cases hg
    unfold primClone at hx
    split at hx
    · split at hx
      · rename_i hm
        cases hx
        simp only [nfL, V.nf, Bool.and_true, Bool.not_eq_true'] at ha
        exact ⟨by simp [V.nf, hfr], wok_some (hfr _) (hG _ _ _ hm ha)⟩
      · cases hx
    · cases hx
  · split at hg
    · cases hg
      unfold primSortStr at hx
      have srt : ∀ l : List Bytes, (sortedV (l.map .str)).nf p = true := by
        intro l
        unfold sortedV
        split
        · rfl
        · simp only [V.nf, Bool.and_eq_true]
          exact ⟨pureL_strs l, by rw [nl_iff]; intro x hx; obtain ⟨b, _, rfl⟩ := List.mem_map.1 hx; rfl⟩
      repeat (split at hx <;> try cases hx)
      exact ⟨srt _, wok_none⟩
    · split at hg
      · cases hg
        unfold primSortInt at hx
        have srt : ∀ l : List Int, (sortedV (l.map (.int .i64))).nf p = true := by
          intro l
          unfold sortedV
          split
          · rfl
          · simp only [V.nf, Bool.and_eq_true]
            exact ⟨pureL_ints l, by rw [nl_iff]; intro x hx; obtain ⟨b, _, rfl⟩ := List.mem_map.1 hx; rfl⟩
        repeat (split at hx <;> try cases hx)
        exact ⟨srt _, wok_none⟩
      · cases hg

theorem HouseAt.core {H H' : Heap} {h : Hs} {S : MSt} {xs : List Ent} {kl : List (Nat × Nat)} (hh : HouseAt H h S xs kl) (h16 : ∀ x ∈ xs, x.line.objs.length = 16) (hc : ∀ f s o, hget H f s = some o → asideO o = false → hget H' f s = some o) : HouseAt H' h S xs kl := by
  obtain ⟨bs, clk, hm, hb⟩ := hh.lmap
  refine ⟨hc _ _ _ hh.cell rfl, ⟨bs, clk, hc _ _ _ hm rfl, hb⟩, hh.lines, fun x hx => ?_, hh.key, fun i q hq => ?_, hh.klen, hh.apart, hh.kapart⟩
  · obtain ⟨l, b, k, hL⟩ := hh.line x hx
    exact ⟨l, b, k, hL.obs, hc _ _ _ hL.cells (as_line (by rw [hL.obs.len]; exact h16 x hx)), hc _ _ _ hL.names rfl, hL.born⟩
  · obtain ⟨k, h1, h2⟩ := hh.keys i q hq
    exact ⟨k, h1, hc _ _ _ h2 rfl⟩
theorem h16_of {H : Heap} {h : Hs} {S : MSt} {xs : List Ent} {kl : List (Nat × Nat)} (hh : HouseAt H h S xs kl) {n : Nat} (ok : StOk S n) : ∀ x ∈ xs, x.line.objs.length = 16 := fun x hx => (ok.ok (x.id, x.line) (by rw [hh.lines]; exact List.mem_map.2 ⟨x, hx, rfl⟩)).n16

def p7 (f s : Nat) : Bool := f == 0 && [7].contains s
theorem runCalls_len : ∀ (l : List MCall) (S : MSt), (runCalls S l).2.length = l.length
  | [], _ => rfl
  | c :: l, S => by simp [runCalls, runCalls_len l]
theorem runCalls_app : ∀ (l m : List MCall) (S : MSt), runCalls S (l ++ m) = ((runCalls (runCalls S l).1 m).1, (runCalls S l).2 ++ (runCalls (runCalls S l).1 m).2)
  | [], _, _ => rfl
  | c :: l, m, S => by simp [runCalls, runCalls_app l m]
theorem runCalls_ok : ∀ (l : List MCall) (S : MSt) (n : Nat), StOk S n → StOk (runCalls S l).1 (n + l.length)
  | [], S, n, h => h
  | c :: l, S, n, h => by
    have := runCalls_ok l (doCall S c).1 (n + 1) (stOk_do h c)
    simp only [runCalls, List.length_cons]
    rw [show n + (l.length + 1) = n + 1 + l.length by omega]; exact this
theorem emptyOk : StOk emptySt 0 := ⟨by simp [emptySt], by simp [emptySt], by simp [emptySt], by simp [emptySt], by simp [emptySt], by simp [emptySt, ids], by simp [emptySt], by simp [emptySt], by simp [emptySt], by simp [emptySt]⟩

def OutAt (H : Heap) (ov : V) (rs : List MReply) : Prop := (rs = [] ∧ ov = .nilslice ∧ hget H 0 25 = none) ∨ ∃ os, 0 < rs.length ∧ ov = .gslice 0 25 os rs.length 10 ∧ hget H 0 25 = some (.grow rs.length) ∧ RepsC os rs ∧ pureL os = true ∧ (∀ p, nfL p os = true)

theorem onf_refs {p : Nat → Nat → Bool} : ∀ o : O, o.nf p = true → o.refs p = false
  | .cells xs, h => nfL_refs xs h
  | .map es _ _, h => by
    have : ∀ es : List (V × V), nfM p es = true → refsM p es = false := by
      intro es
      induction es with
      | nil => intro _; rfl
      | cons e es ih =>
        obtain ⟨a, b⟩ := e
        intro h
        simp only [nfM, Bool.and_eq_true] at h
        simp [refsM, nf_refs a h.1.1, nf_refs b h.1.2, ih h.2]
    exact this es h
  | .iter (some m) _ _ _, h => by simpa [O.nf, O.refs] using h
  | .iter none _ _ _, _ | .grow _, _ | .dead, _ => rfl
theorem p7_eq (f s : Nat) : p7 f s = (f == 0 && [7].contains s) := rfl
theorem fdel_mem {q : Nat → Bool} {e : Nat × O} : ∀ {l : AM.Frame}, e ∈ fdel q l → e ∈ l ∧ q e.1 = false
  | [], h => by cases h
  | (k, o) :: l, h => by
    simp only [fdel] at h
    split at h
    · have := fdel_mem h; exact ⟨List.mem_cons_of_mem _ this.1, this.2⟩
    · rename_i hq
      rcases List.mem_cons.1 h with rfl | h
      · exact ⟨by simp, by simpa using hq⟩
      · have := fdel_mem h; exact ⟨List.mem_cons_of_mem _ this.1, this.2⟩
theorem ClA.drop7 {H : Heap} (h : ClA p7 H) : (∀ fr ∈ H.modify 0 (fdel fun s => [7].contains s), ∀ e ∈ fr, e.2.nf p7 = true) := by
  intro fr hfr e he
  obtain ⟨f, hf⟩ := List.getElem?_of_mem hfr
  rw [List.getElem?_modify] at hf
  obtain ⟨fr0, h3, h4⟩ := Option.map_eq_some_iff.1 hf
  by_cases e1 : 0 = f
  · subst e1
    simp only [if_true] at h4
    subst h4
    have := fdel_mem he
    exact h 0 fr0 h3 e this.1 (by rw [p7_eq, this.2, Bool.and_false])
  · simp only [e1, if_false] at h4
    subst h4
    exact h f _ h3 e he (by rw [p7_eq]; simp; intro h; exact absurd h.symm e1)
theorem ClA.set7 {H : Heap} (h : ∀ fr ∈ H, ∀ e ∈ fr, e.2.nf p7 = true) (o : O) : ClA p7 (hset H 0 7 o) := by
  intro f fr hfr e he hp
  unfold hset at hfr
  rw [List.getElem?_modify] at hfr
  obtain ⟨fr0, h3, h4⟩ := Option.map_eq_some_iff.1 hfr
  by_cases e1 : 0 = f
  · subst e1
    simp only [if_true] at h4
    subst h4
    rcases fset_mem he with h5 | h5
    · exact h fr0 (List.mem_of_getElem? h3) e h5
    · rw [h5] at hp; cases hp
  · simp only [e1, if_false] at h4
    subst h4
    exact h _ (List.mem_of_getElem? h3) e he
def p25 (f s : Nat) : Bool := f == 0 && s == 25
theorem ClA.wr {p : Nat → Nat → Bool} {H : Heap} (h : ClA p H) {f s : Nat} {o : O} (ho : p f s = true ∨ o.nf p = true) : ClA p (hset H f s o) := by
  intro f' fr hfr e he hp
  unfold hset at hfr
  rw [List.getElem?_modify] at hfr
  obtain ⟨fr0, h3, h4⟩ := Option.map_eq_some_iff.1 hfr
  by_cases e1 : f = f'
  · subst e1
    simp only [if_true] at h4
    subst h4
    rcases fset_mem he with h5 | h5
    · exact h f fr0 h3 e h5 hp
    · subst h5
      rcases ho with ho | ho
      · simp only at hp
        rw [ho] at hp; cases hp
      · exact ho
  · simp only [e1, if_false] at h4
    subst h4
    exact h f' _ h3 e he hp
theorem ClA.del {p : Nat → Nat → Bool} {H : Heap} (h : ClA p H) (k : Nat) (q : Nat → Bool) : ClA p (H.modify k (fdel q)) := by
  intro f' fr hfr e he hp
  rw [List.getElem?_modify] at hfr
  obtain ⟨fr0, h3, h4⟩ := Option.map_eq_some_iff.1 hfr
  by_cases e1 : k = f'
  · subst e1
    simp only [if_true] at h4
    subst h4
    exact h k fr0 h3 e (fdel_mem he).1 hp
  · simp only [e1, if_false] at h4
    subst h4
    exact h f' _ h3 e he hp
theorem RepV.pure {c : List V} {r : MReply} (h : RepV (.agg c) r) : pureL c = true ∧ (∀ p, nfL p c = true) := by
  obtain ⟨a, b, d, h1, h2, h3, h4⟩ := h
  injection h1 with h1
  subst h1
  have hs : ∀ l : List Bytes, pureL (l.map .str) = true := pureL_strs
  have hi := pureL_ofInts r.lines
  have n1 : ∀ p, nfL p ((r.names).map .str) = true := fun p => by rw [nl_iff]; intro x hx; obtain ⟨b, _, rfl⟩ := List.mem_map.1 hx; rfl
  have n2 : ∀ p, nfL p (ofInts r.lines) = true := fun p => by rw [nl_iff]; intro x hx; obtain ⟨b, _, rfl⟩ := List.mem_map.1 hx; rfl
  refine ⟨?_, fun p => ?_⟩
  · simp only [pureL, V.pure, IsSl.pure h2, IsSl.pure h3, IsSl.pure h4, Bool.and_self]
  · simp only [nfL, V.nf, IsBytes.nf h2 p, IsSl.nfp h3 (hs _) p (n1 p), IsSl.nfp h4 hi p (n2 p), Bool.and_self]
theorem fresh0 {K : Heap} (F : Fresh [] 0 K) : K = [[]] := by
  have hl := F.len
  match K, hl with
  | [fr], _ =>
    cases fr with
    | nil => rfl
    | cons e fr =>
      obtain ⟨k, o⟩ := e
      have := F.own k
      simp [hget, fget] at this
theorem by_reply : byt Try.prog 36 = some 136 := by kernel_rfl

theorem play_fz (v : V) (cs : List V) (l : List MCall) (hv : IsSl 8 v cs l.length) (hc : CallsC cs l) : Fz Try.prog pol 7 [v] fun r => ∃ ov os, r = .tuple [ov, .int .i64 (if 64 < l.length then 4 else 0)] ∧
    IsSl 10 ov os (if 64 < l.length then [] else (runCalls emptySt l).2).length ∧ RepsC os (if 64 < l.length then [] else (runCalls emptySt l).2) := by
  refine Fz.of_cr (cr_of Try.func7 rfl ?_)
  intro n K hn F
  have hn0 : n = 0 := hn
  subst hn0
  have len := hv.len Try.underlying30
  simp only [walk, walkL, evOp, quietOp, farOp, nov, gd, rho, putT, wr, Nat.reduceAdd, Nat.reduceSub, Bool.false_eq_true, if_true, if_false, reduceIte, reduceCtorEq, walkM, Int.reduceBEq, Int.reduceBNe, Int.reduceLT, Int.reduceLE, decide_true, decide_false, eq_self, Bool.not_true, Bool.not_false, ↓ev_fa, ↓ev_field, ↓ev_load, ↓ev_store, stO_cells, List.all_cons, List.all_nil, Bool.and_self, Bool.and_true, Try.ntmps7, len]
  refine W.ite (fun h1 => ?_) (fun h1 => ?_)
  · have h1' : 64 < l.length := by have := of_decide_eq_true h1; omega
    simp only [walk, walkL, evOp, quietOp, farOp, nov, gd, rho, putT, wr, Nat.reduceAdd, Nat.reduceSub, Bool.false_eq_true, if_true, if_false, reduceIte, reduceCtorEq, walkM, Int.reduceBEq, Int.reduceBNe, Int.reduceLT, Int.reduceLE, decide_true, decide_false, eq_self, Bool.not_true, Bool.not_false, ↓ev_fa, ↓ev_field, ↓ev_load, ↓ev_store, stO_cells, List.all_cons, List.all_nil, Bool.and_self, Bool.and_true]
    refine W.done (EndK.ret rfl ⟨_, rfl, .nilslice, [], ?_, ?_, ?_⟩)
    · rw [if_pos h1']; rfl
    · rw [if_pos h1']; exact IsSl.nil
    · rw [if_pos h1']; rfl
  · have h1' : ¬ 64 < l.length := by have := of_decide_eq_false h1; omega
    simp only [if_neg h1']
    simp only [walk, walkL, evOp, quietOp, farOp, nov, gd, rho, putT, wr, Nat.reduceAdd, Nat.reduceSub, Bool.false_eq_true, if_true, if_false, reduceIte, reduceCtorEq, walkM, Int.reduceBEq, Int.reduceBNe, Int.reduceLT, Int.reduceLE, decide_true, decide_false, eq_self, Bool.not_true, Bool.not_false, ↓ev_fa, ↓ev_field, ↓ev_load, ↓ev_store, stO_cells, List.all_cons, List.all_nil, Bool.and_self, Bool.and_true, ta7, new, hget_hset', hset_length, and_false, false_and, and_true, true_and, and_self, Nat.reduceEqDiff, Nat.reduceLT, Nat.lt_irrefl, Nat.not_lt_zero, splice, zerosN, fillV, walkB, pureL, V.pure, Nat.reduceMul, Nat.reduceLeDiff, Nat.one_ne_zero, List.take_zero, List.drop_succ_cons, List.drop_zero, List.take_succ_cons, List.replicate_one, List.drop_nil, List.take_nil, Nat.le_refl, Nat.zero_add, Nat.zero_mul, Nat.one_mul, Nat.mul_one, F.own, F.lt, len, Try.underlying44]
    refine W.ul ?_
    have hK := fresh0 F
    subst hK
    refine W.loop (fun (i : Nat) t H1 => ∃ ov, maskT [4, 5, 14, 15, 16] t 0 = st7_6 (.ptr 0 13 0) ov v (.int .i64 l.length) (.int .i64 i) ∧ i ≤ l.length ∧ 0 < H1.length ∧ HouseIn H1 ⟨0, 13, 0, 11⟩ (runCalls emptySt (l.take i)).1 ∧ ClA p7 H1 ∧ ClA p25 H1 ∧ OutAt H1 ov (runCalls emptySt (l.take i)).2 ∧
      (hget H1 0 7 = none ∨ ∃ ys, hget H1 0 7 = some (.cells ys) ∧ ys.length = 8)) (fun i => l.length - i) ?_ 0 ⟨.nilslice, rfl, by omega, by simp [hset], ?_, ?_, ?_, .inl ⟨rfl, rfl, rfl⟩, .inl rfl⟩ rfl
    rotate_left
    · refine ⟨[], [], rfl, ⟨[], 0, rfl, ⟨rfl, List.nodup_nil, by simp⟩⟩, rfl, by simp, by simp, by simp, rfl, .nil, by simp⟩
    · intro f fr hfr e he hp
      match f with
      | 0 =>
        have : fr = [(11, .map [] [] 0), (13, .cells [.int .i64 0, .map 0 11])] := (Option.some.inj hfr).symm
        subst this
        simp only [List.mem_cons, List.not_mem_nil, or_false] at he
        rcases he with rfl | rfl <;> rfl
      | f + 1 => simp [hset] at hfr
    · intro f fr hfr e he hp
      match f with
      | 0 =>
        have : fr = [(11, .map [] [] 0), (13, .cells [.int .i64 0, .map 0 11])] := (Option.some.inj hfr).symm
        subst this
        simp only [List.mem_cons, List.not_mem_nil, or_false] at he
        rcases he with rfl | rfl <;> rfl
      | f + 1 => simp [hset] at hfr
    rintro i t H1 ⟨ov, ht, hi, hlt, ⟨xs, kl, hh⟩, hcl, hcl25, hout, h7⟩
    have ok := runCalls_ok (l.take i) emptySt 0 emptyOk
    rw [Nat.zero_add, List.length_take, Nat.min_eq_left hi] at ok
    have ovr : ov.refs (fun f s => f == 0 && [7].contains s) = false := by
      rcases hout with ⟨_, rfl, _⟩ | ⟨os, _, rfl, _⟩ <;> rfl
    have vr : v.refs (fun f s => f == 0 && [7].contains s) = false := hv.noRefs _
    have hclean := ClA.drop7 hcl
    have hclean25 := ClA.del hcl25 0 (fun s => [7].contains s)
    refine ⟨_, _, forget_drop (kt := [4, 5, 14, 15, 16]) (ds := [7]) rfl ?_ ?_, ?_⟩
    · rw [ht]
      simp only [st7_6, refsL, V.refs, ovr, vr]; rfl
    · refine clear_of _ fun fr hf e he => ?_
      have h3 := onf_refs _ (hclean fr hf e he)
      rw [show p7 = fun f s => f == 0 && [7].contains s from funext fun f => funext fun s => p7_eq f s] at h3
      exact h3
    rw [ht]
    have hg : ∀ f s, hget (H1.modify 0 (fdel fun s => [7].contains s)) f s = if f = 0 ∧ s = 7 then none else hget H1 f s := fun f s => by
      rw [hget_del]
      by_cases h1 : f = 0 <;> by_cases h2 : s = 7 <;> simp [h1, h2]
    have hl2 : 0 < (H1.modify 0 (fdel fun s => [7].contains s)).length := by simpa using hlt
    have h16 := h16_of hh ok
    generalize H1.modify 0 (fdel fun s => [7].contains s) = H2 at *
    have hh2 : HouseAt H2 ⟨0, 13, 0, 11⟩ (runCalls emptySt (l.take i)).1 xs kl := hh.core h16 fun f s o h1 h2 => by
      rw [hg, if_neg]
      · exact h1
      · rintro ⟨rfl, rfl⟩
        rcases h7 with h7 | ⟨ys, h7, hy⟩
        · rw [h7] at h1; cases h1
        · rw [h7] at h1
          cases h1
          simp [asideO, hy] at h2
    have g7 : hget H2 0 7 = none := by rw [hg]; simp
    have g25 : hget H2 0 25 = hget H1 0 25 := by rw [hg]; simp
    simp only [st7_6]
    by_cases h : i < l.length
    · have c1 : decide ((i : Int) < l.length) = true := decide_eq_true (by omega)
      have w1 : (IntKind.i64).wrap ((i : Int) + 1) = ((i + 1 : Nat) : Int) := by rw [wrap_i64] <;> omega
      have at1 := hv.at (k := .i64) Try.underlying30 sz28 (by decide) (i := (i : Int)) (by omega) (by omega)
      obtain ⟨dv, hcell, hok⟩ := hc.at_ (List.getElem?_eq_getElem h)
      have rdc : readAt Try.prog 28 cs ((i : Int).toNat * 8) = some (.agg (callC l[i] dv)) := by
        rw [rd28, if_pos (by rw [hc.len]; have : (i : Int).toNat = i := rfl; omega)]
        exact congrArg (fun x => some (V.agg x)) hcell
      have sdv := IsSl.scalar hok.data
      have stake : runCalls emptySt (l.take (i + 1)) = ((doCall (runCalls emptySt (l.take i)).1 l[i]).1, (runCalls emptySt (l.take i)).2 ++ [(doCall (runCalls emptySt (l.take i)).1 l[i]).2]) := by
        rw [List.take_add_one, List.getElem?_eq_getElem h, Option.toList_some, runCalls_app]; rfl
      simp only [walk, walkL, evOp, quietOp, farOp, nov, gd, rho, putT, wr, Nat.reduceAdd, Nat.reduceSub, Bool.false_eq_true, if_true, if_false, reduceIte, reduceCtorEq, walkM, Int.reduceBEq, Int.reduceBNe, Int.reduceLT, Int.reduceLE, decide_true, decide_false, eq_self, Bool.not_true, Bool.not_false, ↓ev_fa, ↓ev_field, ↓ev_load, ↓ev_store, stO_cells, List.all_cons, List.all_nil, Bool.and_self, Bool.and_true, c1, ta7, new, hget_hset', hset_length, and_false, false_and, and_true, true_and, and_self, Nat.reduceEqDiff, Nat.reduceLT, Nat.lt_irrefl, Nat.not_lt_zero, splice, zerosN, fillV, walkB, pureL, V.pure, Nat.reduceMul, Nat.reduceLeDiff, Nat.one_ne_zero, List.take_zero, List.drop_succ_cons, List.drop_zero, List.take_succ_cons, List.replicate_one, List.drop_nil, List.take_nil, Nat.le_refl, Nat.zero_add, Nat.zero_mul, Nat.one_mul, Nat.mul_one, g7, hl2, ↓at1, ↓rdc, callC, sdv, hset_hset]
      have hh3 : HouseIn (hset H2 0 7 (.cells (callC l[i] dv))) ⟨0, 13, 0, 11⟩ (runCalls emptySt (l.take i)).1 := ⟨xs, kl, hh2.core h16 fun f s o h1 h2 => by
        rw [hget_ne hl2]
        · exact h1
        · rintro ⟨rfl, rfl⟩
          rw [g7] at h1; cases h1⟩
      have hle : i ≤ 1000 := by omega
      have hs3 := do_h _ _ _ i l[i] dv hh3 ok hle hok
      simp only [callC] at hs3
      have hkeep := hs3.keep pnf p7 (fun f s hp => by
        have : f = 0 := by simp [p7] at hp; exact hp.1
        subst this
        simp only [hset_length]; exact hl2) (ClA.set7 hclean _) (by simp only [nfL, V.nf, p7, IsBytes.nf hok.data]; rfl)
      have hkeep2 := hkeep.keep pnf p25 (fun f s hp => by
        have : f = 0 := by simp [p25] at hp; exact hp.1
        subst this
        simp only [hset_length]; exact hl2) (ClA.wr hclean25 (.inr (by simp only [O.nf, nfL, V.nf, IsBytes.nf hok.data]; rfl))) (by simp only [nfL, V.nf, p25, IsBytes.nf hok.data]; rfl)
      refine W.call hkeep2 rfl rfl rfl rfl rfl ?_
      rintro r J ⟨⟨⟨hr, ⟨xs', kl', hj, _⟩, has⟩, hgd, hnf⟩, hgd2, hnf2⟩
      have ln : 0 < J.length := Nat.lt_of_lt_of_le (by simp only [hset_length]; exact hl2) has.len
      have j7 : hget J 0 7 = some (.cells (callC l[i] dv)) := has.get 0 7 _ (hget_same hl2) rfl
      have j25 : ∀ o, hget H1 0 25 = some o → asideO o = true → hget J 0 25 = some o := fun o h1 h2 => has.get 0 25 o (by rw [hget_slot hl2 (by decide), g25]; exact h1) h2
      have j25n : hget H1 0 25 = none → hget J 0 25 = none := fun h1 => by
        rw [hgd2.keep 0 25 rfl, hget_slot hl2 (by decide), g25]; exact h1
      obtain ⟨x3, x4, x10, e1, e2, e5, e6, e7, e8, e9, rfl, s3, s4, s10⟩ := hr.cells
      have hrp := hr.pure
      have hp := hrp.1
      have hcs := hj
      have okJ := runCalls_ok (l.take (i + 1)) emptySt 0 emptyOk
      rw [Nat.zero_add, List.length_take, Nat.min_eq_left (by omega), stake] at okJ
      have h16j := h16_of hj okJ
      simp only [pureL, V.pure, Bool.and_true, Bool.true_and, Bool.and_eq_true] at hp
      rcases hout with ⟨ho1, rfl, ho2⟩ | ⟨os, ho1, rfl, ho2, ho3, ho4, ho5⟩
      · have ap := fun g => app_nil (P := Try.prog) (mt := pol.mt 7) (fr := 0) (dst := some 25) (g := g) (t := 22) (t2 := 22) (x := .islice [.int .i64 e1, .int .i64 e2, x3, x4, .int .i64 e5, .int .u8 e6, .int .i64 e7, .int .i64 e8, .str e9, x10] 1 true) (m := 1) Try.underlying22 sz36 by_reply zc36 rfl Try.underlying22 rfl (by decide) (roomy_of (by decide) (by decide))
        have gi := fun g hg => grown_im (mt := pol.mt 7) (fr := 0) (d := 25) (g := g) (cs := [.int .i64 e1, .int .i64 e2, x3, x4, .int .i64 e5, .int .u8 e6, .int .i64 e7, .int .i64 e8, .str e9, x10]) (chk := [.int .i64 e1, .int .i64 e2, x3, x4, .int .i64 e5, .int .u8 e6, .int .i64 e7, .int .i64 e8, .str e9, x10]) (m := 1) (n := 10) rfl hrp.1 hg
        simp only [walk, walkL, evOp, quietOp, farOp, nov, gd, rho, putT, wr, Nat.reduceAdd, Nat.reduceSub, Bool.false_eq_true, if_true, if_false, reduceIte, reduceCtorEq, walkM, Int.reduceBEq, Int.reduceBNe, Int.reduceLT, Int.reduceLE, decide_true, decide_false, eq_self, Bool.not_true, Bool.not_false, ↓ev_fa, ↓ev_field, ↓ev_load, ↓ev_store, stO_cells, List.all_cons, List.all_nil, Bool.and_self, Bool.and_true, ta7, new, hget_hset', hset_length, and_false, false_and, and_true, true_and, and_self, Nat.reduceEqDiff, Nat.reduceLT, Nat.lt_irrefl, Nat.not_lt_zero, splice, zerosN, fillV, walkB, pureL, V.pure, Nat.reduceMul, Nat.reduceLeDiff, Nat.one_ne_zero, List.take_zero, List.drop_succ_cons, List.drop_zero, List.take_succ_cons, List.replicate_one, List.drop_nil, List.take_nil, Nat.le_refl, Nat.zero_add, Nat.zero_mul, Nat.one_mul, Nat.mul_one, Try.underlying22, s3, s4, s10, hp, bi_append, ↓ap, ↓gi _ (j25n ho2), show pol.mt 7 24 = false from rfl, w1]
        refine W.done ⟨i + 1, ⟨.gslice 0 25 [.int .i64 e1, .int .i64 e2, x3, x4, .int .i64 e5, .int .u8 e6, .int .i64 e7, .int .i64 e8, .str e9, x10] 1 10, rfl, by omega, by simp only [hset_length]; exact ln, ?_, ?_, ?_, ?_, ?_⟩, by omega⟩
        · rw [stake]
          exact ⟨xs', kl', hj.core h16j fun f s o h1 h2 => by
            rw [hget_ne ln]
            · exact h1
            · rintro ⟨rfl, rfl⟩
              rw [j25n ho2] at h1; cases h1⟩
        · exact ClA.wr hgd.ca (.inr rfl)
        · exact ClA.wr hgd2.ca (.inl rfl)
        · rw [stake, ho1]
          exact .inr ⟨[.int .i64 e1, .int .i64 e2, x3, x4, .int .i64 e5, .int .u8 e6, .int .i64 e7, .int .i64 e8, .str e9, x10], by simp, rfl, hget_same ln, ⟨_, [], rfl, rfl, hr, rfl⟩, hrp.1, hrp.2⟩
        · exact .inr ⟨_, (hget_slot ln (by decide)).trans j7, rfl⟩
      · have hk40 : (runCalls emptySt (l.take i)).2.length = i := by rw [runCalls_len, List.length_take]; omega
        have apm := fun g hg => app_more (P := Try.prog) (mt := pol.mt 7) (fr := 0) (dst := some 25) (g := g) (t := 22) (t2 := 22) (x := .islice [.int .i64 e1, .int .i64 e2, x3, x4, .int .i64 e5, .int .u8 e6, .int .i64 e7, .int .i64 e8, .str e9, x10] 1 true) (m := 1) (cs := [.int .i64 e1, .int .i64 e2, x3, x4, .int .i64 e5, .int .u8 e6, .int .i64 e7, .int .i64 e8, .str e9, x10]) (c0 := os) (f := 0) (s := 25) (k := (runCalls emptySt (l.take i)).2.length) Try.underlying22 sz36 by_reply zc36 rfl Try.underlying22 rfl (by decide) (roomy_of (by rw [hk40]; omega) (by rw [hk40]; omega)) hrp.1 (by simp only [List.all_cons, s3, s4, s10]; rfl) hg
        simp only [walk, walkL, evOp, quietOp, farOp, nov, gd, rho, putT, wr, Nat.reduceAdd, Nat.reduceSub, Bool.false_eq_true, if_true, if_false, reduceIte, reduceCtorEq, walkM, Int.reduceBEq, Int.reduceBNe, Int.reduceLT, Int.reduceLE, decide_true, decide_false, eq_self, Bool.not_true, Bool.not_false, ↓ev_fa, ↓ev_field, ↓ev_load, ↓ev_store, stO_cells, List.all_cons, List.all_nil, Bool.and_self, Bool.and_true, ta7, new, hget_hset', hset_length, and_false, false_and, and_true, true_and, and_self, Nat.reduceEqDiff, Nat.reduceLT, Nat.lt_irrefl, Nat.not_lt_zero, splice, zerosN, fillV, walkB, pureL, V.pure, Nat.reduceMul, Nat.reduceLeDiff, Nat.one_ne_zero, List.take_zero, List.drop_succ_cons, List.drop_zero, List.take_succ_cons, List.replicate_one, List.drop_nil, List.take_nil, Nat.le_refl, Nat.zero_add, Nat.zero_mul, Nat.one_mul, Nat.mul_one, Try.underlying22, s3, s4, s10, hp, bi_append, ↓apm _ (j25 _ ho2 rfl), show pol.mt 7 24 = false from rfl, w1]
        refine W.done ⟨i + 1, ⟨.gslice 0 25 (os ++ [.int .i64 e1, .int .i64 e2, x3, x4, .int .i64 e5, .int .u8 e6, .int .i64 e7, .int .i64 e8, .str e9, x10]) ((runCalls emptySt (l.take i)).2.length + 1) 10, rfl, by omega, by simp only [hset_length]; exact ln, ?_, ?_, ?_, ?_, ?_⟩, by omega⟩
        · rw [stake]
          exact ⟨xs', kl', hj.core h16j fun f s o h1 h2 => by
            rw [hget_ne ln]
            · exact h1
            · rintro ⟨rfl, rfl⟩
              rw [j25 _ ho2 rfl] at h1
              cases h1; cases h2⟩
        · exact ClA.wr hgd.ca (.inr rfl)
        · exact ClA.wr hgd2.ca (.inl rfl)
        · rw [stake]
          refine .inr ⟨os ++ [.int .i64 e1, .int .i64 e2, x3, x4, .int .i64 e5, .int .u8 e6, .int .i64 e7, .int .i64 e8, .str e9, x10], by simp, by simp, ?_, ho3.add rfl hr, pl_app ho4 hrp.1, fun p => nl_app (ho5 p) (hrp.2 p)⟩
          rw [hget_same ln]
          simp
        · exact .inr ⟨_, (hget_slot ln (by decide)).trans j7, rfl⟩
    · have e : i = l.length := by omega
      subst e
      have c1 : decide ((l.length : Int) < l.length) = false := decide_eq_false (by omega)
      rw [List.take_length] at hh hout
      simp only [walk, walkL, evOp, quietOp, farOp, nov, gd, rho, putT, wr, Nat.reduceAdd, Nat.reduceSub, Bool.false_eq_true, if_true, if_false, reduceIte, reduceCtorEq, walkM, Int.reduceBEq, Int.reduceBNe, Int.reduceLT, Int.reduceLE, decide_true, decide_false, eq_self, Bool.not_true, Bool.not_false, ↓ev_fa, ↓ev_field, ↓ev_load, ↓ev_store, stO_cells, List.all_cons, List.all_nil, Bool.and_self, Bool.and_true, c1]
      refine W.done ?_
      simp only [walk, walkL, evOp, quietOp, farOp, nov, gd, rho, putT, wr, Nat.reduceAdd, Nat.reduceSub, Bool.false_eq_true, if_true, if_false, reduceIte, reduceCtorEq, walkM, Int.reduceBEq, Int.reduceBNe, Int.reduceLT, Int.reduceLE, decide_true, decide_false, eq_self, Bool.not_true, Bool.not_false, ↓ev_fa, ↓ev_field, ↓ev_load, ↓ev_store, stO_cells, List.all_cons, List.all_nil, Bool.and_self, Bool.and_true]
      rcases hout with ⟨h1, rfl, _⟩ | ⟨os, h1, rfl, _, h2, _⟩
      · refine W.done (EndK.ret rfl ⟨_, rfl, .nilslice, [], rfl, ?_, ?_⟩)
        · rw [h1]; exact IsSl.nil
        · rw [h1]; rfl
      · refine W.done (EndK.ret rfl ⟨_, rfl, .islice os (runCalls emptySt l).2.length false, os, rfl, IsSl.mk h2.len, h2⟩)
end Go.Proofs.Ytebbgmeomkjibaa
end
section
/- model: alive. -/
set_option maxRecDepth 100000
namespace Go.Proofs.Ytebbgmeomkjibaa
open Go.AM Go.Mod
theorem alive_run : callN Try.prog pol 60 9 [] [] = some (.ret (.bool true), []) := by kernel_rfl
theorem alive_fz : Fz Try.prog pol 9 [] fun r => r = .bool true := ⟨.bool true, [], .bool true, callN_W 60 _ _ _ _ alive_run, rfl, rfl⟩
end Go.Proofs.Ytebbgmeomkjibaa
end
