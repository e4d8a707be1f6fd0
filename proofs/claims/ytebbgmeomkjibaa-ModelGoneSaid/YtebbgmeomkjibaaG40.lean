/- This file holds in one the texts O15; each says at its head what it proves. -/
import Derived.Test.YtebbgmeomkjibaaG38
import Derived.Test.YtebbgmeomkjibaaG39
set_option linter.unusedSimpArgs false
set_option linter.unusedVariables false
section
/- model: the house in the heap. -/
set_option maxRecDepth 100000
namespace Go.Proofs.Ytebbgmeomkjibaa
open Go.AM Go.Mod

structure Hs where
  f : Nat
  s : Nat
  mf : Nat
  ms : Nat
structure Ent where
  id : Int
  line : MLine
  loc : Loc
def linesOf (xs : List Ent) : List (Int × MLine) := xs.map fun x => (x.id, x.line)
def encL (xs : List Ent) : List (V × V) := xs.map fun x => (.int .i64 x.id, .ptr x.loc.f x.loc.s 0)
def entOf : List Ent → Int → Option Ent
  | [], _ => none
  | x :: l, i => if i = x.id then some x else entOf l i
def Apart (x y : Ent) : Prop := ¬ (x.loc.f = y.loc.f ∧ x.loc.s = y.loc.s) ∧ ¬ (x.loc.nf = y.loc.nf ∧ x.loc.ns = y.loc.ns)
theorem Apart.symm {x y : Ent} (h : Apart x y) : Apart y x := ⟨fun e => h.1 ⟨e.1.symm, e.2.symm⟩, fun e => h.2 ⟨e.1.symm, e.2.symm⟩⟩

structure HouseAt (H : Heap) (h : Hs) (S : MSt) (xs : List Ent) (kl : List (Nat × Nat)) : Prop where
  cell : hget H h.f h.s = some (.cells [.int .i64 S.last, .map h.mf h.ms])
  lmap : ∃ bs clk, hget H h.mf h.ms = some (.map (encL xs) bs clk) ∧ Born xs.length bs clk
  lines : S.lines = linesOf xs
  line : ∀ x ∈ xs, LineIn H x.loc x.line
  key : ∀ x ∈ xs, kl[x.line.key]? = some (x.loc.kf, x.loc.ks)
  keys : ∀ (i : Nat) (q : Nat × Nat), kl[i]? = some q → ∃ k, S.keys[i]? = some k ∧ hget H q.1 q.2 = some (.cells [.str k.pass, .bool k.loaded])
  klen : kl.length = S.keys.length
  apart : xs.Pairwise Apart
  kapart : kl.Nodup
def HouseIn (H : Heap) (h : Hs) (S : MSt) : Prop := ∃ xs kl, HouseAt H h S xs kl
def HouseOut (H H' : Heap) (h : Hs) (S : MSt) : Prop := ∃ xs kl, HouseAt H' h S xs kl ∧ ∀ q ∈ kl, (∃ ys : List V, hget H q.1 q.2 = some (.cells ys) ∧ ys.length = 2) ∨ ∃ x ∈ xs, x.loc.kf = q.1 ∧ x.loc.ks = q.2
theorem HouseAt.kOut {H : Heap} {h : Hs} {S : MSt} {xs : List Ent} {kl : List (Nat × Nat)} (hh : HouseAt H h S xs kl) {xs' : List Ent} : ∀ q ∈ kl, (∃ ys : List V, hget H q.1 q.2 = some (.cells ys) ∧ ys.length = 2) ∨ ∃ x ∈ xs', x.loc.kf = q.1 ∧ x.loc.ks = q.2 := by
  intro q hq
  obtain ⟨i, hi, e⟩ := List.getElem_of_mem hq
  obtain ⟨k, _, h2⟩ := hh.keys i q (by rw [List.getElem?_eq_getElem hi, e])
  exact .inl ⟨_, h2, rfl⟩

theorem entOf_mem {l : List Ent} {i : Int} {x : Ent} (h : entOf l i = some x) : x ∈ l ∧ x.id = i := by
  induction l with
  | nil => cases h
  | cons y l ih =>
    simp only [entOf] at h
    split at h
    · rename_i e; cases h; exact ⟨by simp, e.symm⟩
    · exact ⟨List.mem_cons_of_mem _ (ih h).1, (ih h).2⟩
theorem lineOf_ent (l : List Ent) (i : Int) : lineOf (linesOf l) i = (entOf l i).map (·.line) := by
  induction l with
  | nil => rfl
  | cons x l ih =>
    simp only [linesOf, List.map_cons] at ih ⊢
    simp only [lineOf, entOf]
    split
    · rfl
    · exact ih
theorem findKey_lines (i : Int) : ∀ (l : List Ent) (j : Nat), ∃ k, findKey (.int .i64 i) (encL l) j = some ((entOf l i).map fun x => (k, .ptr x.loc.f x.loc.s 0))
  | [], j => ⟨0, rfl⟩
  | x :: l, j => by
    simp only [encL, List.map_cons, findKey, keyEq, entOf, if_true]
    by_cases h : i = x.id
    · subst h; exact ⟨j, by simp⟩
    · have : (i == x.id) = false := by simpa using h
      obtain ⟨k, hk⟩ := findKey_lines i l (j + 1)
      exact ⟨k, by simp only [this, h, if_false]; exact hk⟩
theorem lookup_lines {g : Get} {mf ms : Nat} {l : List Ent} {bs : List Nat} {clk : Nat} (h : g mf ms = some (.map (encL l) bs clk)) (i : Int) :
    lookupV Try.prog g 44 (.map mf ms) (.int .i64 i) false = some (match entOf l i with | some x => .ptr x.loc.f x.loc.s 0 | none => .nilptr) := by
  have z : zer Try.prog 57 = some (.pointer none) := by kernel_rfl
  obtain ⟨k, hk⟩ := findKey_lines i l 0
  simp only [lookupV, Try.underlying44, Try.underlying3, z, plainKey, if_true, h, hk]
  cases entOf l i <;> rfl

section
variable {H H' : Heap} {h : Hs} {S : MSt} {xs : List Ent} {kl : List (Nat × Nat)} {x y : Ent}

theorem LineIn.same {a : Loc} {L : MLine} (hl : LineIn H a L) (h1 : hget H' a.f a.s = hget H a.f a.s) (h2 : hget H' a.nf a.ns = hget H a.nf a.ns) : LineIn H' a L := by
  obtain ⟨l, bs, clk, q⟩ := hl
  exact ⟨l, bs, clk, q.obs, h1.trans q.cells, h2.trans q.names, q.born⟩
theorem cells_len {f s f' s' : Nat} {xs ys : List V} (h1 : hget H f s = some (.cells xs)) (h2 : hget H f' s' = some (.cells ys)) (hl : xs.length ≠ ys.length) : ¬ (f = f' ∧ s = s') := by
  rintro ⟨rfl, rfl⟩
  rw [h1] at h2
  cases h2; exact hl rfl
theorem HouseAt.d1 (hh : HouseAt H h S xs kl) (hx : x ∈ xs) : ¬ (h.f = x.loc.f ∧ h.s = x.loc.s) := by
  obtain ⟨l, bs, clk, q⟩ := hh.line x hx
  exact cells_len hh.cell q.cells (by rw [lc_len]; simp only [List.length_cons, List.length_nil]; omega)
theorem HouseAt.d2 (hh : HouseAt H h S xs kl) (hx : x ∈ xs) : ¬ (h.f = x.loc.nf ∧ h.s = x.loc.ns) := by
  obtain ⟨l, bs, clk, q⟩ := hh.line x hx
  exact map_cells_ne hh.cell q.names
theorem HouseAt.d3 (hh : HouseAt H h S xs kl) (hx : x ∈ xs) : ¬ (h.mf = x.loc.f ∧ h.ms = x.loc.s) := by
  obtain ⟨l, bs, clk, q⟩ := hh.line x hx
  obtain ⟨b, c, hm, _⟩ := hh.lmap
  exact map_cells_ne' q.cells hm
theorem HouseAt.d4 (hh : HouseAt H h S xs kl) (hx : x ∈ xs) : ¬ (h.mf = x.loc.nf ∧ h.ms = x.loc.ns) := by
  obtain ⟨l, bs, clk, q⟩ := hh.line x hx
  obtain ⟨b, c, hm, _⟩ := hh.lmap
  rintro ⟨e1, e2⟩
  have q2 := q.names
  rw [← e1, ← e2, hm] at q2
  have e3 : encL xs = encN x.line.names := by injection q2 with q2; injection q2
  cases xs with
  | nil => cases hx
  | cons y ys =>
    cases hn : x.line.names with
    | nil => rw [hn] at e3; simp [encL, encN] at e3
    | cons z zs => rw [hn] at e3; simp [encL, encN] at e3
theorem HouseAt.d6 (hh : HouseAt H h S xs kl) (hx : x ∈ xs) {i : Nat} {q : Nat × Nat} (hq : kl[i]? = some q) : ¬ (q.1 = x.loc.f ∧ q.2 = x.loc.s) ∧ ¬ (q.1 = x.loc.nf ∧ q.2 = x.loc.ns) := by
  obtain ⟨l, bs, clk, p⟩ := hh.line x hx
  obtain ⟨k, _, hk⟩ := hh.keys i q hq
  exact ⟨cells_len hk p.cells (by rw [lc_len]; simp only [List.length_cons, List.length_nil]; omega), map_cells_ne hk p.names⟩
theorem LineIn.apartNC {a b : Loc} {L M : MLine} (h1 : LineIn H a L) (h2 : LineIn H b M) : ¬ (a.f = b.nf ∧ a.s = b.ns) := by
  obtain ⟨_, _, _, p⟩ := h1
  obtain ⟨_, _, _, q⟩ := h2
  exact map_cells_ne p.cells q.names
theorem LineIn.lt {a : Loc} {L : MLine} (h1 : LineIn H a L) : a.f < H.length ∧ a.nf < H.length := by
  obtain ⟨_, _, _, p⟩ := h1
  exact ⟨hget_lt p.cells, hget_lt p.names⟩
theorem HouseAt.low (hh : HouseAt H h S xs kl) (c : ∀ f s, f < H.length → hget H' f s = hget H f s) : HouseAt H' h S xs kl := by
  obtain ⟨bs, clk, hm, hb⟩ := hh.lmap
  exact ⟨(c _ _ (hget_lt hh.cell)).trans hh.cell, ⟨bs, clk, (c _ _ (hget_lt hm)).trans hm, hb⟩, hh.lines, fun x hx => (hh.line x hx).same (c _ _ (hh.line x hx).lt.1) (c _ _ (hh.line x hx).lt.2), hh.key,
    fun i q hq => by obtain ⟨k, h1, h2⟩ := hh.keys i q hq; exact ⟨k, h1, (c _ _ (hget_lt h2)).trans h2⟩, hh.klen, hh.apart, hh.kapart⟩
theorem HouseAt.ch (hh : HouseAt H h S xs kl) (c : Ch H H' []) : HouseAt H' h S xs kl := hh.low fun f s hf => c.get f s hf

def putE : List Ent → Int → MLine → Loc → List Ent
  | [], _, _, _ => []
  | x :: l, i, L, a => if i = x.id then ⟨x.id, L, a⟩ :: l else x :: putE l i L a
theorem putE_lines (l : List Ent) (i : Int) (L : MLine) (a : Loc) : linesOf (putE l i L a) = putL (linesOf l) i L := by
  induction l with
  | nil => rfl
  | cons x l ih =>
    simp only [putE, linesOf, List.map_cons, putL] at ih ⊢
    split
    · rfl
    · rw [List.map_cons, ih]
theorem putE_mem {l : List Ent} {i : Int} {L : MLine} {a : Loc} (hu : l.Pairwise fun x y => x.id ≠ y.id) (hx : entOf l i = some x) {y : Ent} (h : y ∈ putE l i L a) : y = ⟨x.id, L, a⟩ ∨ (y ∈ l ∧ y.id ≠ i) := by
  induction l with
  | nil => cases h
  | cons z l ih =>
    simp only [entOf] at hx
    simp only [putE] at h
    obtain ⟨hu1, hu2⟩ := List.pairwise_cons.1 hu
    split at hx
    · rename_i e
      cases hx
      rw [if_pos e] at h
      rcases List.mem_cons.1 h with rfl | h
      · left; rfl
      · right; exact ⟨List.mem_cons_of_mem _ h, by rw [e]; exact (hu1 y h).symm⟩
    · rename_i e
      rw [if_neg e] at h
      rcases List.mem_cons.1 h with rfl | h
      · right; exact ⟨by simp, fun e2 => e e2.symm⟩
      · rcases ih hu2 hx h with h | h
        · left; exact h
        · right; exact ⟨List.mem_cons_of_mem _ h.1, h.2⟩
theorem putE_enc (l : List Ent) (i : Int) (L : MLine) (a : Loc) (hx : entOf l i = some x) (hf : a.f = x.loc.f) (hs : a.s = x.loc.s) : encL (putE l i L a) = encL l := by
  induction l with
  | nil => rfl
  | cons z l ih =>
    simp only [entOf] at hx
    simp only [putE]
    split at hx
    · rename_i e
      cases hx
      rw [if_pos e]
      simp only [encL, List.map_cons, hf, hs]
    · rename_i e
      rw [if_neg e]
      simp only [encL, List.map_cons] at ih ⊢
      rw [ih hx]
theorem putE_len (l : List Ent) (i : Int) (L : MLine) (a : Loc) : (putE l i L a).length = l.length := by
  induction l with
  | nil => rfl
  | cons z l ih => simp only [putE]; split <;> simp [ih]
theorem putE_apart {l : List Ent} {i : Int} {L : MLine} {a : Loc} (hx : entOf l i = some x) (h : l.Pairwise Apart) (hu : l.Pairwise fun x y => x.id ≠ y.id) (ha : ∀ y ∈ l, y.id ≠ i → Apart ⟨x.id, L, a⟩ y) : (putE l i L a).Pairwise Apart := by
  induction l with
  | nil => exact .nil
  | cons z l ih =>
    obtain ⟨h1, h2⟩ := List.pairwise_cons.1 h
    obtain ⟨u1, u2⟩ := List.pairwise_cons.1 hu
    simp only [entOf] at hx
    simp only [putE]
    split at hx
    · rename_i e
      cases hx
      rw [if_pos e]
      exact List.pairwise_cons.2 ⟨fun y hy => ha y (List.mem_cons_of_mem _ hy) (by rw [e]; exact (u1 y hy).symm), h2⟩
    · rename_i e
      rw [if_neg e]
      refine List.pairwise_cons.2 ⟨fun y hy => ?_, ih hx h2 u2 fun y hy => ha y (List.mem_cons_of_mem _ hy)⟩
      rcases putE_mem u2 hx hy with rfl | ⟨hy, _⟩
      · exact (ha z (by simp) (fun e2 => e e2.symm)).symm
      · exact h1 y hy
theorem ids_ent (l : List Ent) : (ids (linesOf l)).Nodup → l.Pairwise fun x y => x.id ≠ y.id := by
  intro h
  unfold List.Nodup ids linesOf at h
  rw [List.map_map, List.pairwise_map] at h
  exact h
theorem HouseAt.uniq (hh : HouseAt H h S xs kl) {n : Nat} (ok : StOk S n) : xs.Pairwise fun x y => x.id ≠ y.id := ids_ent xs (by rw [← hh.lines]; exact ok.uniq)
theorem pair_of {l : List Ent} {R : Ent → Ent → Prop} (hs : ∀ a b, R a b → R b a) (h : l.Pairwise R) {a b : Ent} (ha : a ∈ l) (hb : b ∈ l) (hn : a.id ≠ b.id) : R a b := by
  induction l with
  | nil => cases ha
  | cons z l ih =>
    obtain ⟨h1, h2⟩ := List.pairwise_cons.1 h
    rcases List.mem_cons.1 ha with rfl | ha'
    · rcases List.mem_cons.1 hb with rfl | hb'
      · exact absurd rfl hn
      · exact h1 b hb'
    · rcases List.mem_cons.1 hb with rfl | hb'
      · exact hs _ _ (h1 a ha')
      · exact ih h2 ha' hb'

theorem HouseAt.line_upd (hh : HouseAt H h S xs kl) (hu : xs.Pairwise fun x y => x.id ≠ y.id) {i : Int} (hx : entOf xs i = some x) {L' : MLine} (hl : LineIn H' x.loc L') (r : Rest H H' x.loc) (hk : L'.key = x.line.key) :
    HouseAt H' h { S with lines := putL S.lines i L' } (putE xs i L' x.loc) kl := by
  have hm := entOf_mem hx
  obtain ⟨bs, clk, hmap, hb⟩ := hh.lmap
  refine ⟨(r.get _ _ (hget_lt hh.cell) (hh.d1 hm.1) (hh.d2 hm.1)).trans hh.cell, ⟨bs, clk, ?_, by rw [putE_len]; exact hb⟩, by rw [putE_lines, hh.lines], fun y hy => ?_, fun y hy => ?_, fun j q hq => ?_, hh.klen, ?_, hh.kapart⟩
  · rw [putE_enc xs i L' x.loc hx rfl rfl]
    exact (r.get _ _ (hget_lt hmap) (hh.d3 hm.1) (hh.d4 hm.1)).trans hmap
  · rcases putE_mem hu hx hy with rfl | ⟨hy, hne⟩
    · exact hl
    · have ap : Apart y x := pair_of (fun _ _ h => h.symm) hh.apart hy hm.1 (by rw [hm.2]; exact hne)
      have ly := hh.line y hy
      have lx := hh.line x hm.1
      refine ly.same (r.get _ _ ly.lt.1 ap.1 (ly.apartNC lx)) (r.get _ _ ly.lt.2 (fun e => lx.apartNC ly ⟨e.1.symm, e.2.symm⟩) ap.2)
  · rcases putE_mem hu hx hy with rfl | ⟨hy, hne⟩
    · simp only [hk]; exact hh.key x hm.1
    · exact hh.key y hy
  · obtain ⟨k, h1, h2⟩ := hh.keys j q hq
    have d := hh.d6 hm.1 hq
    exact ⟨k, h1, (r.get _ _ (hget_lt h2) d.1 d.2).trans h2⟩
  · refine putE_apart hx hh.apart hu fun y hy hne => ?_
    have ap : Apart x y := pair_of (fun _ _ h => h.symm) hh.apart hm.1 hy (by rw [hm.2]; exact fun e => hne e.symm)
    exact ap

theorem HouseAt.line_new (hh : HouseAt H h S xs kl) (hu : xs.Pairwise fun x y => x.id ≠ y.id) {i : Int} (hx : entOf xs i = some x) {L' : MLine} {nf ns : Nat} (hnf : H.length ≤ nf) (hl : LineIn H' ⟨x.loc.f, x.loc.s, nf, ns, x.loc.kf, x.loc.ks⟩ L')
    (r : ∀ f s, f < H.length → ¬ (f = x.loc.f ∧ s = x.loc.s) → hget H' f s = hget H f s) (hk : L'.key = x.line.key) :
    HouseAt H' h { S with lines := putL S.lines i L' } (putE xs i L' ⟨x.loc.f, x.loc.s, nf, ns, x.loc.kf, x.loc.ks⟩) kl := by
  have hm := entOf_mem hx
  obtain ⟨bs, clk, hmap, hb⟩ := hh.lmap
  refine ⟨(r _ _ (hget_lt hh.cell) (hh.d1 hm.1)).trans hh.cell, ⟨bs, clk, ?_, by rw [putE_len]; exact hb⟩, by rw [putE_lines, hh.lines], fun y hy => ?_, fun y hy => ?_, fun j q hq => ?_, hh.klen, ?_, hh.kapart⟩
  · rw [putE_enc xs i L' ⟨x.loc.f, x.loc.s, nf, ns, x.loc.kf, x.loc.ks⟩ hx rfl rfl]
    exact (r _ _ (hget_lt hmap) (hh.d3 hm.1)).trans hmap
  · rcases putE_mem hu hx hy with rfl | ⟨hy, hne⟩
    · exact hl
    · have ap : Apart y x := pair_of (fun _ _ h => h.symm) hh.apart hy hm.1 (by rw [hm.2]; exact hne)
      have ly := hh.line y hy
      have lx := hh.line x hm.1
      refine ly.same (r _ _ ly.lt.1 ap.1) (r _ _ ly.lt.2 (fun e => lx.apartNC ly ⟨e.1.symm, e.2.symm⟩))
  · rcases putE_mem hu hx hy with rfl | ⟨hy, hne⟩
    · simp only [hk]; exact hh.key x hm.1
    · exact hh.key y hy
  · obtain ⟨k, h1, h2⟩ := hh.keys j q hq
    have d := hh.d6 hm.1 hq
    exact ⟨k, h1, (r _ _ (hget_lt h2) d.1).trans h2⟩
  · refine putE_apart hx hh.apart hu fun y hy hne => ?_
    have ap : Apart x y := pair_of (fun _ _ h => h.symm) hh.apart hm.1 hy (by rw [hm.2]; exact fun e => hne e.symm)
    have ly := hh.line y hy
    exact ⟨ap.1, fun e => by have := ly.lt.2; simp only at e; omega⟩

theorem HouseAt.key_upd (hh : HouseAt H h S xs kl) {i : Nat} {q : Nat × Nat} {k : MKey} (hq : kl[i]? = some q) (hk : S.keys[i]? = some k) {b : Bool} (c : Ch H H' [(q.1, q.2, .cells [.str k.pass, .bool b])]) :
    HouseAt H' h { S with keys := S.keys.set i { k with loaded := b } } xs kl := by
  obtain ⟨bs, clk, hm, hb⟩ := hh.lmap
  obtain ⟨k', hk', hc⟩ := hh.keys i q hq
  have e : k' = k := by rw [hk] at hk'; exact (Option.some.inj hk').symm
  subst e
  have oth : ∀ {f s : Nat} {o : O}, hget H f s = some o → ¬ (f = q.1 ∧ s = q.2) → hget H' f s = some o := fun {f s o} hg hne => c.other hg (hget_lt hg) (by intro w hw; rw [List.mem_singleton.1 hw]; exact hne)
  have oth' : ∀ {f s : Nat}, f < H.length → ¬ (f = q.1 ∧ s = q.2) → hget H' f s = hget H f s := fun {f s} hl hne => c.other rfl hl (by intro w hw; rw [List.mem_singleton.1 hw]; exact hne)
  refine ⟨oth hh.cell ?_, ⟨bs, clk, oth hm ?_, hb⟩, hh.lines, fun x hx => ?_, hh.key, fun j p hp => ?_, by simp [hh.klen], hh.apart, hh.kapart⟩
  · rintro ⟨e1, e2⟩
    have := hh.cell
    rw [e1, e2, hc] at this
    cases this
  · exact map_cells_ne' hc hm
  · have lx := hh.line x hx
    have d := hh.d6 hx hq
    exact lx.same (oth' lx.lt.1 fun e => d.1 ⟨e.1.symm, e.2.symm⟩) (oth' lx.lt.2 fun e => d.2 ⟨e.1.symm, e.2.symm⟩)
  · obtain ⟨k2, h1, h2⟩ := hh.keys j p hp
    by_cases e : j = i
    · subst e
      rw [hq] at hp
      cases hp
      refine ⟨{ k' with loaded := b }, ?_, ?_⟩
      · rw [List.getElem?_set, if_pos rfl, if_pos (lt_of_get hk)]
      · rw [c.get _ _ (hget_lt h2)]; simp [lk]
    · refine ⟨k2, by rw [List.getElem?_set, if_neg (fun e2 => e e2.symm)]; exact h1, oth h2 ?_⟩
      rintro ⟨e1, e2⟩
      have hpq : p = q := Prod.ext e1 e2
      subst hpq
      have hi := lt_of_get hp
      have hj := lt_of_get hq
      have := (List.getElem_inj (xs := kl) (h₀ := hi) (h₁ := hj) hh.kapart).1 (by
        rw [List.getElem?_eq_getElem hi] at hp
        rw [List.getElem?_eq_getElem hj] at hq
        rw [Option.some.inj hp, Option.some.inj hq])
      exact e this
theorem HouseAt.keyAt (hh : HouseAt H h S xs kl) (hx : x ∈ xs) : kl[x.line.key]? = some (x.loc.kf, x.loc.ks) ∧ S.keys[x.line.key]? = some (S.keyOf x.line) ∧ hget H x.loc.kf x.loc.ks = some (.cells [.str (S.keyOf x.line).pass, .bool (S.keyOf x.line).loaded]) := by
  have h1 := hh.key x hx
  obtain ⟨k, h2, h3⟩ := hh.keys _ _ h1
  have e : S.keyOf x.line = k := by rw [MSt.keyOf, h2]; rfl
  rw [e]
  exact ⟨h1, h2, h3⟩
end
theorem HouseAt.aside {H : Heap} {h : Hs} {S : MSt} {xs : List Ent} {kl : List (Nat × Nat)} (hh : HouseAt H h S xs kl) {n s : Nat} {ys : List V} {o : O} (hg : hget H n s = some (.cells ys)) (hy : ys.length = 10) (h16 : ∀ x ∈ xs, x.line.objs.length = 16) : HouseAt (hset H n s o) h S xs kl := by
  have hl := hget_lt hg
  obtain ⟨bs, clk, hm, hb⟩ := hh.lmap
  refine ⟨(hget_ne hl (cells_len hh.cell hg (by simp [hy]))).trans hh.cell, ⟨bs, clk, (hget_ne hl (map_cells_ne' hg hm)).trans hm, hb⟩, hh.lines, fun x hx => ?_, hh.key, fun i q hq => ?_, hh.klen, hh.apart, hh.kapart⟩
  · have lx := hh.line x hx
    obtain ⟨l, bs1, clk1, hL⟩ := lx
    have : l.length = 16 := by rw [hL.obs.len]; exact h16 x hx
    exact LineIn.same ⟨l, bs1, clk1, hL⟩ (hget_ne hl (cells_len hL.cells hg (by rw [lc_len, hy]; omega))) (hget_ne hl (map_cells_ne' hg hL.names))
  · obtain ⟨k, h1, h2⟩ := hh.keys i q hq
    exact ⟨k, h1, (hget_ne hl (cells_len h2 hg (by simp [hy]))).trans h2⟩
def asideO : O → Bool
  | .cells ys => !(Nat.beq ys.length 2) && !(Nat.beq ys.length 53)
  | .map _ _ _ => false
  | _ => true
structure Aside (H H' : Heap) : Prop where
  len : H.length ≤ H'.length
  get : ∀ f s o, hget H f s = some o → asideO o = true → hget H' f s = some o
theorem Aside.trans {H K J : Heap} (a : Aside H K) (b : Aside K J) : Aside H J := ⟨Nat.le_trans a.len b.len, fun f s o h1 h2 => b.get f s o (a.get f s o h1 h2) h2⟩
theorem Aside.of_ch {H H' : Heap} {w : List (Nat × Nat × O)} (c : Ch H H' w) (hw : ∀ x ∈ w, ∃ o, hget H x.1 x.2.1 = some o ∧ asideO o = false) : Aside H H' := by
  refine ⟨c.len, fun f s o h1 h2 => c.other h1 (hget_lt h1) fun x hx e => ?_⟩
  obtain ⟨o', h3, h4⟩ := hw x hx
  rw [← e.1, ← e.2, h1] at h3
  cases h3
  rw [h2] at h4; cases h4
theorem Aside.of_ch0 {H H' : Heap} (c : Ch H H' []) : Aside H H' := .of_ch c (by simp)
theorem aside_ne {H : Heap} {f s f' s' : Nat} {o o' : O} (h1 : hget H f s = some o) (h2 : asideO o = true) (h3 : hget H f' s' = some o') (h4 : asideO o' = false) : ¬ (f = f' ∧ s = s') := by
  rintro ⟨rfl, rfl⟩
  rw [h1] at h3
  cases h3
  rw [h2] at h4; cases h4
theorem as_line {a : Loc} {sn : Bool} {ow pr : Int} {l : List Ob} (h : l.length = 16) : asideO (.cells (lineC a sn ow pr l)) = false := by
  simp only [asideO, lc_len, h]; rfl
def HSpec (f : FuncId) (g : MSt → MCall → MSt × MReply) : Prop := ∀ (H : Heap) (h : Hs) (S : MSt) (n : Nat) (c : MCall) (dv : V), HouseIn H h S → StOk S n → n ≤ 1000 → CallOk c dv →
  CR Try.prog pol f [.ptr h.f h.s 0, .agg (callC c dv)] H fun v H' => RepV v (g S c).2 ∧ HouseOut H H' h (g S c).1 ∧ Aside H H'
end Go.Proofs.Ytebbgmeomkjibaa
end
