/- This file holds in one the texts DU, DW, DX, DY, DY2, CTxg; each says at its head what it proves. -/
import Derived.Test.YtdhfapknneljoaaGreatDoorT30
import Derived.Test.YtdhfapknneljoaaGreatDoorT33
import Derived.Test.YtdhfapknneljoaaGreatDoorT35
import Derived.Test.YtdhfapknneljoaaGreatDoorT40
import Derived.Test.YtdhfapknneljoaaGreatDoorT44
import Derived.Test.YtdhfapknneljoaaGreatDoorCards
import Derived.Test.YtdhfapknneljoaaGreatDoorTie
import Derived.ProofKit
import Derived.LaidMore
import Derived.Lay
import Derived.OpenShut
import Derived.SevenTiedAt
import Derived.Stop.Joined
set_option linter.unusedSimpArgs false
set_option linter.unusedVariables false
section
/- dev: Check and left, by plain functions. -/
set_option maxRecDepth 100000
namespace Go.Proofs.YtdhfapknneljoaaGreatDoor
open Go.AM Go.AM.BM
attribute [local irreducible] U W

theorem check_nil : CW Tryz.prog polD 15 [.agg [.nilslice, .nilslice]] [] fun x _ => x = .ret (.int .i64 8) := by
  refine cw_of Tryz.func15 rfl ?_
  have l1 : ∀ g, lenV Tryz.prog g 23 .nilslice = some (.int .i64 0) := fun g => IsSl.nil (esz := 1) |>.len Tryz.underlying23 g
  have l2 : ∀ g, lenV Tryz.prog g 24 .nilslice = some (.int .i64 0) := fun g => IsSl.nil (esz := 2) |>.len Tryz.underlying24 g
  simp only [walk, walkL, evOp, quietOp, farOp, nov, gd, rho, putT, wr, Nat.reduceAdd, Nat.reduceSub, Bool.false_eq_true, if_true, if_false, reduceIte, reduceCtorEq, walkM, Int.reduceBEq, Int.reduceBNe, Int.reduceLT, Int.reduceLE, decide_true, decide_false, eq_self, Bool.not_true, Bool.not_false, ↓ev_fa, ↓ev_field, ↓ev_load, ↓ev_store, stO_cells, List.all_cons, List.all_nil, Bool.and_self, Bool.and_true, Tryz.ntmps15, ta15, new, hget, hset, fget, fset, List.modify_zero_cons, List.modify_succ_cons, List.modify_cons, Nat.reduceLT, Nat.reduceEqDiff, Nat.lt_irrefl, Nat.not_lt_zero, Nat.lt_add_one, splice, zerosN, fillV, walkB, pureL, V.pure, Nat.reduceMul, Nat.reduceLeDiff, Nat.one_ne_zero, and_self, and_true, true_and, List.take_zero, List.drop_succ_cons, List.drop_zero, List.take_succ_cons, List.replicate_one, Bool.and_self, Bool.and_true, List.drop_nil, List.take_nil, Nat.le_refl, Nat.zero_add, Nat.zero_mul, Nat.one_mul, Nat.mul_one, l1, l2]
  refine W.ul ?_
  refine W.loopS (kt := [1, 3, 19, 20, 21]) rfl (fun _ : Nat => st15_3 (.ptr 0 1 0) (.bool false) .nilslice (.int .i64 0) (.int .i64 0)) (fun _ => [[(1, .cells [.nilslice, .nilslice])]]) (fun _ => True) (fun i => i) ?_ 0 trivial rfl rfl
  rintro i hi
  simp only [st15_3]
  simp only [walk, walkL, evOp, quietOp, farOp, nov, gd, rho, putT, wr, Nat.reduceAdd, Nat.reduceSub, Bool.false_eq_true, if_true, if_false, reduceIte, reduceCtorEq, walkM, Int.reduceBEq, Int.reduceBNe, Int.reduceLT, Int.reduceLE, decide_true, decide_false, eq_self, Bool.not_true, Bool.not_false, ↓ev_fa, ↓ev_field, ↓ev_load, ↓ev_store, stO_cells, List.all_cons, List.all_nil, Bool.and_self, Bool.and_true]
  refine W.done ?_
  simp only [walk, walkL, evOp, quietOp, farOp, nov, gd, rho, putT, wr, Nat.reduceAdd, Nat.reduceSub, Bool.false_eq_true, if_true, if_false, reduceIte, reduceCtorEq, walkM, Int.reduceBEq, Int.reduceBNe, Int.reduceLT, Int.reduceLE, decide_true, decide_false, eq_self, Bool.not_true, Bool.not_false, ↓ev_fa, ↓ev_field, ↓ev_load, ↓ev_store, stO_cells, List.all_cons, List.all_nil, Bool.and_self, Bool.and_true, ta15, new, hget, hset, fget, fset, List.modify_zero_cons, List.modify_succ_cons, List.modify_cons, Nat.reduceLT, Nat.reduceEqDiff, Nat.lt_irrefl, Nat.not_lt_zero, Nat.lt_add_one, splice, zerosN, fillV, walkB, pureL, V.pure, Nat.reduceMul, Nat.reduceLeDiff, Nat.one_ne_zero, and_self, and_true, true_and, List.take_zero, List.drop_succ_cons, List.drop_zero, List.take_succ_cons, List.replicate_one, Bool.and_self, Bool.and_true, List.drop_nil, List.take_nil, Nat.le_refl, Nat.zero_add, Nat.zero_mul, Nat.one_mul, Nat.mul_one, l1, l2]
  refine W.ul ?_
  refine W.loop (fun (_ : Nat) t H => maskT [3, 33, 34, 35] t 0 = st15_8 (.bool false) .nilslice (.int .i64 0) (.int .i64 0) ∧ H = [[(1, .cells [.nilslice, .nilslice])]]) (fun i => i) ?_ 0 ⟨rfl, rfl⟩ rfl
  rintro i t H ⟨ht, rfl⟩
  have hd : ([[(1, .cells [.nilslice, .nilslice])]] : Heap).modify 0 (fdel fun s => [7].contains s) = [[(1, .cells [.nilslice, .nilslice])]] := rfl
  refine ⟨_, _, forget_drop (kt := [3, 33, 34, 35]) (ds := [7]) rfl ?_ ?_, ?_⟩
  · rw [ht]; rfl
  · rw [hd]; rfl
  rw [ht, hd]
  simp only [st15_8]
  simp only [walk, walkL, evOp, quietOp, farOp, nov, gd, rho, putT, wr, Nat.reduceAdd, Nat.reduceSub, Bool.false_eq_true, if_true, if_false, reduceIte, reduceCtorEq, walkM, Int.reduceBEq, Int.reduceBNe, Int.reduceLT, Int.reduceLE, decide_true, decide_false, eq_self, Bool.not_true, Bool.not_false, ↓ev_fa, ↓ev_field, ↓ev_load, ↓ev_store, stO_cells, List.all_cons, List.all_nil, Bool.and_self, Bool.and_true]
  refine W.done ?_
  simp only [walk, walkL, evOp, quietOp, farOp, nov, gd, rho, putT, wr, Nat.reduceAdd, Nat.reduceSub, Bool.false_eq_true, if_true, if_false, reduceIte, reduceCtorEq, walkM, Int.reduceBEq, Int.reduceBNe, Int.reduceLT, Int.reduceLE, decide_true, decide_false, eq_self, Bool.not_true, Bool.not_false, ↓ev_fa, ↓ev_field, ↓ev_load, ↓ev_store, stO_cells, List.all_cons, List.all_nil, Bool.and_self, Bool.and_true]
  exact W.done (End.ret (v := .int .i64 8) rfl rfl)
theorem kCheck_fz (ys : List V) (v : V) (h : kCheck ys = some v) : FzN Tryz.prog polD 15 ys v := by
  unfold kCheck at h
  split at h
  case h_3 => cases h
  · cases h
    obtain ⟨r, H, e, rfl⟩ := check_nil
    exact ⟨_, _, e, rfl⟩
  · rename_i bv wv _
    split at h
    case h_2 => cases h
    rename_i rv cs hb hw
    obtain ⟨cs, n⟩ := cs
    cases h
    obtain ⟨fl, rfl, h1, h2, h3⟩ := blocksC_ok hb
    obtain ⟨w1, w2, w3, w4, w5⟩ := waitsC_ok hw
    obtain ⟨r, H, e, rfl⟩ := check_cw rv fl _ h1 h2 wv cs n w1 w2 (waA cs) (waD cs) w3 w4
    exact ⟨_, _, e, rfl⟩
end Go.Proofs.YtdhfapknneljoaaGreatDoor
end
section
/- dev: left, by a plain function. -/
set_option maxRecDepth 100000
namespace Go.Proofs.YtdhfapknneljoaaGreatDoor
open Go.AM Go.AM.BM
attribute [local irreducible] U W

def seqN (a : Nat → Int) (dv : Nat → V) : Nat → List V → List V
  | 0, rv => rv
  | i + 1, rv => (seqN a dv i rv).set (a i).toNat (dv i)
theorem seqN_shift (a : Nat → Int) (dv : Nat → V) : ∀ (n : Nat) (rv : List V), seqN a dv (n + 1) rv = seqN (fun j => a (j + 1)) (fun j => dv (j + 1)) n (rv.set (a 0).toNat (dv 0))
  | 0, rv => rfl
  | n + 1, rv => by
    show (seqN a dv (n + 1) rv).set _ _ = _
    rw [seqN_shift a dv n rv]; rfl
theorem seqN_length (a : Nat → Int) (dv : Nat → V) : ∀ (n : Nat) (rv : List V), (seqN a dv n rv).length = rv.length
  | 0, _ => rfl
  | n + 1, rv => by rw [seqN, List.length_set, seqN_length a dv n rv]
theorem seqN_mem (a : Nat → Int) (dv : Nat → V) : ∀ (n : Nat) (rv : List V) (x : V), x ∈ seqN a dv n rv → x ∈ rv ∨ ∃ j, j < n ∧ x = dv j
  | 0, _, x, h => .inl h
  | n + 1, rv, x, h => by
    rcases List.mem_or_eq_of_mem_set h with h | rfl
    · rcases seqN_mem a dv n rv x h with h | ⟨j, hj, e⟩
      · exact .inl h
      · exact .inr ⟨j, by omega, e⟩
    · exact .inr ⟨n, by omega, rfl⟩
def waV (cs : List V) (j : Nat) : V := cs.getD (2 * j + 1) .bad
theorem applyW_seq : ∀ (n : Nat) (cs rv : List V), waitsOk cs = true → cs.length = n * 2 → applyW cs rv = seqN (waA cs) (waV cs) n rv
  | 0, cs, rv, _, h => by
    have : cs = [] := List.length_eq_zero_iff.1 (by omega)
    subst this; rfl
  | n + 1, [], rv, _, h => by simp at h
  | n + 1, [x], rv, _, h => by simp at h; omega
  | n + 1, x :: v :: r, rv, h, hl => by
    unfold waitsOk at h
    split at h
    · rename_i e; cases e
    · rename_i a v' r' e
      cases e
      simp only [Bool.and_eq_true] at h
      have ih := applyW_seq n r (rv.set a.toNat v) h.2 (by simp only [List.length_cons] at hl; omega)
      show applyW r (rv.set a.toNat v) = _
      rw [ih, seqN_shift]
      have e1 : (fun j => waA (.int .i64 a :: v :: r) (j + 1)) = waA r := by
        funext j
        simp only [waA]
        rw [show 2 * (j + 1) = 2 * j + 1 + 1 by omega, List.getD_cons_succ, List.getD_cons_succ]
      have e2 : (fun j => waV (.int .i64 a :: v :: r) (j + 1)) = waV r := by
        funext j
        simp only [waV]
        rw [show 2 * (j + 1) + 1 = 2 * j + 1 + 1 + 1 by omega, List.getD_cons_succ, List.getD_cons_succ]
      rw [e1, e2]; rfl
    · cases h
theorem updL_self : ∀ (L : List (Int × V)) (k : Int) (v : V), (k, v) ∈ updL L k v
  | [], k, v => by simp [updL]
  | (k', v') :: r, k, v => by
    simp only [updL]
    split
    · simp
    · exact List.mem_cons_of_mem _ (updL_self r k v)
theorem updL_keep : ∀ (L : List (Int × V)) (k : Int) (v : V) (x : Int × V), x.1 ≠ k → x ∈ L → x ∈ updL L k v
  | (k', v') :: r, k, v, x, hx, h => by
    simp only [updL]
    rcases List.mem_cons.1 h with rfl | h
    · rw [if_neg (fun e => hx e.symm)]; simp
    · split
      · exact List.mem_cons_of_mem _ h
      · exact List.mem_cons_of_mem _ (updL_keep r k v x hx h)
def applyA (L : List (Int × V)) (rv : List V) : List V := applyS L (List.range L.length) rv
theorem applyA_hit {L : List (Int × V)} (hn : (L.map Prod.fst).Nodup) (h0 : ∀ x ∈ L, 0 ≤ x.1) {x : Int × V} (hx : x ∈ L) {rv : List V} (hl : x.1.toNat < rv.length) : (applyA L rv)[x.1.toNat]? = some x.2 := by
  obtain ⟨b, hb⟩ := List.mem_iff_getElem?.1 hx
  exact applyS_hit L (fun b c k v w h1 h2 => nodup_keys hn b c k v w h1 h2) (fun b k v h => h0 _ (List.mem_of_getElem? h)) (k := x.1) (v := x.2) hb _ rv (List.mem_range.2 (List.getElem?_eq_some_iff.1 hb).1) hl
theorem applyA_miss {L : List (Int × V)} {i : Nat} (h : ∀ x ∈ L, x.1.toNat ≠ i) (rv : List V) : (applyA L rv)[i]? = rv[i]? :=
  applyS_miss L i _ rv fun b _ k v hb => h _ (List.mem_of_getElem? hb)
theorem applyA_upd {L : List (Int × V)} (hn : (L.map Prod.fst).Nodup) (h0 : ∀ x ∈ L, 0 ≤ x.1 ∧ x.1 < 256) (k : Int) (v : V) (k0 : 0 ≤ k) (k1 : k < 256) (rv : List V) (hl : rv.length = 256) : applyA (updL L k v) rv = (applyA L rv).set k.toNat v := by
  have hn2 := updL_nodup L k v hn
  have h2 : ∀ x ∈ updL L k v, 0 ≤ x.1 := fun x hx => by
    rcases updL_mem _ _ _ _ hx with rfl | hx
    · exact k0
    · exact (h0 x hx).1
  have la : (applyA L rv).length = 256 := by rw [applyA, applyS_length, hl]
  apply List.ext_getElem?
  intro i
  by_cases hi : i = k.toNat
  · subst hi
    have := applyA_hit hn2 h2 (updL_self L k v) (rv := rv) (by show k.toNat < _; omega)
    rw [List.getElem?_set, if_pos rfl, if_pos (by omega)]
    exact this
  · rw [List.getElem?_set, if_neg (fun e => hi e.symm)]
    by_cases hx : ∃ x ∈ L, x.1.toNat = i
    · obtain ⟨x, hx, rfl⟩ := hx
      have hk : x.1 ≠ k := fun e => hi (by rw [e])
      have b := h0 x hx
      rw [applyA_hit hn2 h2 (updL_keep L k v x hk hx) (by omega), applyA_hit hn (fun x hx => (h0 x hx).1) hx (by omega)]
    · have hm : ∀ x ∈ L, x.1.toNat ≠ i := fun x hx' e => hx ⟨x, hx', e⟩
      rw [applyA_miss hm, applyA_miss]
      intro x hx'
      rcases updL_mem _ _ _ _ hx' with rfl | h
      · exact fun e => hi e.symm
      · exact hm x h
theorem seqN_last (a : Nat → Int) (dv : Nat → V) (rv : List V) (hl : rv.length = 256) (n : Nat) (ha : ∀ j, j < n → 0 ≤ a j ∧ a j < 256) : ∀ i, i ≤ n → seqN a dv i rv = applyA (lastN a dv i) rv
  | 0, _ => rfl
  | i + 1, hi => by
    have q := ha i (by omega)
    show (seqN a dv i rv).set _ _ = applyA (updL (lastN a dv i) (a i) (dv i)) rv
    rw [applyA_upd (lastN_nodup a dv i) (fun x hx => ?_) (a i) (dv i) q.1 q.2 rv hl, seqN_last a dv rv hl n ha i (by omega)]
    obtain ⟨j, hj, e⟩ := lastN_mem2 a dv i x hx
    rw [e]; exact ha j (by omega)
theorem rows_of (l : List V) (h : ∀ x ∈ l, ∃ c f, x = .islice c 256 f ∧ Row256 c) (hl : l.length = 256) :
    (∀ i, i < 256 → ∃ f, l[i]? = some (.islice (rowC (l.getD i .bad)) 256 f)) ∧ ∀ i, i < 256 → Row256 (rowC (l.getD i .bad)) := by
  have key : ∀ i, i < 256 → ∃ c g, l[i]? = some (.islice c 256 g) ∧ l.getD i .bad = .islice c 256 g ∧ Row256 c := fun i hi => by
    have hl : i < l.length := by omega
    obtain ⟨c, g, e, hr⟩ := h l[i] (List.getElem_mem hl)
    have e1 : l[i]? = some (.islice c 256 g) := by rw [List.getElem?_eq_getElem hl, e]
    exact ⟨c, g, e1, by simp [List.getD, e1], hr⟩
  refine ⟨fun i hi => ?_, fun i hi => ?_⟩
  · obtain ⟨c, g, e1, e2, _⟩ := key i hi
    exact ⟨g, by rw [e1, e2]; rfl⟩
  · obtain ⟨c, g, _, e2, hr⟩ := key i hi
    rw [e2]; exact hr
theorem waitsC_ok' {wv : V} {cs : List V} {n : Nat} (h : waitsC wv = some (cs, n)) : waitsOk cs = true := by
  cases wv with
  | nilslice => cases h; rfl
  | islice xs m f =>
    simp only [waitsC] at h
    split at h
    case isFalse => cases h
    rename_i hc
    cases h
    simp only [Bool.and_eq_true] at hc
    exact hc.2
  | _ => cases h
theorem kLeft_fz (ys : List V) (v : V) (h : kLeft 61 ys = some v) : Fz Tryz.prog polD 60 ys (· = v) := by
  unfold kLeft at h
  split at h
  case h_2 => cases h
  rename_i bv wv f
  split at h
  case isFalse => cases h
  rename_i hf
  cases Nat.eq_of_beq_eq_true hf
  split at h
  case h_2 => cases h
  rename_i rv cs n hb hw
  cases h
  obtain ⟨fl, rfl, h1, h2, h3⟩ := blocksC_ok hb
  obtain ⟨w1, w2, w3, w4, w5⟩ := waitsC_ok hw
  have wok := waitsC_ok' hw
  have wv3 : ∀ j, j < n → ∃ c f, waV cs j = .islice c 256 f ∧ Row256 c ∧ cs[2 * j + 1]? = some (waV cs j) := fun j hj => by
    obtain ⟨_, f, e⟩ := w3 j hj
    have e2 : waV cs j = .islice (waD cs j) 256 f := by simp [waV, List.getD, e]
    exact ⟨_, f, e2, w5 j hj, by rw [e2]; exact e⟩
  have eA : applyW cs rv = applyS (lastN (waA cs) (waV cs) n) (List.range (lastN (waA cs) (waV cs) n).length) rv := by
    rw [applyW_seq n cs rv wok w1.1, seqN_last (waA cs) (waV cs) rv h1 n w4 n (Nat.le_refl n)]; rfl
  have hl2 : (applyW cs rv).length = 256 := by rw [applyW_seq n cs rv wok w1.1, seqN_length, h1]
  have hm : ∀ x ∈ applyW cs rv, ∃ c f, x = .islice c 256 f ∧ Row256 c := fun x hx => by
    rw [applyW_seq n cs rv wok w1.1] at hx
    rcases seqN_mem _ _ n rv x hx with hx | ⟨j, hj, rfl⟩
    · obtain ⟨i, hi⟩ := List.mem_iff_getElem?.1 hx
      have hi2 : i < 256 := by rw [← h1]; exact (List.getElem?_eq_some_iff.1 hi).1
      obtain ⟨f, e⟩ := h2 i hi2
      have := h3 i hi2
      rw [hi] at e
      cases e
      exact ⟨_, f, rfl, this⟩
    · obtain ⟨c, f, e, hc, _⟩ := wv3 j hj
      exact ⟨c, f, e, hc⟩
  obtain ⟨r1, r2⟩ := rows_of _ hm hl2
  have e3 := mkDisk_enc (applyW cs rv) [] 0 hl2 rfl (fun j hj => by omega)
  rw [← e3]
  exact left_fz rv fl _ h1 h2 h3 wv cs n w1 w2 (waA cs) (waV cs) (fun j hj => ⟨(w3 j hj).1, by obtain ⟨_, _, _, _, e⟩ := wv3 j hj; exact e⟩) w4 (fun j hj => by obtain ⟨c, f, e, hc, _⟩ := wv3 j hj; exact ⟨c, f, e, hc⟩) (fun i => rowC ((applyW cs rv).getD i .bad)) (fun i hi => by rw [← eA]; exact r1 i hi) r2
end Go.Proofs.YtdhfapknneljoaaGreatDoor
end
section
/- the machine for closed laws: what it knows of the program, and that it is sound. -/
namespace Go.Proofs.YtdhfapknneljoaaGreatDoor
open Go.AM Go.AM.BM

noncomputable def polX : BM.Pol where
  prim := fun f => match f with
    | 24 => some (conP kTwin) | 15 => some (lookP kCheck) | 56 => some (conP kNew) | 60 => some (conP (kLeft 61)) | 165 => some (lookP kMax) | 127 => some (lookP kSum)
    | 143 => some primMake | 196 => some primCompare | 198 => some primCount | 227 => some primIndexByte | _ => none
  fix := fun f => f == 65
  fixA := fun f => match f with
    | 174 => some 2 | 203 => some 4 | _ => none

theorem xMake : IsExtern Tryz.prog 143 (Extern.BytealgMakeNoZero.makeNoZero Tryz.f143.params Tryz.f143.resultTypes) := ⟨Tryz.f143, Tryz.func143, by kernel_rfl, by kernel_rfl, by kernel_rfl, by kernel_rfl⟩
theorem xCount : IsExtern Tryz.prog 198 Extern.BytealgCount.count := ⟨Tryz.f198, Tryz.func198, by kernel_rfl, by kernel_rfl, by kernel_rfl, by kernel_rfl⟩
theorem xIndex : IsExtern Tryz.prog 227 Extern.BytealgIndexByte.indexByte := ⟨Tryz.f227, Tryz.func227, by kernel_rfl, by kernel_rfl, by kernel_rfl, by kernel_rfl⟩
theorem xCompare : IsExtern Tryz.prog 196 Extern.BytealgCompare.compare := ⟨Tryz.f196, Tryz.func196, by kernel_rfl, by kernel_rfl, by kernel_rfl, by kernel_rfl⟩

theorem polX_cases {f : FuncId} {g : BM.Prim} (h : polX.prim f = some g) :
    (f = 24 ∧ g = conP kTwin) ∨ (f = 15 ∧ g = lookP kCheck) ∨ (f = 56 ∧ g = conP kNew) ∨ (f = 60 ∧ g = conP (kLeft 61)) ∨ (f = 165 ∧ g = lookP kMax) ∨ (f = 127 ∧ g = lookP kSum) ∨
    (f = 143 ∧ g = primMake) ∨ (f = 196 ∧ g = primCompare) ∨ (f = 198 ∧ g = primCount) ∨ (f = 227 ∧ g = primIndexByte) := by
  simp only [polX] at h
  split at h <;> cases h <;> simp

theorem okX : BM.Okay Tryz.prog polX where
  mixed := Tryz.checked.mixed
  draws := fun f F c hF hc => by
    have := Array.all_eq_true_iff_forall_mem.1 draws_allB F (Array.mem_of_getElem? hF)
    rwa [hc] at this
  loops := fun f F c hF hc => by
    have := Array.all_eq_true_iff_forall_mem.1 loops_allB F (Array.mem_of_getElem? hF)
    rw [hc] at this
    simpa using this
  num := okD.num
  prim := fun f g hg B F H E fr dst args cargs v x S one h0 htab hr h => by
    rcases polX_cases hg with ⟨rfl, rfl⟩ | ⟨rfl, rfl⟩ | ⟨rfl, rfl⟩ | ⟨rfl, rfl⟩ | ⟨rfl, rfl⟩ | ⟨rfl, rfl⟩ | ⟨rfl, rfl⟩ | ⟨rfl, rfl⟩ | ⟨rfl, rfl⟩ | ⟨rfl, rfl⟩
    · exact conP_sound okD kTwin_fz B F H E fr dst args cargs v x S one h0 htab hr h
    · exact lookP_sound okD kCheck_fz B F H E fr dst args cargs v x S one h0 htab hr h
    · exact conP_sound okD kNew_fz B F H E fr dst args cargs v x S one h0 htab hr h
    · exact conP_sound okD kLeft_fz B F H E fr dst args cargs v x S one h0 htab hr h
    · exact lookP_sound okD kMax_fz B F H E fr dst args cargs v x S one h0 htab hr h
    · exact lookP_sound okD kSum_fz B F H E fr dst args cargs v x S one h0 htab hr h
    · exact invokes_am one (AM.sound_make xMake (e := 5) (by kernel_rfl) S (by omega) hr h)
    · exact invokes_am one (AM.sound_compare xCompare S hr h)
    · exact invokes_am one (AM.sound_count xCount S hr h)
    · exact invokes_am one (AM.sound_indexByte xIndex S hr h)
  loop := fun f F c _ _ => loopOk_none (fun _ => rfl) c
  tame := {
    prim := fun f g hg nm G G' args v w hle hn h => by
      rcases polX_cases hg with ⟨rfl, rfl⟩ | ⟨rfl, rfl⟩ | ⟨rfl, rfl⟩ | ⟨rfl, rfl⟩ | ⟨rfl, rfl⟩ | ⟨rfl, rfl⟩ | ⟨rfl, rfl⟩ | ⟨rfl, rfl⟩ | ⟨rfl, rfl⟩ | ⟨rfl, rfl⟩
      · exact conP_tame _ nm G G' args v w hle h
      · exact lookP_tame _ nm G G' args v w hle h
      · exact conP_tame _ nm G G' args v w hle h
      · exact conP_tame _ nm G G' args v w hle h
      · exact lookP_tame _ nm G G' args v w hle h
      · exact lookP_tame _ nm G G' args v w hle h
      · exact primMake_tame nm G G' args v w hle hn h
      · exact primCompare_tame nm G G' args v w hle h
      · exact primCount_tame nm G G' args v w hle h
      · exact primIndexByte_tame nm G G' args v w hle h
    loop := fun fn r g hg => by cases hg }
end Go.Proofs.YtdhfapknneljoaaGreatDoor
end
section
/- TxgNames: the law comes to true. -/
namespace Go.Proofs.YtdhfapknneljoaaGreatDoor
open Go.AM Go.AM.BM
set_option maxRecDepth 1000000
noncomputable def F0 : FH := ⟨0, .nil⟩
theorem names_run : isTrue (fcall Tryz.prog polX 1000 (some 3) [] F0) = true := by kernel_rfl
end Go.Proofs.YtdhfapknneljoaaGreatDoor
end
section
/- TxgNames: the law comes to true, whatever the arguments (there are none). -/
namespace Go.Proofs.YtdhfapknneljoaaGreatDoor
open Go.AM Go.AM.BM
theorem names_law : ∀ xs, ArgsRead Tryz.prog [] xs → ∃ m H', BM.callN Tryz.prog polX m (some 3) xs [[]] = some (.ret (.bool true), H') := by
  intro xs h
  have h' : xs = [] := h
  subst h'
  obtain ⟨H, e⟩ := isTrue_sound (P := Tryz.prog) (pol := polX) (fun _ _ => rfl) names_run
  exact ⟨_, H, e⟩
end Go.Proofs.YtdhfapknneljoaaGreatDoor
end
section
/- TxgNames: from what the abstract machine answers to the given card. Conditions: those of the given row and card, no other. -/
namespace Go.Proofs.YtdhfapknneljoaaGreatDoor
open Go.AM Go.ChangeShapes Go.WideShapes Go.ChangeAt Go.RowKit

theorem txgNames_own : ownKnob Tryz.prog.godebug = none := by kernel_rfl
set_option maxRecDepth 100000 in
theorem txgNames_lifted (os : Os) (started : os.Started) (H : Type) (enc : TypeId × Value → H) :
    ReturnsInHanded {} Tryz.checked os 3 .any (fun w args => (Rows.txgNamesSpec.pre enc Tryz.prog Tryz.f3 [] false w args ∧ laidMetH Tryz.prog Rows.txgNamesRow.laid w) ∧ sizedMet enc Tryz.prog Tryz.f3 (OpenSpec.ofChange Rows.txgNamesSpec) false w args)
      (Rows.txgNamesSpec.post enc Tryz.prog Tryz.f3 false true false false) := by
  refine returnsInHanded_of_change_and (C := Tryz.checked) (X := fun w _ => laidMetH Tryz.prog Rows.txgNamesRow.laid w) (fun _ _ _ hh h => h.of_heap hh) txgNames_own started (by kernel_rfl) Tryz.func3
    (ChangeSpec.witness_shaped (enc := enc) (C := Tryz.checked) (os := os) (X := fun w _ => laidMetH Tryz.prog Rows.txgNamesRow.laid w) false (World.laidAll Tryz.prog os Rows.txgNamesRow.laid) #[] 8 (World.laidAll_os _ _ _)
      (World.shaped_of_ZipB (by kernel_rfl) (by kernel_rfl)) (by kernel_rfl) (by kernel_rfl) (by kernel_rfl)
      (by rw [MakeChecks.laidMetH_plain _ _ _ (by kernel_rfl)]; exact laidMet_laidAll _ (by kernel_rfl) (by kernel_rfl))) ?_
  intro W base args ds gs before hval hW _ _ _ _
  exact BM.law_contract (ts := []) (tb := 4) (book := [3]) okX (by kernel_rfl) (congrArg Array.toList Tryz.params3) (by kernel_rfl) Tryz.underlying4 (by kernel_rfl) (by kernel_rfl) (s := Rows.txgNamesSpec) rfl
    (fun ds hd => by
      match ds, hd with
      | [], _ => exact ⟨rfl, rfl, rfl⟩)
    names_law hval hW

theorem txgNames_row : Rows.TxgNamesSaid :=
  OpenClaim.holds_of_wide 3 Tryz.f3 rfl rfl rfl rfl rfl rfl rfl ⟨rfl, rfl, rfl, rfl, rfl⟩ rfl rfl rfl rfl rfl (by kernel_rfl) Tryz.func3 (by kernel_rfl)
    (of_decide_eq_true (by kernel_rfl)) (by unfold Func.isWrapper; first | (rw [if_pos (by decide +kernel)]; kernel_rfl) | (rw [if_neg (by decide +kernel)]; exact ⟨rfl, rfl⟩))
    (fun os started H enc _ => txgNames_lifted os started H enc)

theorem txgNames_holds : Rows.TxgNamesCardSaid :=
  Claim7.holds_tied_plain_at .later [] [.data, .pinned] true (true, "cfd7e81b257220669a8ddb70903d15fa01e77fd1c4eecef3477909ae1dfa56a0") true
    txgNames_row (fun _ h => by cases h) (by kernel_rfl) (fun _ h => by cases h) txgNames_row_tie rfl ⟨rfl, rfl⟩ (by kernel_rfl) rfl
    (fun f fn hf hfn => by
      obtain rfl : f = 3 := Option.some.inj ((show Tryz.prog.funcNamed "charterhouse/charterhouselaw17.TxgNames" = some 3 by kernel_rfl).symm.trans hf) |>.symm
      obtain rfl : fn = Tryz.f3 := (Option.some.inj (Tryz.func3.symm.trans hfn)).symm
      exact ⟨by kernel_rfl, fun j t ht => by
        have hp : Tryz.f3.params.toList = [] := congrArg Array.toList Tryz.params3
        have hm : t ∈ [] := by rw [← hp]; exact Array.mem_toList_iff.2 (Array.mem_of_getElem? ht)
        have hall : ([].all fun u => !Tryz.prog.wantsStandIn u) = true := by kernel_rfl
        exact (show Tryz.prog.wantsStandIn t = false by simpa using List.all_eq_true.1 hall t hm)⟩)
    (by kernel_rfl)
#print axioms txgNames_holds
end Go.Proofs.YtdhfapknneljoaaGreatDoor
end
