/- This file holds in one the texts DK2, Bx29, Bf3; each says at its head what it proves. -/
import Derived.Test.YtjakoidjbcnhbaaGreatDoorT20
import Derived.Test.YtjakoidjbcnhbaaGreatDoorT26
import Derived.Test.YtjakoidjbcnhbaaGreatDoorT31
import Derived.Test.YtjakoidjbcnhbaaGreatDoorT33
set_option linter.unusedSimpArgs false
set_option linter.unusedVariables false
section
/- code: what its functions answer, as functions on values. -/
namespace Go.AM.BM

def slC : V → Option (List V × Nat)
  | .nilslice => some ([], 0)
  | .islice c n _ => if Nat.beq c.length n && Nat.ble n 1048576 then some (c, n) else none
  | _ => none
def numC : List V → Option Nat
  | [] => some 0
  | .int .u8 (.ofNat b) :: r => if Nat.blt b 256 then (match numC r with
    | some n => some (Nat.add b (Nat.mul 256 n))
    | none => none) else none
  | _ => none
def kGet : List V → Option V
  | [x, .int .i64 (.ofNat a), .int .i64 (.ofNat k)] => (match slC x with
    | some (c, n) => if Nat.ble a 1048576 && Nat.ble k 1048576 then
        (if Nat.beq k 0 || (Nat.blt 4 k || Nat.blt n a) then some (.tuple [.int .i64 (.ofNat 0), .int .i64 (.ofNat 2)])
         else if Nat.blt n (Nat.add a k) then some (.tuple [.int .i64 (.ofNat 0), .int .i64 (.ofNat 8)])
         else (match numC ((c.drop a).take k) with
           | some m => some (.tuple [.int .i64 (.ofNat m), .int .i64 (.ofNat 0)])
           | none => none)) else none
    | none => none)
  | _ => none
def bytesN (n : Nat) : Nat → List V
  | 0 => []
  | k + 1 => .int .u8 (.ofNat (Nat.mod n 256)) :: bytesN (Nat.div n 256) k
def kPut : List V → Option V
  | [.int .i64 (.ofNat n), .int .i64 (.ofNat k)] => if Nat.ble n 281474976710656 && Nat.ble k 1048576 then
      (if Nat.beq k 0 || (Nat.blt 4 k || Nat.ble (Nat.pow 256 k) n) then some (.tuple [.nilslice, .int .i64 (.ofNat 2)])
       else some (.tuple [.islice (bytesN n k) k false, .int .i64 (.ofNat 0)])) else none
  | _ => none
noncomputable def keyC (x : W4) : List V := bytesN x.a 4 ++ (bytesN x.b 4 ++ (bytesN x.c 4 ++ bytesN x.d 4))
noncomputable def kKey : List V → Option V
  | [x] => (match bytesC x with
    | some l => some (.islice (keyC (fourW l)) 16 false)
    | none => none)
  | _ => none
end Go.AM.BM
end
section
/- The machine for closed laws, part 29: the library's functions without a body. -/
namespace Go.AM.BM

section
variable {P : Program} {E : Env} {B : Nat} {F : Nat → Nat → Prop} {H : Heap}
theorem invokes_am {f : FuncId} {args : Array Value} {w : World} {v : V} {x : Option (Nat × Nat × O)} (one : H.length = 1) (h : AM.Invokes P f args w (AM.Answer B F H E (.ret v) (wr H x))) : Invokes P f args w (Answer B F H E (.ret v) (wr H x)) := by
  have key : ∀ e w', AM.Answer B F H E (.ret v) (wr H x) e w' → Answer B F H E (.ret v) (wr H x) e w' := by
    rintro e w' ⟨E', h1, h2, h3, h4, h5⟩
    rw [one] at h4
    exact ⟨E', h1, h2, h3, h4, by rw [AM.wr_length]; exact one⟩
  rcases h with ⟨u, w', h1, h2⟩ | ⟨j, h1, h2⟩
  · exact .inl ⟨u, w', h1, key _ _ h2⟩
  · exact .inr ⟨j, h1, h2.mono key⟩

theorem bytesV_le {G G' : Get} (h : GLe G G') {x : V} {l : List UInt8} (e : bytesV G x = some l) : bytesV G' x = some l := by
  unfold bytesV at e ⊢
  split at e
  · exact e
  · rename_i y hy
    cases hs : sliceCells G 1 x with
    | none => rw [hs] at e; cases e
    | some q =>
      rw [hs] at e
      have hs' : sliceCells G' 1 x = some q := by
        exact sliceCells_mono h hs
      rw [hs']; exact e
theorem primCount_tame (nm : Nat) (G G' : Get) (args : List V) (v : V) (w : Option (Nat × Nat × O)) (h : GLe G G') (e : primCount 0 (some nm) G args = some (v, w)) :
    primCount 0 (some nm) G' args = some (v, w) ∧ ∀ x ∈ w.toList, (∃ y, G x.1 x.2.1 = some y) ∨ (x.1 = 0 ∧ x.2.1 = nm) := by
  unfold primCount at e ⊢
  split at e
  case h_2 => cases e
  rename_i y c
  split at e
  case h_2 => cases e
  rename_i l hl
  cases e
  exact ⟨by simp only [bytesV_le h hl], fun x hx => by cases hx⟩
theorem primIndexByte_tame (nm : Nat) (G G' : Get) (args : List V) (v : V) (w : Option (Nat × Nat × O)) (h : GLe G G') (e : primIndexByte 0 (some nm) G args = some (v, w)) :
    primIndexByte 0 (some nm) G' args = some (v, w) ∧ ∀ x ∈ w.toList, (∃ y, G x.1 x.2.1 = some y) ∨ (x.1 = 0 ∧ x.2.1 = nm) := by
  unfold primIndexByte at e ⊢
  split at e
  case h_2 => cases e
  rename_i y c
  split at e
  case h_2 => cases e
  rename_i l hl
  cases e
  exact ⟨by simp only [bytesV_le h hl], fun x hx => by cases hx⟩
theorem primCompare_tame (nm : Nat) (G G' : Get) (args : List V) (v : V) (w : Option (Nat × Nat × O)) (h : GLe G G') (e : primCompare 0 (some nm) G args = some (v, w)) :
    primCompare 0 (some nm) G' args = some (v, w) ∧ ∀ x ∈ w.toList, (∃ y, G x.1 x.2.1 = some y) ∨ (x.1 = 0 ∧ x.2.1 = nm) := by
  unfold primCompare at e ⊢
  split at e
  case h_2 => cases e
  rename_i y z
  split at e
  case h_2 => cases e
  rename_i l r hl hr
  cases e
  exact ⟨by simp only [bytesV_le h hl, bytesV_le h hr], fun x hx => by cases hx⟩
theorem primMake_tame (nm : Nat) (G G' : Get) (args : List V) (v : V) (w : Option (Nat × Nat × O)) (h : GLe G G') (hn : G' 0 nm = G 0 nm) (e : primMake 0 (some nm) G args = some (v, w)) :
    primMake 0 (some nm) G' args = some (v, w) ∧ ∀ x ∈ w.toList, (∃ y, G x.1 x.2.1 = some y) ∨ (x.1 = 0 ∧ x.2.1 = nm) := by
  unfold primMake at e ⊢
  split at e
  case h_2 => cases e
  rename_i n d he
  cases he
  split at e
  case h_2 => cases e
  rename_i hg
  split at e
  case isFalse => cases e
  rename_i hc
  cases e
  refine ⟨by simp only [hn, hg]; rw [if_pos hc], fun x hx => ?_⟩
  simp only [Option.toList, List.mem_singleton] at hx
  subst hx
  exact .inr ⟨rfl, rfl⟩
end
end Go.AM.BM
end
section
/- The machine for closed laws, reckoned quickly, part 3: temporaries and objects in trees stand for those in lists. -/
namespace Go.AM.BM

/-! ### Temporaries -/
def NV.toL (t : NV) : List V := [t.x0, t.x1, t.x2, t.x3, t.x4, t.x5, t.x6, t.x7, t.x8, t.x9, t.x10, t.x11, t.x12, t.x13, t.x14, t.x15, t.x16, t.x17, t.x18, t.x19, t.x20, t.x21, t.x22, t.x23, t.x24, t.x25, t.x26, t.x27, t.x28, t.x29, t.x30, t.x31]
def NN.toL (t : NN) : List NV := [t.x0, t.x1, t.x2, t.x3, t.x4, t.x5, t.x6, t.x7, t.x8, t.x9, t.x10, t.x11, t.x12, t.x13, t.x14, t.x15, t.x16, t.x17, t.x18, t.x19, t.x20, t.x21, t.x22, t.x23, t.x24, t.x25, t.x26, t.x27, t.x28, t.x29, t.x30, t.x31]
theorem selV_eq (d : Box (NV → V)) (t : NV) : ∀ i, i < 32 → (selV.getD i d).f t = t.toL.getD i .bad
  | 0, _ => rfl
  | 1, _ => rfl
  | 2, _ => rfl
  | 3, _ => rfl
  | 4, _ => rfl
  | 5, _ => rfl
  | 6, _ => rfl
  | 7, _ => rfl
  | 8, _ => rfl
  | 9, _ => rfl
  | 10, _ => rfl
  | 11, _ => rfl
  | 12, _ => rfl
  | 13, _ => rfl
  | 14, _ => rfl
  | 15, _ => rfl
  | 16, _ => rfl
  | 17, _ => rfl
  | 18, _ => rfl
  | 19, _ => rfl
  | 20, _ => rfl
  | 21, _ => rfl
  | 22, _ => rfl
  | 23, _ => rfl
  | 24, _ => rfl
  | 25, _ => rfl
  | 26, _ => rfl
  | 27, _ => rfl
  | 28, _ => rfl
  | 29, _ => rfl
  | 30, _ => rfl
  | 31, _ => rfl
  | i + 32, h => by omega
theorem updV_eq (d : Box (NV → V → NV)) (t : NV) (v : V) : ∀ i, i < 32 → ((updV.getD i d).f t v).toL = t.toL.set i v
  | 0, _ => rfl
  | 1, _ => rfl
  | 2, _ => rfl
  | 3, _ => rfl
  | 4, _ => rfl
  | 5, _ => rfl
  | 6, _ => rfl
  | 7, _ => rfl
  | 8, _ => rfl
  | 9, _ => rfl
  | 10, _ => rfl
  | 11, _ => rfl
  | 12, _ => rfl
  | 13, _ => rfl
  | 14, _ => rfl
  | 15, _ => rfl
  | 16, _ => rfl
  | 17, _ => rfl
  | 18, _ => rfl
  | 19, _ => rfl
  | 20, _ => rfl
  | 21, _ => rfl
  | 22, _ => rfl
  | 23, _ => rfl
  | 24, _ => rfl
  | 25, _ => rfl
  | 26, _ => rfl
  | 27, _ => rfl
  | 28, _ => rfl
  | 29, _ => rfl
  | 30, _ => rfl
  | 31, _ => rfl
  | i + 32, h => by omega
theorem selN_eq (d : Box (NN → NV)) (e : NV) (t : NN) : ∀ i, i < 32 → (selN.getD i d).f t = t.toL.getD i e
  | 0, _ => rfl
  | 1, _ => rfl
  | 2, _ => rfl
  | 3, _ => rfl
  | 4, _ => rfl
  | 5, _ => rfl
  | 6, _ => rfl
  | 7, _ => rfl
  | 8, _ => rfl
  | 9, _ => rfl
  | 10, _ => rfl
  | 11, _ => rfl
  | 12, _ => rfl
  | 13, _ => rfl
  | 14, _ => rfl
  | 15, _ => rfl
  | 16, _ => rfl
  | 17, _ => rfl
  | 18, _ => rfl
  | 19, _ => rfl
  | 20, _ => rfl
  | 21, _ => rfl
  | 22, _ => rfl
  | 23, _ => rfl
  | 24, _ => rfl
  | 25, _ => rfl
  | 26, _ => rfl
  | 27, _ => rfl
  | 28, _ => rfl
  | 29, _ => rfl
  | 30, _ => rfl
  | 31, _ => rfl
  | i + 32, h => by omega
theorem updN_eq (d : Box (NN → NV → NN)) (t : NN) (v : NV) : ∀ i, i < 32 → ((updN.getD i d).f t v).toL = t.toL.set i v
  | 0, _ => rfl
  | 1, _ => rfl
  | 2, _ => rfl
  | 3, _ => rfl
  | 4, _ => rfl
  | 5, _ => rfl
  | 6, _ => rfl
  | 7, _ => rfl
  | 8, _ => rfl
  | 9, _ => rfl
  | 10, _ => rfl
  | 11, _ => rfl
  | 12, _ => rfl
  | 13, _ => rfl
  | 14, _ => rfl
  | 15, _ => rfl
  | 16, _ => rfl
  | 17, _ => rfl
  | 18, _ => rfl
  | 19, _ => rfl
  | 20, _ => rfl
  | 21, _ => rfl
  | 22, _ => rfl
  | 23, _ => rfl
  | 24, _ => rfl
  | 25, _ => rfl
  | 26, _ => rfl
  | 27, _ => rfl
  | 28, _ => rfl
  | 29, _ => rfl
  | 30, _ => rfl
  | 31, _ => rfl
  | i + 32, h => by omega
theorem selA_eq (d : Box (TM → V)) (t : TM) : ∀ i, i < 32 → (selA.getD i d).f t = t.a.toL.getD i .bad
  | 0, _ => rfl
  | 1, _ => rfl
  | 2, _ => rfl
  | 3, _ => rfl
  | 4, _ => rfl
  | 5, _ => rfl
  | 6, _ => rfl
  | 7, _ => rfl
  | 8, _ => rfl
  | 9, _ => rfl
  | 10, _ => rfl
  | 11, _ => rfl
  | 12, _ => rfl
  | 13, _ => rfl
  | 14, _ => rfl
  | 15, _ => rfl
  | 16, _ => rfl
  | 17, _ => rfl
  | 18, _ => rfl
  | 19, _ => rfl
  | 20, _ => rfl
  | 21, _ => rfl
  | 22, _ => rfl
  | 23, _ => rfl
  | 24, _ => rfl
  | 25, _ => rfl
  | 26, _ => rfl
  | 27, _ => rfl
  | 28, _ => rfl
  | 29, _ => rfl
  | 30, _ => rfl
  | 31, _ => rfl
  | i + 32, h => by omega
theorem updA_eq (d : Box (TM → V → TM)) (t : TM) (v : V) : ∀ i, i < 32 → ((updA.getD i d).f t v).a.toL = t.a.toL.set i v
  | 0, _ => rfl
  | 1, _ => rfl
  | 2, _ => rfl
  | 3, _ => rfl
  | 4, _ => rfl
  | 5, _ => rfl
  | 6, _ => rfl
  | 7, _ => rfl
  | 8, _ => rfl
  | 9, _ => rfl
  | 10, _ => rfl
  | 11, _ => rfl
  | 12, _ => rfl
  | 13, _ => rfl
  | 14, _ => rfl
  | 15, _ => rfl
  | 16, _ => rfl
  | 17, _ => rfl
  | 18, _ => rfl
  | 19, _ => rfl
  | 20, _ => rfl
  | 21, _ => rfl
  | 22, _ => rfl
  | 23, _ => rfl
  | 24, _ => rfl
  | 25, _ => rfl
  | 26, _ => rfl
  | 27, _ => rfl
  | 28, _ => rfl
  | 29, _ => rfl
  | 30, _ => rfl
  | 31, _ => rfl
  | i + 32, h => by omega
theorem updA_b (d : Box (TM → V → TM)) (t : TM) (v : V) : ∀ i, i < 32 → ((updA.getD i d).f t v).b = t.b
  | 0, _ => rfl
  | 1, _ => rfl
  | 2, _ => rfl
  | 3, _ => rfl
  | 4, _ => rfl
  | 5, _ => rfl
  | 6, _ => rfl
  | 7, _ => rfl
  | 8, _ => rfl
  | 9, _ => rfl
  | 10, _ => rfl
  | 11, _ => rfl
  | 12, _ => rfl
  | 13, _ => rfl
  | 14, _ => rfl
  | 15, _ => rfl
  | 16, _ => rfl
  | 17, _ => rfl
  | 18, _ => rfl
  | 19, _ => rfl
  | 20, _ => rfl
  | 21, _ => rfl
  | 22, _ => rfl
  | 23, _ => rfl
  | 24, _ => rfl
  | 25, _ => rfl
  | 26, _ => rfl
  | 27, _ => rfl
  | 28, _ => rfl
  | 29, _ => rfl
  | 30, _ => rfl
  | 31, _ => rfl
  | i + 32, h => by omega

theorem gC_lo {i : Nat} (h : i < 32) (T : TM) : (gC i).f T = T.a.toL.getD i .bad := by
  have : Nat.blt i 32 = true := by rw [Nat.blt_eq]; exact h
  simp only [gC, this, cond_true]
  exact selA_eq _ T i h
theorem gC_hi {i : Nat} (h : ¬ i < 32) (h2 : i < 1056) (T : TM) : (gC i).f T = (T.b.toL.getD ((i - 32) / 32) empV).toL.getD ((i - 32) % 32) .bad := by
  have : Nat.blt i 32 = false := by rw [Bool.eq_false_iff]; intro e; rw [Nat.blt_eq] at e; exact h e
  simp only [gC, this, cond_false]
  rw [selN_eq _ empV _ _ (by omega), selV_eq _ _ _ (by omega)]
theorem sC_hi {i : Nat} (h : ¬ i < 32) (T : TM) (v : V) : (sC i).f T v = ⟨T.a, (updN.getD ((i - 32) / 32) ⟨fun t _ => t⟩).f T.b ((updV.getD ((i - 32) % 32) ⟨fun t _ => t⟩).f ((selN.getD ((i - 32) / 32) ⟨fun t => t.x0⟩).f T.b) v)⟩ := by
  have : Nat.blt i 32 = false := by rw [Bool.eq_false_iff]; intro e; rw [Nat.blt_eq] at e; exact h e
  simp only [sC, this, cond_false]
theorem sC_lo {i : Nat} (h : i < 32) (T : TM) (v : V) : (sC i).f T v = (updA.getD i ⟨fun t _ => t⟩).f T v := by
  have : Nat.blt i 32 = true := by rw [Nat.blt_eq]; exact h
  simp only [sC, this, cond_true]
theorem NV.toL_length (t : NV) : t.toL.length = 32 := rfl
theorem NN.toL_length (t : NN) : t.toL.length = 32 := rfl
theorem getD_set {α : Type} (l : List α) (i j : Nat) (v d : α) (hi : i < l.length) : (l.set i v).getD j d = if j = i then v else l.getD j d := by
  simp only [List.getD, List.getElem?_set]
  by_cases e : i = j
  · subst e; simp [hi]
  · rw [if_neg e, if_neg (Ne.symm e)]
theorem gC_sC {i j : Nat} (hi : i < 1056) (hj : j < 1056) (T : TM) (v : V) : (gC j).f ((sC i).f T v) = if j = i then v else (gC j).f T := by
  by_cases a : i < 32
  · rw [sC_lo a]
    by_cases b : j < 32
    · rw [gC_lo b, gC_lo b, updA_eq _ _ _ _ a, getD_set _ _ _ _ _ (by rw [NV.toL_length]; exact a)]
    · rw [gC_hi b hj, gC_hi b hj, updA_b _ _ _ _ a, if_neg (by omega)]
  · rw [sC_hi a]
    by_cases b : j < 32
    · rw [gC_lo b, gC_lo b, if_neg (by omega)]
    · rw [gC_hi b hj, gC_hi b hj, updN_eq _ _ _ _ (by omega), getD_set _ _ _ _ _ (by rw [NN.toL_length]; omega)]
      by_cases e : (j - 32) / 32 = (i - 32) / 32
      · rw [if_pos e, updV_eq _ _ _ _ (by omega), getD_set _ _ _ _ _ (by rw [NV.toL_length]; omega), selN_eq _ empV _ _ (by omega), e]
        by_cases e2 : (j - 32) % 32 = (i - 32) % 32
        · rw [if_pos e2, if_pos (by omega)]
        · rw [if_neg e2, if_neg (by omega)]
      · rw [if_neg e, if_neg (by omega)]

structure RT (n : Nat) (T : TM) (t : List V) : Prop where
  len : t.length = n
  le : n ≤ 1056
  get : ∀ i, i < n → (gC i).f T = t.getD i .bad

theorem rep_getD {α : Type} (n i : Nat) (x : α) : (List.replicate n x).getD i x = x := by
  simp only [List.getD, List.getElem?_replicate]
  split <;> rfl
theorem gC_emp (i : Nat) (h : i < 1056) : (gC i).f emp = .bad := by
  have e2 : empV.toL = List.replicate 32 .bad := rfl
  by_cases a : i < 32
  · rw [gC_lo a]
    show empV.toL.getD i .bad = .bad
    rw [e2, rep_getD]
  · rw [gC_hi a h]
    have e : emp.b.toL = List.replicate 32 empV := rfl
    rw [e, rep_getD, e2, rep_getD]

theorem RT.put {n : Nat} {T : TM} {t : List V} (R : RT n T t) (dst : Option Nat) (v : V) : RT n ((cP n dst).f T v) (putT t dst v) := by
  cases dst with
  | none => exact R
  | some i =>
    simp only [cP, putT]
    by_cases h : i < n
    · have hb : Nat.blt i n = true := by rw [Nat.blt_eq]; exact h
      rw [hb]
      refine ⟨by rw [List.length_set]; exact R.len, R.le, fun j hj => ?_⟩
      have hn := R.le
      simp only [cond_true]
      rw [gC_sC (by omega) (by omega), getD_set _ _ _ _ _ (by rw [R.len]; exact h), R.get j hj]
    · have hb : Nat.blt i n = false := by rw [Bool.eq_false_iff]; intro e; rw [Nat.blt_eq] at e; exact h e
      rw [hb]
      rw [List.set_eq_of_length_le (by rw [R.len]; omega)]
      exact R
theorem RT.rho {n : Nat} {T : TM} {t : List V} (R : RT n T t) (x : Operand) : (cR n x).f T = AM.rho t x := by
  cases x with
  | tmp i =>
    simp only [cR, AM.rho]
    by_cases h : i < n
    · have hb : Nat.blt i n = true := by rw [Nat.blt_eq]; exact h
      rw [hb]; exact R.get i h
    · have hb : Nat.blt i n = false := by rw [Bool.eq_false_iff]; intro e; rw [Nat.blt_eq] at e; exact h e
      have h' : n ≤ i := Nat.le_of_not_lt h
      rw [hb]
      simp only [cond_false, List.getD]
      rw [List.getElem?_eq_none (by rw [R.len]; exact h')]; rfl
  | const v => rfl
  | global g => rfl
  | func f => rfl
theorem RT.rhoF {n : Nat} {T : TM} {t : List V} (R : RT n T t) : (fun x => (cR n x).f T) = AM.rho t := funext R.rho
theorem cL_eq (n : Nat) (T : TM) : ∀ l : List Operand, (cL n l).f T = l.map fun x => (cR n x).f T
  | [] => rfl
  | x :: l => by
    have := cL_eq n T l
    show (cR n x).f T :: (cL n l).f T = _
    rw [this]; rfl

theorem toL_eq {n : Nat} {T : TM} {t : List V} (R : RT n T t) : toL T n 0 = t := by
  have : ∀ m i, toL T m i = (List.range' i m).map fun j => (gC j).f T := by
    intro m
    induction m with
    | zero => intro i; rfl
    | succ m ih =>
      intro i
      show (gC i).f T :: toL T m (Nat.succ i) = _
      rw [ih]; simp [List.range'_succ]
  rw [this]
  apply List.ext_getElem?
  intro i
  by_cases h : i < n
  · simp only [List.getElem?_map, List.getElem?_range' h, Option.map_some, Nat.zero_add, Nat.one_mul]
    rw [R.get i h, List.getD, List.getElem?_eq_getElem (by rw [R.len]; exact h)]; rfl
  · rw [List.getElem?_eq_none (by simp; omega), List.getElem?_eq_none (by rw [R.len]; omega)]

theorem ofL_get {n : Nat} (hn : n ≤ 1056) : ∀ (l : List V) (i : Nat) (T : TM), i + l.length ≤ n → ∀ j, j < n → (gC j).f (ofL l i T) = if i ≤ j ∧ j < i + l.length then l.getD (j - i) .bad else (gC j).f T
  | [], i, T, _, j, _ => by
    show (gC j).f T = _
    rw [if_neg (by simp only [List.length_nil]; omega)]
  | v :: l, i, T, h, j, hj => by
    simp only [List.length_cons] at h
    show (gC j).f (ofL l (Nat.succ i) ((sC i).f T v)) = _
    rw [ofL_get hn l (Nat.succ i) _ (by omega) j hj, gC_sC (by omega) (by omega)]
    by_cases e : j = i
    · subst e
      rw [if_neg (by omega), if_pos rfl, if_pos (by simp)]; simp
    · by_cases c : i ≤ j ∧ j < i + (l.length + 1)
      · rw [if_pos (by omega), if_pos (by simpa using c)]
        have : j - i = (j - Nat.succ i) + 1 := by omega
        rw [this]; rfl
      · rw [if_neg (by omega), if_neg e, if_neg (by simpa using c)]
theorem RT.args {n : Nat} (hn : n ≤ 1056) (l : List V) (h : l.length ≤ n) : RT n (ofL l 0 emp) (l ++ List.replicate (n - l.length) .bad) := by
  refine ⟨by simp; omega, hn, fun i hi => ?_⟩
  rw [ofL_get hn l 0 emp (by omega) i hi]
  by_cases c : i < l.length
  · rw [if_pos (by omega)]; simp [List.getD, List.getElem?_append_left c]
  · rw [if_neg (by omega), gC_emp i (by omega)]
    simp only [List.getD, List.getElem?_append_right (by omega : l.length ≤ i), List.getElem?_replicate]
    split <;> rfl
theorem RT.ofT {n : Nat} (hn : n ≤ 1056) (l : List V) (h : l.length = n) : RT n (ofL l 0 emp) l := by
  have := RT.args hn l (by omega)
  rwa [h, Nat.sub_self, List.replicate_zero, List.append_nil] at this

/-! ### Objects -/
theorem four_eq {α : Type} (j : Nat) (a b c d : α) : four j a b c d = if (j / 2) % 2 = 0 then (if j % 2 = 0 then a else b) else (if j % 2 = 0 then c else d) := by
  have h1 : Nat.land j (nat_lit 1) = j % 2 := Nat.and_one_is_mod j
  have h2 : Nat.land (Nat.shiftRight j (nat_lit 1)) (nat_lit 1) = (j / 2) % 2 := by
    have : Nat.shiftRight j 1 = j / 2 := rfl
    show Nat.land (Nat.shiftRight j 1) 1 = _
    rw [this]; exact Nat.and_one_is_mod _
  unfold four
  rw [h1, h2]
  have e : ∀ (m : Nat) (x y : α), Bool.rec (motive := fun _ => α) x y (Nat.beq m (nat_lit 0)) = if m = 0 then y else x := by
    intro m x y
    cases m <;> rfl
  rw [e, e, e]
theorem Tr.get_node (o : Option O) (a b c d : Tr) (k : Nat) : (Tr.node o a b c d).get k = match k with
    | 0 => o
    | j + 1 => four j (a.get) (b.get) (c.get) (d.get) (j / 4) := by
  cases k with
  | zero => rfl
  | succ j =>
    show four j a.get b.get c.get d.get (Nat.shiftRight j (nat_lit 2)) = _
    have hs : Nat.shiftRight j (nat_lit 2) = j / 4 := by
      show Nat.shiftRight j 2 = _
      have : Nat.shiftRight j 2 = j / 2 / 2 := rfl
      rw [this, Nat.div_div_eq_div_mul]
    rw [hs]
theorem Tr.get_nil (k : Nat) : Tr.nil.get k = none := rfl
theorem Tr.on_get (t : Tr) (k : Nat) : t.get k = t.on fun o a b c d => (Tr.node o a b c d).get k := by
  cases t with
  | nil =>
    show none = (Tr.node none .nil .nil .nil .nil).get k
    rw [Tr.get_node]
    cases k with
    | zero => rfl
    | succ j => simp only [four_eq]; repeat' split
                all_goals rfl
  | node o a b c d => rfl
theorem Tr.get_set : ∀ (n : Nat) (t : Tr) (k : Nat) (o : O), k < n → ∀ k', (Tr.set n t k o).get k' = if k' = k then some o else t.get k'
  | 0, _, _, _, h, _ => by omega
  | n + 1, t, k, x, h, k' => by
    have main : ∀ (o : Option O) (a b c d : Tr), (Nat.rec (motive := fun _ => Tr) (.node (some x) a b c d)
      (fun j _ => four j (Tr.node o (Tr.set n a (Nat.shiftRight j (nat_lit 2)) x) b c d) (.node o a (Tr.set n b (Nat.shiftRight j (nat_lit 2)) x) c d) (.node o a b (Tr.set n c (Nat.shiftRight j (nat_lit 2)) x) d) (.node o a b c (Tr.set n d (Nat.shiftRight j (nat_lit 2)) x))) k : Tr).get k' =
        if k' = k then some x else (Tr.node o a b c d).get k' := by
      intro o a b c d
      cases k with
      | zero =>
        show (Tr.node (some x) a b c d).get k' = _
        rw [Tr.get_node, Tr.get_node]
        cases k' with
        | zero => rfl
        | succ j => simp
      | succ j =>
        show (four j (Tr.node o (Tr.set n a (Nat.shiftRight j (nat_lit 2)) x) b c d) (.node o a (Tr.set n b (Nat.shiftRight j (nat_lit 2)) x) c d) (.node o a b (Tr.set n c (Nat.shiftRight j (nat_lit 2)) x) d) (.node o a b c (Tr.set n d (Nat.shiftRight j (nat_lit 2)) x))).get k' = _
        have hs : Nat.shiftRight j (nat_lit 2) = j / 4 := by
          show Nat.shiftRight j 2 = _
          have : Nat.shiftRight j 2 = j / 2 / 2 := rfl
          rw [this, Nat.div_div_eq_div_mul]
        rw [hs]
        have hlt : j / 4 < n := by omega
        have ih := fun (t : Tr) => Tr.get_set n t (j / 4) x hlt
        cases k' with
        | zero =>
          simp only [four_eq]
          repeat' split
          all_goals first | rfl | (exfalso; omega) | skip
          all_goals simp [Tr.get_node]
        | succ j' =>
          simp only [four_eq]
          (repeat' split) <;> (try simp only [Tr.get_node, four_eq]) <;> (repeat' split) <;> (try simp only [ih]) <;> (repeat' split) <;> first | rfl | (exfalso; omega)
    cases t with
    | nil => 
      exact (main none .nil .nil .nil .nil).trans (by rw [Tr.on_get .nil k']; rfl)
    | node o a b c d => exact main o a b c d

def RH (F : FH) (H : Heap) : Prop := ∃ fr, H = [fr] ∧ (∀ s, fget fr s = F.tr.get s) ∧ topOf fr = F.next
theorem fget_top : ∀ (fr : Frame) (s : Nat), topOf fr ≤ s → fget fr s = none
  | [], _, _ => rfl
  | (k, o) :: r, s, h => by
    simp only [topOf] at h
    simp only [fget]
    rw [if_neg (by omega)]
    exact fget_top r s (by omega)
theorem RH.get {F : FH} {H : Heap} (h : RH F H) : getF F = hget H := by
  obtain ⟨fr, rfl, h1, _⟩ := h
  funext f s
  cases f with
  | zero => exact (h1 s).symm
  | succ f => simp [getF, hget]
theorem RH.tr {F : FH} {H : Heap} (h : RH F H) (s : Nat) : F.tr.get s = hget H 0 s := by
  rw [← h.get]; rfl
theorem RH.next {F : FH} {H : Heap} (h : RH F H) : nextOf H = F.next := by
  obtain ⟨fr, rfl, _, h2⟩ := h; exact h2
theorem RH.fresh {F : FH} {H : Heap} (h : RH F H) : F.tr.get F.next = none := by
  obtain ⟨fr, rfl, h1, h2⟩ := h
  rw [← h1, ← h2]; exact fget_top fr _ (Nat.le_refl _)
theorem RH.set {F : FH} {H : Heap} (h : RH F H) (s : Nat) (o : O) : RH (setF F s o) (hset H 0 s o) := by
  obtain ⟨fr, rfl, h1, h2⟩ := h
  refine ⟨fset fr s o, rfl, fun s' => ?_, ?_⟩
  · rw [fget_fset, h1]
    exact (Tr.get_set (Nat.succ s) F.tr s o (Nat.lt_succ_self s) s').symm
  · rw [topOf_fset, h2]
    simp only [setF]
    cases e : Nat.ble (Nat.succ s) F.next with
    | true => have := Nat.le_of_ble_eq_true e; simp only; omega
    | false =>
      have : ¬ Nat.succ s ≤ F.next := fun h => by rw [Nat.ble_eq_true_of_le h] at e; cases e
      simp only; omega
theorem RH.wr {F : FH} {H : Heap} (h : RH F H) (w : Option (Nat × Nat × O)) : RH (wrF F w) (AM.wr H w) := by
  match w with
  | none => exact h
  | some (0, s, o) => exact h.set s o
  | some (f + 1, s, o) =>
    obtain ⟨fr, rfl, h1, h2⟩ := h
    exact ⟨fr, by simp [AM.wr, hset], h1, h2⟩
theorem RH.wrL : ∀ (ws : List (Nat × Nat × O)) {F : FH} {H : Heap}, RH F H → RH (wrLF F ws) (BM.wrL H ws)
  | [], _, _, h => h
  | (f, s, o) :: r, F, H, h => by
    have := h.wr (some (f, s, o))
    exact RH.wrL r this
end Go.AM.BM
end
