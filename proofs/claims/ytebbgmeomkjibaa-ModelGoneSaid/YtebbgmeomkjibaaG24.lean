/- This file holds in one the texts Am39; each says at its head what it proves. -/
import Derived.Test.YtebbgmeomkjibaaG23
import Derived.Lib.SlKeysI
set_option linter.unusedSimpArgs false
set_option linter.unusedVariables false
section
/- The abstract machine, part 39: slices.Sorted(maps.Keys(m)) at integers. -/
namespace Go.AM
open Go.RowKit Go.Sort Go.Maps Go.Proofs

def keysInt : List (V × V) → Option (List Int)
  | [] => some []
  | (k, _) :: r => match k, keysInt r with
    | .int .i64 s, some l => some (s :: l)
    | _, _ => none

abbrev leZ : Int → Int → Bool := fun x y => decide (x ≤ y)
def insZ (x : Int) : List Int → List Int
  | [] => [x]
  | y :: l => if leZ x y then x :: y :: l else y :: insZ x l
def sortZ : List Int → List Int
  | [] => []
  | x :: l => insZ x (sortZ l)

theorem insZ_perm (x : Int) : ∀ l, (insZ x l).Perm (x :: l)
  | [] => .refl _
  | y :: l => by
    unfold insZ
    split
    · exact .refl _
    · exact ((insZ_perm x l).cons y).trans (List.Perm.swap x y l)
theorem sortZ_perm : ∀ l, (sortZ l).Perm l
  | [] => .refl _
  | x :: l => (insZ_perm x _).trans ((sortZ_perm l).cons x)
theorem leZ_trans {a b c : Int} (h1 : leZ a b = true) (h2 : leZ b c = true) : leZ a c = true := by
  simp only [leZ, decide_eq_true_eq] at *; omega
theorem leZ_total {a b : Int} (h : leZ a b = false) : leZ b a = true := by
  simp only [leZ, decide_eq_false_iff_not, decide_eq_true_eq] at *; omega
theorem insZ_sorted (x : Int) : ∀ l, l.Pairwise (fun a b => leZ a b = true) → (insZ x l).Pairwise (fun a b => leZ a b = true)
  | [], _ => by simp [insZ]
  | y :: l, h => by
    obtain ⟨h1, h2⟩ := List.pairwise_cons.1 h
    unfold insZ
    split
    · rename_i hx
      refine List.pairwise_cons.2 ⟨fun z hz => ?_, h⟩
      rcases List.mem_cons.1 hz with rfl | hz
      · exact hx
      · exact leZ_trans hx (h1 z hz)
    · rename_i hx
      refine List.pairwise_cons.2 ⟨fun z hz => ?_, insZ_sorted x l h2⟩
      rcases List.mem_cons.1 ((insZ_perm x l).mem_iff.1 hz) with rfl | hz
      · exact leZ_total (by simpa using hx)
      · exact h1 z hz
theorem sortZ_sorted : ∀ l, (sortZ l).Pairwise (fun a b => leZ a b = true)
  | [] => .nil
  | x :: l => insZ_sorted x _ (sortZ_sorted l)
theorem mergeSort_sortZ {l l' : List Int} (h : l.Perm l') : l.mergeSort leZ = sortZ l' := by
  have tr : ∀ a b c : Int, leZ a b = true → leZ b c = true → leZ a c = true := fun a b c h1 h2 => leZ_trans h1 h2
  have to : ∀ a b : Int, (leZ a b || leZ b a) = true := fun a b => by
    cases hx : leZ a b with
    | true => rfl
    | false => simpa using leZ_total hx
  refine List.Perm.eq_of_pairwise (le := fun a b => leZ a b = true) (fun a b _ _ h1 h2 => ?_) (List.pairwise_mergeSort tr to l) (sortZ_sorted l') (((List.mergeSort_perm l leZ).trans h).trans (sortZ_perm l').symm)
  simp only [leZ, decide_eq_true_eq] at h1 h2
  omega

def primSortInt (k1 : FuncId) : Prim := fun _ _ g as => match as with
  | [.func (.func f) [] [.ptr fr s 0]] => if f = k1 then (match g fr s with
    | some (.cells (.map fm sm :: _)) => (match g fm sm with
      | some (.map es bs clk) => (match keysInt es with
        | some ss => if ss.Nodup ∧ bs.Nodup ∧ (∀ b ∈ bs, b < clk) ∧ (∀ x ∈ ss, -9223372036854775808 ≤ x ∧ x < 9223372036854775808) ∧ ss.length ≤ 1048576 then some (sortedV ((sortZ ss).map (.int .i64)), none) else none
        | none => none)
      | _ => none)
    | _ => none) else none
  | _ => none

def SortsKeysI (P : Program) (srt k1 : FuncId) (T : TypeId) : Prop :=
  ∀ (Bm b : Nat) (w : World) (es : Array MapEntry) (clk : Nat), Bm < w.heap.size → w.cell? ⟨Bm, 0, none⟩ = some (.map (some b)) → w.heap[b]? = some (.map es clk) → MapKept.Stamped es clk →
    (∀ e ∈ es.toList, ∃ x : Int, e.key = encZ x ∧ -9223372036854775808 ≤ x ∧ x < 9223372036854775808) → es.size ≤ 1048576 →
    Invokes P srt #[.func (.func k1) #[] #[.pointer (some ⟨Bm, 0, none⟩)]] w fun e w' => ∃ (v : Value) (ss : List Int), e = .returned v ∧ (ss.map encZ).Perm (es.toList.map (·.key)) ∧
      w'.ownsRow w.heap.size T 1 v ss.length ((ss.mergeSort leZ).map encZ) ∧ (v = .slice none 0 0 ↔ ss = []) ∧ Below w.heap.size w w'

section
variable {P : Program} {E : Env} {B : Nat} {F : Nat → Nat → Prop} {H : Heap}

theorem relL_ints (l : List Int) : RelL E (l.map (.int .i64)) (l.map encZ) := by
  induction l with
  | nil => exact .nil
  | cons a l ih => exact .cons (by simp [Rel, encZ]) ih

theorem pureL_ints (l : List Int) : pureL (l.map (.int .i64)) = true := by
  induction l with
  | nil => rfl
  | cons a l ih => simp [pureL, V.pure, ih]

theorem keysInt_sound : ∀ {es : List (V × V)} {ss : List Int} {ces : List MapEntry}, keysInt es = some ss → RelM E es ces → ces.map (·.key) = ss.map encZ
  | [], ss, ces, h, r => by cases h; simp only [RelM] at r; subst r; rfl
  | (k, x) :: es, ss, ces, h, r => by
    obtain ⟨e, r', rfl, h1, h2, h3⟩ := r
    simp only [keysInt] at h
    split at h
    · rename_i s l hl
      cases h
      simp only [Rel] at h1
      simp only [List.map_cons, keysInt_sound hl h3, h1]
    · cases h

theorem encZ_perm {a b : List Int} (h : (a.map encZ).Perm (b.map encZ)) : a.Perm b := by
  have : ∀ l : List Int, (l.map encZ).map (fun v => match v with | Value.int _ n => n | _ => (0 : Int)) = l := by
    intro l
    rw [List.map_map]
    exact (List.map_congr_left (fun x _ => rfl)).trans (List.map_id l)
  have h2 := h.map (fun v => match v with | Value.int _ n => n | _ => 0)
  rwa [this, this] at h2

theorem sound_sortInt {srt k1 : FuncId} {T : TypeId} (hK : SortsKeysI P srt k1 T) (S : Sim B F H E) {fr : Nat} {dst : Option Nat} {args : List V} {cargs : List Value} {v : V} {x : Option (Nat × Nat × O)}
    (hr : RelL E args cargs) (h : primSortInt k1 fr dst (hget H) args = some (v, x)) : Invokes P srt ⟨cargs⟩ E.w (Answer B F H E (.ret v) (wr H x)) := by
  unfold primSortInt at h
  split at h
  case h_2 => cases h
  rename_i f f1 s1
  split at h
  case isFalse => cases h
  rename_i hf
  subst hf
  split at h
  case h_2 => cases h
  rename_i fm sm rest hc
  split at h
  case h_2 => cases h
  rename_i es bs clk hm
  split at h
  case h_2 => cases h
  rename_i ss hss
  split at h
  case isFalse => cases h
  rename_i hchk
  obtain ⟨hnd, hbn, hbl, hlen, hcount⟩ := hchk
  cases h
  obtain ⟨c, r, rfl, h1, h2⟩ := RelL.cons_iff.1 hr
  rw [RelL.nil_iff] at h2; subst h2
  simp only [Rel] at h1
  obtain ⟨fs, cs, rfl, hfs, hcs⟩ := h1
  rw [RelL.nil_iff] at hfs; subst hfs
  obtain ⟨cp, r2, rfl, h3, h4⟩ := RelL.cons_iff.1 hcs
  rw [RelL.nil_iff] at h4; subst h4
  simp only [Rel] at h3
  obtain ⟨Bm, hBm, rfl⟩ := h3
  obtain ⟨b0, c0, T0, vs, rest0, g1, g2, g3, g4, g5, _, _, g8⟩ := S.lies hc
  rw [hBm] at g1; cases g1
  obtain ⟨cm, vr, rfl, h5, _⟩ := RelL.cons_iff.1 g5
  simp only [Rel] at h5
  obtain ⟨b, hb, rfl⟩ := h5
  obtain ⟨b', ces, k1', k2, k3, k4, k5⟩ := S.obj fm sm _ hm
  rw [hb] at k1'; cases k1'
  have hkeys := keysInt_sound hss k4
  have hcell : E.w.cell? ⟨Bm, 0, none⟩ = some (.map (some b)) := by
    have := g8 0 (.map (some b)) rfl
    simpa using this
  have hst : MapKept.Stamped ces clk := by
    refine ⟨fun x hx => hbl x.born ?_, by rw [k5]; exact hbn, ?_⟩
    · rw [← k5]; exact List.mem_map.2 ⟨x, hx, rfl⟩
    · rw [hkeys]
      rw [List.Nodup, List.pairwise_map]
      exact hnd.imp fun hne he => hne (by simpa [encZ] using he)
  have hsz : ces.size = ss.length := by
    have := congrArg List.length hkeys
    simpa using this
  refine (hK Bm b E.w ces clk (Array.getElem?_eq_some_iff.1 g3).1 hcell k3 hst ?_ (by omega)).mono ?_
  · intro e he
    have : e.key ∈ ss.map encZ := by rw [← hkeys]; exact List.mem_map.2 ⟨e, he, rfl⟩
    obtain ⟨x, hx, hxe⟩ := List.mem_map.1 this
    exact ⟨x, hxe.symm, hlen x hx⟩
  · rintro e w' ⟨cv, ss', rfl, hp, hrow, hnil, hbelow⟩
    obtain ⟨X, S'⟩ := S.below hbelow
    rw [hkeys] at hp
    have hp' := encZ_perm hp
    have hsort := mergeSort_sortZ hp'
    refine ⟨{ E with w := w' }, rfl, ⟨cv, rfl, ?_⟩, S', X, Nat.le_refl _⟩
    rw [hsort] at hrow
    obtain ⟨hl, hrow⟩ := hrow
    have hlen' : ss'.length = (sortZ ss).length := by simpa using hl.symm
    unfold sortedV
    rcases hrow with ⟨rfl, h0⟩ | ⟨g, cap, cur, rfl, q1, q2, q3, q4, q5, q6⟩
    · have : sortZ ss = [] := List.eq_nil_of_length_eq_zero (by omega)
      rw [this]
      simp [Rel]
    · have hne : ss' ≠ [] := fun e => by have := hnil.2 e; cases this
      have hne2 : ((sortZ ss).map (V.int .i64)).isEmpty = false := by
        cases hs : sortZ ss with
        | nil => rw [hs] at hlen'; exact absurd (List.eq_nil_of_length_eq_zero hlen') hne
        | cons a l => rfl
      rw [hne2]
      simp only [Bool.false_eq_true, if_false, Rel]
      refine ⟨⟨g, 0, none⟩, cap, (sortZ ss).map encZ, ?_, ?_, (fun h => by cases h), .inr ⟨rfl, fun i v hv => ?_⟩, relL_ints _, pureL_ints _⟩
      · simp [hlen']
      · simp only [List.length_map]; omega
      · rw [← q6, Nat.mul_one, List.getElem?_take] at hv
        split at hv
        · refine ⟨?_, fun hm => ?_⟩
          · simp only [Nat.zero_add, World.cell?, q2]
            simpa using hv
          · have := S.modsz g (0 + i) hm
            omega
        · cases hv

/-! ### A map of such keys, for the library's contracts -/
theorem rd_int {k : TypeId} (hk : P.underlying k = some (.int .i64)) {e : MapEntry} {x : Int} (he : e.key = encZ x) (hx : -9223372036854775808 ≤ x ∧ x < 9223372036854775808) : WideElems.rd P k anyR e = some (Lit.int .i64 x, .nil) := by
  have : (Lit.int .i64 x).wf = true := by
    have h1 : IntKind.i64.min = -9223372036854775808 := by decide
    have h2 : IntKind.i64.max = 9223372036854775807 := by decide
    simp only [Lit.wf, h1, h2, Bool.and_eq_true, decide_eq_true_eq]
    omega
  simp [WideElems.rd, keyOf, hk, mapKey, he, anyR, encZ, this]

theorem ownsMap_int {k : TypeId} (hk : P.underlying k = some (.int .i64)) {w : World} {b clk : Nat} {es : Array MapEntry} (hb : w.heap[b]? = some (.map es clk)) (hst : MapKept.Stamped es clk)
    (hkeys : ∀ e ∈ es.toList, ∃ x : Int, e.key = encZ x ∧ -9223372036854775808 ≤ x ∧ x < 9223372036854775808) (hsz : es.size ≤ 1048576) : w.ownsMap P k anyR b 1048576 (datumOf P k es) :=
  ⟨es, clk, hb, ⟨Nat.le_trans hsz (by decide), hst, fun x hx => by obtain ⟨l, h1, h2⟩ := hkeys x hx; exact ⟨_, rd_int hk h1 h2⟩⟩, hsz, rfl⟩

theorem intKeys_datum {k : TypeId} (hk : P.underlying k = some (.int .i64)) {es : Array MapEntry} (hkeys : ∀ e ∈ es.toList, ∃ x : Int, e.key = encZ x ∧ -9223372036854775808 ≤ x ∧ x < 9223372036854775808) :
    ((intKeys (datumOf P k es)).map encZ).Perm (es.toList.map (·.key)) := by
  have h1 : ((es.toList.map (WideElems.rg P k anyR)).foldr DataW.insert []).Perm (es.toList.map (WideElems.rg P k anyR)) := WideShapes.sorted_perm _
  have h2 := (h1.map fun p => intOf p.1).map encZ
  refine h2.trans ?_
  rw [List.map_map, List.map_map]
  have : es.toList.map (encZ ∘ (fun p : Lit × DataW Unit => intOf p.1) ∘ WideElems.rg P k anyR) = es.toList.map (·.key) := by
    refine List.map_congr_left fun e he => ?_
    obtain ⟨x, q1, q2⟩ := hkeys e he
    simp only [Function.comp, WideElems.rg, rd_int hk q1 q2, Option.getD_some, intOf, q1]
  exact this ▸ .refl _

end
end Go.AM
end
