/- This file holds in one the texts Am38; each says at its head what it proves. -/
import Derived.Test.YtebbgmeomkjibaaG22
import Derived.Sort.KeysCollected
import Derived.Laws.AppendOwn
set_option linter.unusedSimpArgs false
set_option linter.unusedVariables false
section
/- The abstract machine, part 38: slices.Sorted(maps.Keys(m)) at strings. -/
namespace Go.AM
open Go.RowKit Go.Sort Go.Maps Go.Proofs

def keysStr : List (V × V) → Option (List (List UInt8))
  | [] => some []
  | (k, _) :: r => match k, keysStr r with
    | .str s, some l => some (s :: l)
    | _, _ => none

def insB (x : List UInt8) : List (List UInt8) → List (List UInt8)
  | [] => [x]
  | y :: l => if leB x y then x :: y :: l else y :: insB x l
def sortB : List (List UInt8) → List (List UInt8)
  | [] => []
  | x :: l => insB x (sortB l)

theorem insB_perm (x : List UInt8) : ∀ l, (insB x l).Perm (x :: l)
  | [] => .refl _
  | y :: l => by
    unfold insB
    split
    · exact .refl _
    · exact ((insB_perm x l).cons y).trans (List.Perm.swap x y l)
theorem sortB_perm : ∀ l, (sortB l).Perm l
  | [] => .refl _
  | x :: l => (insB_perm x _).trans ((sortB_perm l).cons x)
theorem leB_trans {a b c : List UInt8} (h1 : leB a b = true) (h2 : leB b c = true) : leB a c = true := by
  simp only [leB, decide_eq_true_eq] at *; exact List.le_trans h1 h2
theorem leB_total {a b : List UInt8} (h : leB a b = false) : leB b a = true := by
  simp only [leB, decide_eq_false_iff_not, decide_eq_true_eq] at *
  rcases List.le_total a b with h1 | h1
  · exact absurd h1 h
  · exact h1
theorem insB_sorted (x : List UInt8) : ∀ l, l.Pairwise (fun a b => leB a b = true) → (insB x l).Pairwise (fun a b => leB a b = true)
  | [], _ => by simp [insB]
  | y :: l, h => by
    obtain ⟨h1, h2⟩ := List.pairwise_cons.1 h
    unfold insB
    split
    · rename_i hx
      refine List.pairwise_cons.2 ⟨fun z hz => ?_, h⟩
      rcases List.mem_cons.1 hz with rfl | hz
      · exact hx
      · exact leB_trans hx (h1 z hz)
    · rename_i hx
      refine List.pairwise_cons.2 ⟨fun z hz => ?_, insB_sorted x l h2⟩
      rcases List.mem_cons.1 ((insB_perm x l).mem_iff.1 hz) with rfl | hz
      · exact leB_total (by simpa using hx)
      · exact h1 z hz
theorem sortB_sorted : ∀ l, (sortB l).Pairwise (fun a b => leB a b = true)
  | [] => .nil
  | x :: l => insB_sorted x _ (sortB_sorted l)
theorem mergeSort_sortB {l l' : List (List UInt8)} (h : l.Perm l') : l.mergeSort leB = sortB l' := by
  have tr : ∀ a b c : List UInt8, leB a b = true → leB b c = true → leB a c = true := fun a b c h1 h2 => leB_trans h1 h2
  have to : ∀ a b : List UInt8, (leB a b || leB b a) = true := fun a b => by
    cases hx : leB a b with
    | true => rfl
    | false => simpa using leB_total hx
  refine List.Perm.eq_of_pairwise (le := fun a b => leB a b = true) (fun a b _ _ h1 h2 => ?_) (List.pairwise_mergeSort tr to l) (sortB_sorted l') (((List.mergeSort_perm l leB).trans h).trans (sortB_perm l').symm)
  simp only [leB, decide_eq_true_eq] at h1 h2
  exact List.le_antisymm h1 h2

def sortedV (l : List V) : V := if l.isEmpty then .nilslice else .islice l l.length false

def primSortStr (k1 : FuncId) : Prim := fun _ _ g as => match as with
  | [.func (.func f) [] [.ptr fr s 0]] => if f = k1 then (match g fr s with
    | some (.cells (.map fm sm :: _)) => (match g fm sm with
      | some (.map es bs clk) => (match keysStr es with
        | some ss => if ss.Nodup ∧ bs.Nodup ∧ (∀ b ∈ bs, b < clk) ∧ (∀ x ∈ ss, x.length ≤ 1048576) ∧ ss.length ≤ 1048576 then some (sortedV ((sortB ss).map .str), none) else none
        | none => none)
      | _ => none)
    | _ => none) else none
  | _ => none

def SortsKeys (P : Program) (srt k1 : FuncId) (T : TypeId) : Prop :=
  ∀ (Bm b : Nat) (w : World) (es : Array MapEntry) (clk : Nat), Bm < w.heap.size → w.cell? ⟨Bm, 0, none⟩ = some (.map (some b)) → w.heap[b]? = some (.map es clk) → MapKept.Stamped es clk →
    (∀ e ∈ es.toList, ∃ x : List UInt8, e.key = encStr x ∧ x.length ≤ 1048576) → es.size ≤ 1048576 →
    Invokes P srt #[.func (.func k1) #[] #[.pointer (some ⟨Bm, 0, none⟩)]] w fun e w' => ∃ (v : Value) (ss : List (List UInt8)), e = .returned v ∧ (ss.map encStr).Perm (es.toList.map (·.key)) ∧
      w'.ownsRow w.heap.size T 1 v ss.length ((ss.mergeSort leB).map encStr) ∧ (v = .slice none 0 0 ↔ ss = []) ∧ Below w.heap.size w w'

section
variable {P : Program} {E : Env} {B : Nat} {F : Nat → Nat → Prop} {H : Heap}

theorem Sim.below (S : Sim B F H E) {w' : World} (hb : Below E.w.heap.size E.w w') : Ext H.length B E { E with w := w' } ∧ Sim B F H { E with w := w' } := by
  have X : Ext 0 E.w.heap.size (AM.bare E.w E.mod) (AM.bare w' E.mod) := by
    have old : ∀ b, b < E.w.heap.size → w'.heap[b]? = E.w.heap[b]? := hb.block
    refine ⟨hb.size, fun b T n h => ?_, fun b i v _ h => ?_, fun _ _ _ _ h => h, fun _ _ _ _ h => (by cases h), fun _ _ _ _ _ _ h => (by cases h), old, ⟨hb.tape, hb.os, hb.output⟩⟩
    · exact (shape_of_heap (w := E.w) (w' := w') (old b (shape_lt h))).trans h
    · exact (cell_of_heap (old b (cell_lt h)) i).trans h
  exact S.behind X

theorem relL_strs (l : List (List UInt8)) : RelL E (l.map .str) (l.map encStr) := by
  induction l with
  | nil => exact .nil
  | cons a l ih => exact .cons (by simp [Rel, encStr]) ih

theorem pureL_strs (l : List (List UInt8)) : pureL (l.map .str) = true := by
  induction l with
  | nil => rfl
  | cons a l ih => simp [pureL, V.pure, ih]

theorem keysStr_sound : ∀ {es : List (V × V)} {ss : List (List UInt8)} {ces : List MapEntry}, keysStr es = some ss → RelM E es ces → ces.map (·.key) = ss.map encStr
  | [], ss, ces, h, r => by cases h; simp only [RelM] at r; subst r; rfl
  | (k, x) :: es, ss, ces, h, r => by
    obtain ⟨e, r', rfl, h1, h2, h3⟩ := r
    simp only [keysStr] at h
    split at h
    · rename_i s l hl
      cases h
      simp only [Rel] at h1
      simp only [List.map_cons, keysStr_sound hl h3, h1]
    · cases h

theorem encStr_perm {a b : List (List UInt8)} (h : (a.map encStr).Perm (b.map encStr)) : a.Perm b := by
  have : ∀ l : List (List UInt8), (l.map encStr).map (fun v => match v with | Value.string s => s.data.toList | _ => []) = l := by
    intro l
    rw [List.map_map]
    exact (List.map_congr_left (fun x _ => by simp)).trans (List.map_id l)
  have h2 := h.map (fun v => match v with | Value.string s => s.data.toList | _ => [])
  rwa [this, this] at h2

theorem sound_sortStr {srt k1 : FuncId} {T : TypeId} (hK : SortsKeys P srt k1 T) (S : Sim B F H E) {fr : Nat} {dst : Option Nat} {args : List V} {cargs : List Value} {v : V} {x : Option (Nat × Nat × O)}
    (hr : RelL E args cargs) (h : primSortStr k1 fr dst (hget H) args = some (v, x)) : Invokes P srt ⟨cargs⟩ E.w (Answer B F H E (.ret v) (wr H x)) := by
  unfold primSortStr at h
  split at h
  case h_2 => cases h
  rename_i f f1 s1
  split at h
  case isFalse => cases h
  rename_i hf
  subst hf
  split at h
  case h_2 => cases h
  rename_i fm sm rest hc
  split at h
  case h_2 => cases h
  rename_i es bs clk hm
  split at h
  case h_2 => cases h
  rename_i ss hss
  split at h
  case isFalse => cases h
  rename_i hchk
  obtain ⟨hnd, hbn, hbl, hlen, hcount⟩ := hchk
  cases h
  obtain ⟨c, r, rfl, h1, h2⟩ := RelL.cons_iff.1 hr
  rw [RelL.nil_iff] at h2; subst h2
  simp only [Rel] at h1
  obtain ⟨fs, cs, rfl, hfs, hcs⟩ := h1
  rw [RelL.nil_iff] at hfs; subst hfs
  obtain ⟨cp, r2, rfl, h3, h4⟩ := RelL.cons_iff.1 hcs
  rw [RelL.nil_iff] at h4; subst h4
  simp only [Rel] at h3
  obtain ⟨Bm, hBm, rfl⟩ := h3
  obtain ⟨b0, c0, T0, vs, rest0, g1, g2, g3, g4, g5, _, _, g8⟩ := S.lies hc
  rw [hBm] at g1; cases g1
  obtain ⟨cm, vr, rfl, h5, _⟩ := RelL.cons_iff.1 g5
  simp only [Rel] at h5
  obtain ⟨b, hb, rfl⟩ := h5
  obtain ⟨b', ces, k1', k2, k3, k4, k5⟩ := S.obj fm sm _ hm
  rw [hb] at k1'; cases k1'
  have hkeys := keysStr_sound hss k4
  have hcell : E.w.cell? ⟨Bm, 0, none⟩ = some (.map (some b)) := by
    have := g8 0 (.map (some b)) rfl
    simpa using this
  have hst : MapKept.Stamped ces clk := by
    refine ⟨fun x hx => hbl x.born ?_, by rw [k5]; exact hbn, ?_⟩
    · rw [← k5]; exact List.mem_map.2 ⟨x, hx, rfl⟩
    · rw [hkeys]
      rw [List.Nodup, List.pairwise_map]
      exact hnd.imp fun hne he => hne (encStr_inj he)
  have hsz : ces.size = ss.length := by
    have := congrArg List.length hkeys
    simpa using this
  refine (hK Bm b E.w ces clk (Array.getElem?_eq_some_iff.1 g3).1 hcell k3 hst ?_ (by omega)).mono ?_
  · intro e he
    have : e.key ∈ ss.map encStr := by rw [← hkeys]; exact List.mem_map.2 ⟨e, he, rfl⟩
    obtain ⟨x, hx, hxe⟩ := List.mem_map.1 this
    exact ⟨x, hxe.symm, hlen x hx⟩
  · rintro e w' ⟨cv, ss', rfl, hp, hrow, hnil, hbelow⟩
    obtain ⟨X, S'⟩ := S.below hbelow
    rw [hkeys] at hp
    have hp' := encStr_perm hp
    have hsort := mergeSort_sortB hp'
    refine ⟨{ E with w := w' }, rfl, ⟨cv, rfl, ?_⟩, S', X, Nat.le_refl _⟩
    rw [hsort] at hrow
    obtain ⟨hl, hrow⟩ := hrow
    have hlen' : ss'.length = (sortB ss).length := by simpa using hl.symm
    unfold sortedV
    rcases hrow with ⟨rfl, h0⟩ | ⟨g, cap, cur, rfl, q1, q2, q3, q4, q5, q6⟩
    · have : sortB ss = [] := List.eq_nil_of_length_eq_zero (by omega)
      rw [this]
      simp [Rel]
    · have hne : ss' ≠ [] := fun e => by have := hnil.2 e; cases this
      have hne2 : ((sortB ss).map V.str).isEmpty = false := by
        cases hs : sortB ss with
        | nil => rw [hs] at hlen'; exact absurd (List.eq_nil_of_length_eq_zero hlen') hne
        | cons a l => rfl
      rw [hne2]
      simp only [Bool.false_eq_true, if_false, Rel]
      refine ⟨⟨g, 0, none⟩, cap, (sortB ss).map encStr, ?_, ?_, (fun h => by cases h), .inr ⟨rfl, fun i v hv => ?_⟩, relL_strs _, pureL_strs _⟩
      · simp [hlen']
      · simp only [List.length_map]; omega
      · rw [← q6, Nat.mul_one, List.getElem?_take] at hv
        split at hv
        · refine ⟨?_, fun hm => ?_⟩
          · simp only [Nat.zero_add, World.cell?, q2]
            simpa using hv
          · have := S.modsz g (0 + i) hm
            omega
        · cases hv

/-! ### A map of such keys, for the library's contracts -/
def anyR : Value → Option (DataW Unit × List MemPlace) := fun _ => some (.nil, [])
def datumOf (P : Program) (k : TypeId) (es : Array MapEntry) : DataW Unit := .map ((es.toList.map (WideElems.rg P k anyR)).foldr DataW.insert [])

theorem rd_str {k : TypeId} (hk : P.underlying k = some .string) {e : MapEntry} {x : List UInt8} (he : e.key = encStr x) (hx : x.length ≤ 1048576) : WideElems.rd P k anyR e = some (.string x, .nil) := by
  have : x.length ≤ maxLen := Nat.le_trans hx (by decide)
  simp [WideElems.rd, keyOf, hk, mapKey, he, anyR, ByteArray.size, this]

theorem ownsMap_str {k : TypeId} (hk : P.underlying k = some .string) {w : World} {b clk : Nat} {es : Array MapEntry} (hb : w.heap[b]? = some (.map es clk)) (hst : MapKept.Stamped es clk)
    (hkeys : ∀ e ∈ es.toList, ∃ x : List UInt8, e.key = encStr x ∧ x.length ≤ 1048576) (hsz : es.size ≤ 1048576) : w.ownsMap P k anyR b 1048576 (datumOf P k es) :=
  ⟨es, clk, hb, ⟨Nat.le_trans hsz (by decide), hst, fun x hx => by obtain ⟨l, h1, h2⟩ := hkeys x hx; exact ⟨_, rd_str hk h1 h2⟩⟩, hsz, rfl⟩

theorem size_datum {k : TypeId} {es : Array MapEntry} : Maps.size (datumOf P k es) = es.size := by
  simp [datumOf, Maps.size, ((WideShapes.sorted_perm _).length_eq)]

theorem strKeys_datum {k : TypeId} (hk : P.underlying k = some .string) {es : Array MapEntry} (hkeys : ∀ e ∈ es.toList, ∃ x : List UInt8, e.key = encStr x ∧ x.length ≤ 1048576) :
    ((strKeys (datumOf P k es)).map encStr).Perm (es.toList.map (·.key)) := by
  have h1 : ((es.toList.map (WideElems.rg P k anyR)).foldr DataW.insert []).Perm (es.toList.map (WideElems.rg P k anyR)) := WideShapes.sorted_perm _
  have h2 := (h1.map fun p => strOf p.1).map encStr
  refine h2.trans ?_
  rw [List.map_map, List.map_map]
  have : es.toList.map (encStr ∘ (fun p : Lit × DataW Unit => strOf p.1) ∘ WideElems.rg P k anyR) = es.toList.map (·.key) := by
    refine List.map_congr_left fun e he => ?_
    obtain ⟨x, q1, q2⟩ := hkeys e he
    simp only [Function.comp, WideElems.rg, rd_str hk q1 q2, Option.getD_some, strOf, q1]
  exact this ▸ .refl _

end
end Go.AM
end
