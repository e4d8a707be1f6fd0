/- This file holds in one the texts Bx52; each says at its head what it proves. -/
import Derived.Test.YtafhcdagifopeaaGreatDoorT13
import Derived.Test.YtafhcdagifopeaaGreatDoorT23
set_option linter.unusedSimpArgs false
set_option linter.unusedVariables false
section
/- The machine for closed laws: an object that nothing names changes nothing of what code comes to. -/
namespace Go.AM.BM

theorem hset_comm (H : Heap) {f s f' s' : Nat} (o o' : O) (h : ¬ (f = f' ∧ s = s')) : hset (hset H f s o) f' s' o' = hset (hset H f' s' o') f s o := by
  unfold hset
  apply List.ext_getElem?
  intro i
  simp only [List.getElem?_modify]
  by_cases e1 : f = i
  · by_cases e2 : f' = i
    · have hs : s ≠ s' := fun e => h ⟨e1.trans e2.symm, e⟩
      simp only [e1, e2, if_true]
      cases H[i]? with
      | none => rfl
      | some x => simp [fset_comm s s' o o' hs x]
    · simp only [e1, e2, if_true, if_false]
      cases H[i]? <;> rfl
  · by_cases e2 : f' = i
    · simp only [e1, e2, if_true, if_false]
      cases H[i]? <;> rfl
    · simp only [e1, e2, if_false]

theorem hget_hset_ne (H : Heap) {f s f' s' : Nat} (o : O) (h : ¬ (f' = f ∧ s' = s)) : hget (hset H f s o) f' s' = hget H f' s' := by
  unfold hget hset
  rw [List.getElem?_modify]
  by_cases e : f = f'
  · subst e
    cases H[f]? with
    | none => rfl
    | some x => simp [fget_fset]; exact fun h' => absurd ⟨rfl, h'⟩ h
  · simp only [e, if_false]
    cases H[f']? <;> rfl

theorem topOf_fset (s : Nat) (o : O) : ∀ fr : Frame, topOf (fset fr s o) = max (topOf fr) (s + 1)
  | [] => by simp [fset, topOf]
  | (k, p) :: r => by
    simp only [fset]
    split
    · rename_i h; subst h; simp only [topOf]; omega
    · split
      · simp only [topOf]; omega
      · simp only [topOf, topOf_fset s o r]; omega
theorem nextOf_le (H : Heap) (f s : Nat) (o : O) : nextOf H ≤ nextOf (hset H f s o) := by
  cases H with
  | nil => simp [hset]
  | cons F G =>
    cases f with
    | zero => simp only [hset, List.modify_cons, if_true, nextOf, topOf_fset]; omega
    | succ f => simp [hset, List.modify_cons, nextOf]
theorem nextOf_same (H : Heap) {s : Nat} (o : O) (h : s < nextOf H) : nextOf (hset H 0 s o) = nextOf H := by
  cases H with
  | nil => cases h
  | cons F G =>
    simp only [nextOf] at h
    simp only [hset, List.modify_cons, if_true, nextOf, topOf_fset]; omega

def Spot (s : Nat) (H : Heap) : Prop := s < nextOf H ∧ hget H 0 s = none
theorem Spot.next {s : Nat} {H : Heap} (h : Spot s H) (x : O) : nextOf (hset H 0 s x) = nextOf H := nextOf_same H x h.1
theorem Spot.hset {s : Nat} {H : Heap} (h : Spot s H) {f s' : Nat} {o : O} (hn : ¬ (f = 0 ∧ s' = s)) : Spot s (hset H f s' o) :=
  ⟨Nat.lt_of_lt_of_le h.1 (nextOf_le _ _ _ _), by rw [hget_hset_ne]; exact h.2; exact fun e => hn ⟨e.1.symm, e.2.symm⟩⟩
theorem Spot.get {s : Nat} {H : Heap} (h : Spot s H) (x : O) {f s' : Nat} (hn : ¬ (f = 0 ∧ s' = s)) : hget (AM.hset H 0 s x) f s' = hget H f s' := hget_hset_ne _ _ hn
theorem Spot.gle {s : Nat} {H : Heap} (h : Spot s H) (x : O) : GLe (hget H) (hget (AM.hset H 0 s x)) := by
  intro f s' y hy
  rw [h.get x]; exact hy
  rintro ⟨rfl, rfl⟩
  rw [h.2] at hy; cases hy

theorem wrL_spot {s : Nat} : ∀ {ws : List (Nat × Nat × O)} {H : Heap} (_ : Spot s H) (x : O) (_ : ∀ y ∈ ws, ¬ (y.1 = 0 ∧ y.2.1 = s)), wrL (hset H 0 s x) ws = hset (wrL H ws) 0 s x ∧ Spot s (wrL H ws)
  | [], H, h, x, _ => ⟨rfl, h⟩
  | (f, s', o) :: r, H, h, x, hn => by
    have h0 : ¬ (f = 0 ∧ s' = s) := hn _ List.mem_cons_self
    simp only [wrL]
    rw [hset_comm H x o (fun e => h0 ⟨e.1.symm, e.2.symm⟩)]
    exact wrL_spot (h.hset h0) x fun y hy => hn y (List.mem_cons_of_mem _ hy)
theorem wr_eq (H : Heap) (w : Option (Nat × Nat × O)) : wr H w = wrL H w.toList := by
  cases w with
  | none => rfl
  | some y => obtain ⟨f, s, o⟩ := y; rfl

section
variable {P : Program} {pol : Pol} {C : Call} {L : Body → Body} {fn : Nat}

def BMono (b : Body) : Prop := ∀ t H ex t' H' s x, b t H = some (ex, t', H') → Spot s H → b t (hset H 0 s x) = some (ex, t', hset H' 0 s x) ∧ Spot s H'
def CMono (C : Call) : Prop := ∀ f args H r H' s x, C f args H = some (r, H') → Spot s H → C f args (hset H 0 s x) = some (r, hset H' 0 s x) ∧ Spot s H'
def LMono (L : Body → Body) : Prop := ∀ b, BMono b → BMono (L b)
structure Tame (pol : Pol) : Prop where
  prim : ∀ f g, pol.prim f = some g → ∀ nm G G' args v w, GLe G G' → G' 0 nm = G 0 nm → g 0 (some nm) G args = some (v, w) → g 0 (some nm) G' args = some (v, w) ∧ ∀ x ∈ w.toList, (∃ y, G x.1 x.2.1 = some y) ∨ (x.1 = 0 ∧ x.2.1 = nm)
  loop : ∀ fn r g, pol.loop fn r = some g → ∀ t H t' H' s x, g t H = some (t', H') → Spot s H → g t (hset H 0 s x) = some (t', hset H' 0 s x) ∧ Spot s H'
  prims : ∀ f g, pol.prims f = some g → ∀ nm G G' args v ws, GLe G G' → G' 0 nm = G 0 nm → g nm G args = some (v, ws) → g nm G' args = some (v, ws) ∧ ∀ x ∈ ws, (∃ y, G x.1 x.2.1 = some y) ∨ (x.1 = 0 ∧ x.2.1 = nm)

theorem fix1_spot {H : Heap} {s : Nat} {x : O} {v v' : V} {w : Option (Nat × Nat × O)} (sp : Spot s H) (h : fix1 (hget H) v = some (v', w)) : fix1 (hget (hset H 0 s x)) v = some (v', w) ∧ ∀ y ∈ w.toList, ¬ (y.1 = 0 ∧ y.2.1 = s) := by
  unfold fix1 at h ⊢
  split at h
  · rename_i f s' o len cap esz
    split at h
    case h_2 => cases h
    rename_i xs hg
    have hne : ¬ (f = 0 ∧ s' = s) := by rintro ⟨rfl, rfl⟩; rw [sp.2] at hg; cases hg
    simp only [sp.get x hne, hg]
    split at h
    case isFalse => cases h
    rename_i hc
    cases h
    rw [if_pos hc]
    refine ⟨rfl, fun y hy => ?_⟩
    simp only [Option.toList, List.mem_singleton] at hy
    subst hy; exact hne
  · cases h; exact ⟨rfl, fun y hy => by cases hy⟩
theorem fixV_spot {H : Heap} {s : Nat} {x : O} {v v' : V} {w : Option (Nat × Nat × O)} (sp : Spot s H) (h : fixV (hget H) v = some (v', w)) : fixV (hget (hset H 0 s x)) v = some (v', w) ∧ ∀ y ∈ w.toList, ¬ (y.1 = 0 ∧ y.2.1 = s) := by
  unfold fixV at h ⊢
  split at h
  · rename_i y r
    cases hy : fix1 (hget H) y with
    | none => rw [hy] at h; cases h
    | some z =>
      rw [hy] at h; cases h
      obtain ⟨g1, g2⟩ := fix1_spot (x := x) sp (v' := z.1) (w := z.2) hy
      exact ⟨by simp only [g1, Option.map_some], g2⟩
  · exact fix1_spot sp h
theorem fixR_spot {b : Bool} {X Y : Option (Rt × Heap)} {s : Nat} {x : O} {H' : Heap} {r : Rt} (hX : ∀ r H, X = some (r, H) → Y = some (r, hset H 0 s x) ∧ Spot s H) (h : fixR b X = some (r, H')) : fixR b Y = some (r, hset H' 0 s x) ∧ Spot s H' := by
  cases b with
  | false => exact hX r H' h
  | true =>
    simp only [fixR] at h ⊢
    split at h
    · rename_i v H1
      obtain ⟨rfl, sp⟩ := hX _ _ rfl
      split at h
      case h_2 => cases h
      rename_i v' w hv
      cases h
      obtain ⟨g1, g2⟩ := fixV_spot (x := x) sp hv
      simp only [g1, Option.some.injEq, Prod.mk.injEq, true_and]
      rw [wr_eq, wr_eq]
      obtain ⟨q1, q2⟩ := wrL_spot sp x (ws := w.toList) g2
      exact ⟨q1, q2⟩
    · rename_i hno
      obtain ⟨rfl, sp⟩ := hX r H' h
      cases r with
      | ret v => exact absurd h (hno v H')
      | pan v => exact ⟨rfl, sp⟩

theorem fixAt_spot {H : Heap} {s : Nat} {x : O} {i : Option Nat} {args as : List V} {w : Option (Nat × Nat × O)} (sp : Spot s H) (h : fixAt (hget H) i args = some (as, w)) : fixAt (hget (hset H 0 s x)) i args = some (as, w) ∧ ∀ y ∈ w.toList, ¬ (y.1 = 0 ∧ y.2.1 = s) := by
  unfold fixAt at h ⊢
  split at h
  · cases h; exact ⟨rfl, fun y hy => by cases hy⟩
  · split at h
    case h_2 => cases h
    rename_i v hv
    split at h
    case h_2 => cases h
    rename_i y w' hy
    cases h
    obtain ⟨g1, g2⟩ := fix1_spot (x := x) sp hy
    simp only [hv, g1]
    exact ⟨trivial, g2⟩

theorem callOp_mono (tm : Tame pol) (hC : CMono C) {f : FuncId} {args : List V} {H H' : Heap} {r : Rt} {s : Nat} {x : O} (h : callOp pol C (nextOf H) f args H = some (r, H')) (sp : Spot s H) :
    callOp pol C (nextOf H) f args (hset H 0 s x) = some (r, hset H' 0 s x) ∧ Spot s H' := by
  unfold callOp at h ⊢
  cases hps : pol.prims f with
  | some g =>
    rw [hps] at h
    simp only at h ⊢
    obtain ⟨⟨v, ws⟩, h1, h2⟩ := Option.map_eq_some_iff.1 h
    have hne : ¬ (0 = 0 ∧ nextOf H = s) := fun e => by have := sp.1; omega
    obtain ⟨g1, g2⟩ := tm.prims f g hps (nextOf H) _ _ args v ws (sp.gle x) (sp.get x hne) h1
    rw [g1]
    simp only [Option.map_some, Option.some.injEq, Prod.mk.injEq] at h2 ⊢
    obtain ⟨h3, h4⟩ := h2
    obtain ⟨q1, q2⟩ := wrL_spot sp x (ws := ws) (fun y hy => by
      rcases g2 y hy with ⟨z, hz⟩ | ⟨e1, e2⟩
      · rintro ⟨e1, e2⟩; rw [e1, e2, sp.2] at hz; cases hz
      · rintro ⟨_, e3⟩; exact hne ⟨rfl, by omega⟩)
    rw [q1, ← h4]
    exact ⟨⟨h3, rfl⟩, q2⟩
  | none =>
  rw [hps] at h
  simp only at h ⊢
  cases hp : pol.prim f with
  | none =>
    rw [hp] at h
    simp only at h ⊢
    split at h
    case h_2 => cases h
    rename_i as w has
    obtain ⟨g1, g2⟩ := fixAt_spot (x := x) sp has
    rw [g1]
    rw [wr_eq] at h
    simp only
    obtain ⟨q1, q2⟩ := wrL_spot sp x (ws := w.toList) g2
    rw [wr_eq, q1]
    exact fixR_spot (fun r H1 hX => hC _ _ _ _ _ s x hX q2) h
  | some g =>
    rw [hp] at h
    simp only at h ⊢
    obtain ⟨⟨v, w⟩, h1, h2⟩ := Option.map_eq_some_iff.1 h
    have hne : ¬ (0 = 0 ∧ nextOf H = s) := fun e => by have := sp.1; omega
    obtain ⟨g1, g2⟩ := tm.prim f g hp (nextOf H) _ _ args v w (sp.gle x) (sp.get x hne) h1
    rw [g1]
    simp only [Option.map_some, Option.some.injEq, Prod.mk.injEq] at h2 ⊢
    obtain ⟨h3, h4⟩ := h2
    rw [wr_eq] at h4 ⊢
    obtain ⟨q1, q2⟩ := wrL_spot sp x (ws := w.toList) (fun y hy => by
      rcases g2 y hy with ⟨z, hz⟩ | ⟨e1, e2⟩
      · rintro ⟨e1, e2⟩; rw [e1, e2, sp.2] at hz; cases hz
      · rintro ⟨_, e3⟩; exact hne ⟨rfl, by omega⟩)
    rw [q1, ← h4]
    exact ⟨⟨h3, rfl⟩, q2⟩

theorem moreOp_evOp {mt : Nat → Bool} {fr nm : Nat} {g : Get} {ρ : Operand → V} {o : Oper} {r : V × List (Nat × Nat × O)} (h : moreOp P g ρ nm o.op = some r) : evOp P mt fr g ρ o = none := by
  unfold moreOp at h
  split at h <;> try (cases h; done)
  rename_i c hop
  simp only [evOp, hop]
  split at h <;> try (cases h; done)
  · rename_i s x t t2 ts hc ha ht
    simp only [hc, ha, List.map_cons, List.map_nil]
    have h0 : c.argTypes[0]? = some t := by rw [← Array.getElem?_toList, ht]; rfl
    have h1 : c.argTypes[1]? = some t2 := by rw [← Array.getElem?_toList, ht]; rfl
    simp only [builtinV, h0, h1]
    unfold growV at h
    split at h <;> try (cases h; done)
    rename_i e f sl len e' hu hs
    split at h <;> try (cases h; done)
    rename_i n by_ z h2 h3 h4
    split at h <;> try (cases h; done)
    rename_i h5
    split at h <;> try (cases h; done)
    rename_i xs new m h6 h7 h8
    split at h <;> try (cases h; done)
    rename_i h9
    obtain ⟨h51, h52, h53⟩ := h5
    subst h52
    simp only [appendV, hu, h2, h3, h4, h51, if_true, h8, hs, appendTo, true_and]
    split
    · rw [h6]
      simp only
      rw [if_neg]
      rintro ⟨e1, _, _⟩
      have := h9.1
      rw [this] at e1
      have : (len + (m + 1)) * e' = len * e' + (m + 1) * e' := by rw [Nat.add_mul]
      have : 0 < (m + 1) * e' := Nat.mul_pos (by omega) h53
      omega
    · rfl
  · rename_i s t hc ha ht
    simp only [hc, ha, List.map_cons, List.map_nil, builtinV]

theorem opOne_mono (tm : Tame pol) (hC : CMono C) {nm : Nat} {t t' : List V} {H H' : Heap} {o : Oper} {ex : Ex} {s : Nat} {x : O} (h : opOne P pol C nm t H o = some (ex, t', H')) (sp : Spot s H) (hnm : nm ≠ s) :
    opOne P pol C nm t (hset H 0 s x) o = some (ex, t', hset H' 0 s x) ∧ Spot s H' := by
  have hne : ¬ (0 = 0 ∧ nm = s) := fun e => hnm e.2
  have hd : ∀ d, (atN o nm).dst = some d → hget (hset H 0 s x) 0 d = hget H 0 d := fun d e => by cases e; exact sp.get x hne
  have tgt : ∀ ws : List (Nat × Nat × O), (∀ y ∈ ws, (∃ z, hget H y.1 y.2.1 = some z) ∨ (y.1 = 0 ∧ y.2.1 = nm)) → ∀ y ∈ ws, ¬ (y.1 = 0 ∧ y.2.1 = s) := by
    intro ws hw y hy
    rcases hw y hy with ⟨z, hz⟩ | ⟨e1, e2⟩
    · rintro ⟨e1, e2⟩; rw [e1, e2, sp.2] at hz; cases hz
    · rintro ⟨_, e3⟩; exact hnm (by omega)
  unfold opOne at h
  split at h
  · rename_i hev
    split at h
    case h_2 => cases h
    rename_i v ws hm
    cases h
    have hm' := moreOp_mono (sp.gle x) (sp.get x hne) hm
    have hev' : evOp P (fun _ => true) 0 (hget (hset H 0 s x)) (rho t) (atN o nm) = none := moreOp_evOp (nm := nm) hm'
    obtain ⟨q1, q2⟩ := wrL_spot sp x (ws := ws) (tgt ws (moreOp_tgt hm))
    simp only [opOne, hev', hm', q1]
    exact ⟨trivial, q2⟩
  · rename_i v w hev
    cases h
    have hev' := evOp_mono (sp.gle x) hd hev
    have ht := evOp_tgt hev
    obtain ⟨q1, q2⟩ := wrL_spot sp x (ws := w.toList) (tgt w.toList (fun y hy => by
      cases w with
      | none => cases hy
      | some z =>
        obtain ⟨f, s', o'⟩ := z
        rw [Option.toList_some, List.mem_singleton] at hy
        subst hy
        rcases ht v f s' o' rfl with h1 | ⟨h1, h2⟩
        · exact .inl h1
        · cases h2; exact .inr ⟨h1, rfl⟩))
    simp only [opOne, hev', wr_eq, q1]
    exact ⟨trivial, q2⟩
  · rename_i v hev
    cases h
    simp only [opOne, evOp_mono (sp.gle x) hd hev]
    exact ⟨trivial, sp⟩
  · rename_i f args hev
    simp only [opOne, evOp_mono (sp.gle x) hd hev, sp.next x]
    split at h
    · rename_i v H1 hc
      cases h
      obtain ⟨q1, q2⟩ := callOp_mono tm hC (x := x) hc sp
      rw [q1]; exact ⟨rfl, q2⟩
    · rename_i v H1 hc
      cases h
      obtain ⟨q1, q2⟩ := callOp_mono tm hC (x := x) hc sp
      rw [q1]; exact ⟨rfl, q2⟩
    · cases h
  · rename_i f s' args hev
    simp only [opOne, evOp_mono (sp.gle x) hd hev]
    split at h
    case h_2 => cases h
    rename_i v H1 hc
    cases h
    obtain ⟨q1, q2⟩ := hC _ _ _ _ _ s x hc sp
    rw [q1]; exact ⟨rfl, q2⟩

theorem runOps_mono (tm : Tame pol) (hC : CMono C) {ops : Array Oper} {s : Nat} {x : O} : ∀ (l : List Oper) {t t' : List V} {H H' : Heap} {ex : Ex}, runOps P pol C ops l t H = some (ex, t', H') → Spot s H →
    runOps P pol C ops l t (hset H 0 s x) = some (ex, t', hset H' 0 s x) ∧ Spot s H'
  | [], _, _, _, _, _, h, sp => by cases h; exact ⟨rfl, sp⟩
  | o :: l, t, t', H, H', ex, h, sp => by
    simp only [runOps] at h ⊢
    split at h
    · cases h
    · exact runOps_mono tm hC l h sp
    · rw [sp.next x]
      have hnm : nextOf H ≠ s := by have := sp.1; omega
      split at h
      · rename_i t1 H1 hop
        obtain ⟨q1, q2⟩ := opOne_mono (x := x) tm hC hop sp hnm
        rw [q1]; exact runOps_mono tm hC l h q2
      · rename_i y hne
        obtain ⟨q1, q2⟩ := opOne_mono (x := x) tm hC h sp hnm
        rw [q1]
        cases ex with
        | normal => exact absurd h (hne _ _)
        | _ => exact ⟨rfl, q2⟩

theorem isFresh_mono {nm s : Nat} {H : Heap} {x : O} (sp : Spot s H) (hnm : nm ≠ s) (ws : List (Nat × Nat × O)) : isFresh nm (hset H 0 s x) ws = isFresh nm H ws := by
  unfold isFresh
  split
  · rw [sp.get x (fun e => hnm e.2)]
  · rfl
theorem keeps_mono {lim s : Nat} {H H1 : Heap} {x : O} (sp : Spot s H) (sp1 : Spot s H1) : keeps lim (hset H 0 s x) (hset H1 0 s x) = keeps lim H H1 := by
  funext f s'
  unfold keeps
  by_cases e : f = 0 ∧ s' = s
  · obtain ⟨rfl, rfl⟩ := e
    rw [sp.2, sp1.2, sp.next x]
    have h1 : hget (hset H 0 s' x) 0 s' = hget (hset H1 0 s' x) 0 s' := by
      have l0 : 0 < H.length := by have := sp.1; cases H with | nil => cases this | cons => simp
      have l1 : 0 < H1.length := by have := sp1.1; cases H1 with | nil => cases this | cons => simp
      rw [hget_hset _ _ _ _ l0, hget_hset _ _ _ _ l1]; simp
    rw [(eqbG_iff _ _).2 h1]; rfl
  · rw [sp.get x e, sp1.get x e, sp.next x]
theorem fpOf_mono {lim nm : Nat} {t t' : List V} {H H1 : Heap} {o : Oper} {ex : Ex} {s : Nat} {x : O} (h : opOne P pol C nm t H o = some (ex, t', H1)) (sp : Spot s H) (sp1 : Spot s H1) (hnm : nm ≠ s) :
    fpOf P lim nm t (hset H 0 s x) (hset H1 0 s x) o = fpOf P lim nm t H H1 o := by
  have hne : ¬ (0 = 0 ∧ nm = s) := fun e => hnm e.2
  have hd : ∀ d, (atN o nm).dst = some d → hget (hset H 0 s x) 0 d = hget H 0 d := fun d e => by cases e; exact sp.get x hne
  unfold fpOf
  split
  · rfl
  split
  · rfl
  unfold opOne at h
  split at h
  · rename_i hev
    split at h
    case h_2 => cases h
    rename_i v ws hm
    have hm' := moreOp_mono (sp.gle x) (sp.get x hne) hm
    have hev' : evOp P (fun _ => true) 0 (hget (hset H 0 s x)) (rho t) (atN o nm) = none := moreOp_evOp (nm := nm) hm'
    simp only [hev, hev', hm, hm', isFresh_mono sp hnm]
  · rename_i v w hev
    simp only [hev, evOp_mono (sp.gle x) hd hev, isFresh_mono sp hnm]
  · rename_i v hev
    simp only [hev, evOp_mono (sp.gle x) hd hev]
  · rename_i f args hev
    simp only [hev, evOp_mono (sp.gle x) hd hev, keeps_mono sp sp1]
  · rename_i f s' args hev
    simp only [hev, evOp_mono (sp.gle x) hd hev]

theorem runOpsT_mono (tm : Tame pol) (hC : CMono C) {ops : Array Oper} {lim s : Nat} {x : O} : ∀ (l : List Oper) {nm : Nat} {t t' : List V} {H H' : Heap} {T : List FP}, runOpsT P pol C ops lim nm l t H = some (t', H', T) → Spot s H → s < nm →
    runOpsT P pol C ops lim nm l t (hset H 0 s x) = some (t', hset H' 0 s x, T) ∧ Spot s H'
  | [], _, _, _, _, _, _, h, sp, _ => by cases h; exact ⟨rfl, sp⟩
  | o :: l, nm, t, t', H, H', T, h, sp, hs => by
    simp only [runOpsT] at h ⊢
    split at h
    · cases h
    · split at h
      case h_2 => cases h
      rename_i t1 H1 T1 hr
      cases h
      obtain ⟨q1, q2⟩ := runOpsT_mono (x := x) tm hC l hr sp (by omega)
      rw [q1]; exact ⟨rfl, q2⟩
    · split at h
      case h_2 => cases h
      rename_i t1 H1 hop
      split at h
      case h_2 => cases h
      rename_i t2 H2 T2 hr
      cases h
      obtain ⟨q1, q2⟩ := opOne_mono (x := x) tm hC hop sp (by omega)
      obtain ⟨q3, q4⟩ := runOpsT_mono (x := x) tm hC l hr q2 (by omega)
      rw [q1]
      simp only [q3, fpOf_mono (x := x) hop sp q2 (by omega)]
      exact ⟨trivial, q4⟩

theorem nextC_mono {g g' : Get} (hg : GLe g g') {y : V} {l : List (V × Option (Nat × Nat × O))} (h : nextC g y = some l) : nextC g' y = some l := by
  unfold nextC at h ⊢
  split at h <;> try (cases h; done)
  split at h <;> try (cases h; done)
  · rename_i he; rw [hg _ _ _ he]; exact h
  · rename_i he
    rw [hg _ _ _ he]
    simp only
    split at h <;> try (cases h; done)
    rename_i he2
    rw [hg _ _ _ he2]; exact h
theorem nextC_tgt {g : Get} {y : V} {l : List (V × Option (Nat × Nat × O))} (h : nextC g y = some l) : ∀ c ∈ l, ∀ z ∈ c.2.toList, ∃ w, g z.1 z.2.1 = some w := by
  unfold nextC at h
  (repeat' split at h) <;> cases h
  · intro c hc z hz
    rw [List.mem_singleton] at hc
    subst hc
    rw [Option.toList_some, List.mem_singleton] at hz
    subst hz; exact ⟨_, by assumption⟩
  · intro c hc z hz
    rw [List.mem_singleton] at hc
    subst hc
    rw [Option.toList_some, List.mem_singleton] at hz
    subst hz; exact ⟨_, by assumption⟩
  · intro c hc z hz
    obtain ⟨e, _, rfl⟩ := List.mem_map.1 hc
    rw [Option.toList_some, List.mem_singleton] at hz
    subst hz; exact ⟨_, by assumption⟩

theorem exec_mono2 (tm : Tame pol) (hC : CMono C) (hL : LMono L) : ∀ (c : Code), BMono (exec P pol C L fn c) ∧
    ∀ v w t H ex t' H' s x, execF P pol C L fn c v w t H = some (ex, t', H') → (∀ z ∈ w.toList, ¬ (z.1 = 0 ∧ z.2.1 = s)) → Spot s H → execF P pol C L fn c v w t (hset H 0 s x) = some (ex, t', hset H' 0 s x) ∧ Spot s H' := by
  intro c
  induction c with
  | skip => exact ⟨fun t H ex t' H' s x h sp => by cases h; exact ⟨rfl, sp⟩, fun v w t H ex t' H' s x h => by cases h⟩
  | exit id => exact ⟨fun t H ex t' H' s x h sp => by cases h; exact ⟨rfl, sp⟩, fun v w t H ex t' H' s x h => by cases h⟩
  | ret => exact ⟨fun t H ex t' H' s x h sp => by cases h; exact ⟨rfl, sp⟩, fun v w t H ex t' H' s x h => by cases h⟩
  | scope b ih => exact ⟨fun t H ex t' H' s x h => (by cases h), fun v w t H ex t' H' s x h => by cases h⟩
  | label l => exact ⟨fun t H ex t' H' s x h => (by cases h), fun v w t H ex t' H' s x h => by cases h⟩
  | goto l => exact ⟨fun t H ex t' H' s x h => (by cases h), fun v w t H ex t' H' s x h => by cases h⟩
  | refuse l => exact ⟨fun t H ex t' H' s x h => (by cases h), fun v w t H ex t' H' s x h => by cases h⟩
  | region id ops draw =>
    refine ⟨fun t H ex t' H' s x h sp => ?_, fun v w t H ex t' H' s x h hw sp => ?_⟩
    · simp only [exec] at h ⊢
      cases draw with
      | false => simp only [Bool.false_eq_true, if_false] at h ⊢; exact runOps_mono tm hC _ h sp
      | true =>
        simp only [if_true] at h ⊢
        split at h
        · cases h
        rename_i hfree
        split at h
        case h_2 => cases h
        rename_i t1 H1 T hT
        split at h
        case isFalse => cases h
        rename_i hok
        cases h
        have hlt := sp.1
        rw [sp.next x, sp.get x (by omega), hfree, hset_comm H x .dead (by omega)]
        simp only
        obtain ⟨q1, q2⟩ := runOpsT_mono (x := x) tm hC _ hT (sp.hset (by omega)) hlt
        rw [q1]
        simp only [hok, if_true]
        exact ⟨trivial, q2⟩
    · simp only [execF] at h ⊢
      split at h
      case h_2 => cases h
      rename_i o r ho
      rw [wr_eq] at h ⊢
      obtain ⟨q1, q2⟩ := wrL_spot sp x hw
      rw [q1]
      exact runOps_mono tm hC _ h q2
  | seq a b iha ihb =>
    refine ⟨fun t H ex t' H' s x h sp => ?_, fun v w t H ex t' H' s x h hw sp => ?_⟩
    · simp only [exec] at h ⊢
      split at h
      · rename_i t1 H1 ha
        obtain ⟨q1, q2⟩ := iha.1 _ _ _ _ _ s x ha sp
        rw [q1]; exact ihb.1 _ _ _ _ _ s x h q2
      · rename_i y hne
        obtain ⟨q1, q2⟩ := iha.1 _ _ _ _ _ s x h sp
        rw [q1]
        cases ex with
        | normal => exact absurd h (hne _ _)
        | _ => exact ⟨rfl, q2⟩
    · simp only [execF] at h ⊢
      split at h
      · rename_i t1 H1 ha
        obtain ⟨q1, q2⟩ := iha.2 _ _ _ _ _ _ _ s x ha hw sp
        rw [q1]; exact ihb.1 _ _ _ _ _ s x h q2
      · rename_i y hne
        obtain ⟨q1, q2⟩ := iha.2 _ _ _ _ _ _ _ s x h hw sp
        rw [q1]
        cases ex with
        | normal => exact absurd h (hne _ _)
        | _ => exact ⟨rfl, q2⟩
  | cond c a b iha ihb =>
    refine ⟨fun t H ex t' H' s x h sp => ?_, fun v w t H ex t' H' s x h => by cases h⟩
    simp only [exec] at h ⊢
    split at h
    case h_2 => cases h
    rename_i q hq
    split at h
    · rename_i e; rw [if_pos e]; exact iha.1 _ _ _ _ _ s x h sp
    · rename_i e; rw [if_neg e]; exact ihb.1 _ _ _ _ _ s x h sp
  | block id b ih =>
    refine ⟨fun t H ex t' H' s x h sp => ?_, fun v w t H ex t' H' s x h => by cases h⟩
    simp only [exec] at h ⊢
    split at h
    · rename_i i t1 H1 hb
      obtain ⟨q1, q2⟩ := ih.1 _ _ _ _ _ s x hb sp
      rw [q1]
      simp only
      split at h
      · rename_i e; cases h; rw [if_pos e]; exact ⟨rfl, q2⟩
      · rename_i e; cases h; rw [if_neg e]; exact ⟨rfl, q2⟩
    · rename_i y hne
      obtain ⟨q1, q2⟩ := ih.1 _ _ _ _ _ s x h sp
      rw [q1]
      cases ex with
      | exit i => exact absurd h (hne _ _ _)
      | _ => exact ⟨rfl, q2⟩
  | loop b ih =>
    refine ⟨fun t H ex t' H' s x h sp => ?_, fun v w t H ex t' H' s x h => by cases h⟩
    simp only [exec] at h ⊢
    split at h
    · rename_i g hp
      obtain ⟨⟨t1, H1⟩, h1, h2⟩ := Option.map_eq_some_iff.1 h
      cases h2
      obtain ⟨q1, q2⟩ := tm.loop _ _ _ hp _ _ _ _ s x h1 sp
      rw [q1]; exact ⟨rfl, q2⟩
    · refine hL _ ?_ _ _ _ _ _ s x h sp
      intro t H ex t' H' s x h sp
      cases hn : headNext b with
      | none => rw [hn] at h; exact ih.1 _ _ _ _ _ s x h sp
      | some y =>
        rw [hn] at h
        simp only at h ⊢
        split at h
        case h_2 => cases h
        rename_i c hc
        rw [nextC_mono (sp.gle x) hc]
        refine ih.2 _ _ _ _ _ _ _ s x h ?_ sp
        intro z hz
        obtain ⟨w, hw⟩ := nextC_tgt hc c (by simp) z hz
        rintro ⟨e1, e2⟩
        rw [e1, e2, sp.2] at hw; cases hw
  | rangeFunc g ps a b iha ihb =>
    refine ⟨fun t H ex t' H' s x h sp => ?_, fun v w t H ex t' H' s x h => by cases h⟩
    simp only [exec] at h ⊢
    split at h
    case h_2 => cases h
    rename_i f first cap hg
    split at h
    case h_2 => cases h
    rename_i hn
    split at h
    case h_2 => cases h
    rename_i v H2 hc
    have hlt := sp.1
    have hne : ¬ (0 = 0 ∧ nextOf H = s) := by omega
    rw [sp.next x, sp.get x hne, hn]
    simp only
    rw [hset_comm H x _ (by omega)]
    obtain ⟨q1, q2⟩ := hC _ _ _ _ _ s x hc (sp.hset hne)
    rw [q1]
    simp only
    unfold loopEnd at h ⊢
    rw [q2.get x hne]
    split at h
    case h_2 => cases h
    rename_i st pend f2 r2 t2 hg2
    split at h
    · cases h
    rename_i hst
    rw [if_neg hst, hset_comm H2 x .dead (by omega)]
    cases pend with
    | none => cases h; exact ⟨rfl, q2.hset hne⟩
    | some j =>
      cases j with
      | none => cases h; exact ⟨rfl, q2.hset hne⟩
      | some i => cases h; exact ⟨rfl, q2.hset hne⟩

theorem loopN_mono {b : Body} (hb : BMono b) : ∀ n, BMono (loopN b n)
  | 0 => fun t H ex t' H' s x h => by cases h
  | n + 1 => fun t H ex t' H' s x h sp => by
    simp only [loopN] at h ⊢
    split at h
    · rename_i t1 H1 ha
      obtain ⟨q1, q2⟩ := hb _ _ _ _ _ s x ha sp
      rw [q1]; exact loopN_mono hb n _ _ _ _ _ s x h q2
    · rename_i y hne
      obtain ⟨q1, q2⟩ := hb _ _ _ _ _ s x h sp
      rw [q1]
      cases ex with
      | normal => exact absurd h (hne _ _)
      | _ => exact ⟨rfl, q2⟩

theorem resL_mono {t : List V} {H : Heap} {s : Nat} (x : O) (sp : Spot s H) : ∀ (rs : List ResultVar) (vs : List V), resL P t H rs = some vs → resL P t (hset H 0 s x) rs = some vs
  | [], _, h => h
  | r :: rs, vs, h => by
    simp only [resL] at h ⊢
    split at h
    case h_2 => cases h
    rename_i v vs' h1 h2
    rw [resL_mono x sp rs vs' h2]
    have : resOne P t (hset H 0 s x) r = some v := by
      cases r with
      | tmp i => exact h1
      | cell a T =>
        simp only [resOne] at h1 ⊢
        split at h1
        case h_2 => cases h1
        split at h1
        case h_2 => cases h1
        rename_i he
        rw [sp.gle x _ _ _ he]; exact h1
    rw [this]; exact h
theorem resV_mono {F : Func} {t : List V} {H : Heap} {s : Nat} (x : O) (sp : Spot s H) {v : V} (h : resV P F t H = some v) : resV P F t (hset H 0 s x) = some v := by
  unfold resV at h ⊢
  cases hl : resL P t H F.results.toList with
  | none => rw [hl] at h; cases h
  | some vs => rw [hl] at h; rw [resL_mono x sp _ _ hl]; exact h

theorem execD_mono (tm : Tame pol) (hC : CMono C) (hL : LMono L) : ∀ (c : Code) (t : List V) (H : Heap) (ex : Ex) (t' : List V) (H' : Heap) (ds : List V) (s : Nat) (x : O), execD P pol C L fn c t H = some (ex, t', H', ds) → Spot s H →
    execD P pol C L fn c t (hset H 0 s x) = some (ex, t', hset H' 0 s x, ds) ∧ Spot s H' := by
  have base : ∀ (c : Code) (t : List V) (H : Heap) (ex : Ex) (t' : List V) (H' : Heap) (ds : List V) (s : Nat) (x : O), noD (exec P pol C L fn c t H) = some (ex, t', H', ds) → Spot s H → noD (exec P pol C L fn c t (hset H 0 s x)) = some (ex, t', hset H' 0 s x, ds) ∧ Spot s H' := by
    intro c t H ex t' H' ds s x h sp
    cases he : exec P pol C L fn c t H with
    | none => rw [he] at h; cases h
    | some q =>
      obtain ⟨e, t1, H1⟩ := q
      rw [he] at h
      cases h
      obtain ⟨q1, q2⟩ := (exec_mono2 tm hC hL c).1 _ _ _ _ _ s x he sp
      rw [q1]; exact ⟨rfl, q2⟩
  intro c
  induction c with
  | seq a b _ ihb =>
    intro t H ex t' H' ds s x h sp
    simp only [execD] at h ⊢
    split at h
    · rename_i ops l d y hd
      split at h
      case h_2 => cases h
      rename_i t1 H1 h1
      obtain ⟨q1, q2⟩ := runOps_mono tm hC l h1 sp (x := x)
      rw [q1]
      simp only
      split at h
      case h_2 => cases h
      rename_i f p q hv
      split at h
      case h_2 => cases h
      rename_i ex2 t2 H2 ds2 h2
      cases h
      obtain ⟨q3, q4⟩ := ihb _ _ _ _ _ _ s x h2 q2
      rw [q3]; exact ⟨rfl, q4⟩
    · split at h
      · rename_i hl
        rw [if_pos hl]
        split at h
        · rename_i t1 H1 h1
          obtain ⟨q1, q2⟩ := (exec_mono2 tm hC hL a).1 _ _ _ _ _ s x h1 sp
          rw [q1]
          exact ihb _ _ _ _ _ _ s x h q2
        · rename_i e t1 H1 hne h1
          cases h
          obtain ⟨q1, q2⟩ := (exec_mono2 tm hC hL a).1 _ _ _ _ _ s x h1 sp
          rw [q1]
          cases ex with
          | normal => exact (hne rfl).elim
          | _ => exact ⟨rfl, q2⟩
        · cases h
      · rename_i hl
        rw [if_neg hl]
        exact base _ _ _ _ _ _ _ _ _ h sp
  | _ => intro t H ex t' H' ds s x h sp; simp only [execD] at h ⊢; exact base _ _ _ _ _ _ _ _ _ h sp
theorem runDs_mono (hC : CMono C) : ∀ (ds : List V) (H H' : Heap) (s : Nat) (x : O), runDs P C ds H = some H' → Spot s H → runDs P C ds (hset H 0 s x) = some (hset H' 0 s x) ∧ Spot s H'
  | [], H, H', s, x, h, sp => by cases h; exact ⟨rfl, sp⟩
  | v :: ds, H, H', s, x, h, sp => by
    unfold runDs at h
    split at h
    · rename_i e; cases e
    · rename_i g first cap ds' e
      cases e
      split at h
      case isFalse => cases h
      rename_i hp
      split at h
      case h_2 => cases h
      rename_i r H1 h1
      obtain ⟨q1, q2⟩ := hC _ _ _ _ _ s x h1 sp
      obtain ⟨q3, q4⟩ := runDs_mono hC ds H1 H' s x h q2
      simp only [runDs, hp, if_true, q1]
      exact ⟨q3, q4⟩
    · cases h
theorem callB_mono (tm : Tame pol) (hC : CMono C) (hL : LMono L) : CMono (callB P pol C L) := by
  intro f args H r H' s x h sp
  cases f with
  | some f =>
    simp only [callB, callF] at h ⊢
    split at h
    case h_2 => cases h
    rename_i Fn hF
    split at h
    case h_2 => cases h
    rename_i c hc
    by_cases hdc : deferC c = true
    · rw [if_pos hdc] at h ⊢
      simp only [callD] at h ⊢
      split at h
      · rename_i t1 H1 ds he
        obtain ⟨q1, q2⟩ := execD_mono tm hC hL c _ _ _ _ _ _ s x he sp
        rw [q1]
        simp only
        split at h
        case h_2 => cases h
        rename_i H2 h2
        obtain ⟨q3, q4⟩ := runDs_mono hC ds _ _ s x h2 q2
        rw [q3]
        simp only
        split at h
        case h_2 => cases h
        rename_i v hv
        cases h
        rw [resV_mono x q4 hv]; exact ⟨rfl, q4⟩
      · rename_i t1 H1 ds he
        obtain ⟨q1, q2⟩ := execD_mono tm hC hL c _ _ _ _ _ _ s x he sp
        rw [q1]
        simp only
        split at h
        case h_2 => cases h
        rename_i H2 h2
        obtain ⟨q3, q4⟩ := runDs_mono hC ds _ _ s x h2 q2
        rw [q3]
        simp only
        split at h
        case h_2 => cases h
        rename_i v hv
        cases h
        rw [resV_mono x q4 hv]; exact ⟨rfl, q4⟩
      · cases h
    rw [if_neg hdc] at h ⊢
    split at h
    · rename_i t1 H1 he
      obtain ⟨q1, q2⟩ := (exec_mono2 tm hC hL c).1 _ _ _ _ _ s x he sp
      rw [q1]
      simp only
      split at h
      case h_2 => cases h
      rename_i v hv
      cases h
      rw [resV_mono x q2 hv]; exact ⟨rfl, q2⟩
    · rename_i t1 H1 he
      obtain ⟨q1, q2⟩ := (exec_mono2 tm hC hL c).1 _ _ _ _ _ s x he sp
      rw [q1]
      simp only
      split at h
      case h_2 => cases h
      rename_i v hv
      cases h
      rw [resV_mono x q2 hv]; exact ⟨rfl, q2⟩
    · rename_i v t1 H1 he
      cases h
      obtain ⟨q1, q2⟩ := (exec_mono2 tm hC hL c).1 _ _ _ _ _ s x he sp
      rw [q1]; exact ⟨rfl, q2⟩
    · cases h
  | none =>
    simp only [callB] at h ⊢
    split at h
    case h_2 => cases h
    rename_i fo so rest
    simp only [callR] at h ⊢
    split at h
    case h_2 => cases h
    rename_i pend fL rid t0 hg
    rw [sp.gle x _ _ _ hg]
    simp only
    split at h
    case h_2 => cases h
    rename_i ps a b hl
    split at h
    case isFalse => cases h
    rename_i hlen
    rw [if_pos hlen]
    split at h
    case h_2 => cases h
    rename_i t1 H1 he1
    obtain ⟨q1, q2⟩ := (exec_mono2 tm hC hL a).1 _ _ _ _ _ s x he1 sp
    rw [q1]
    simp only
    split at h
    case h_2 => cases h
    rename_i pend1 fL1 rid1 t01 hg1
    rw [q2.gle x _ _ _ hg1]
    simp only
    split at h
    case h_2 => cases h
    rename_i e t2 H2 he2
    have n1 : ¬ (fo = 0 ∧ so = s) := by
      rintro ⟨rfl, rfl⟩
      rw [q2.2] at hg1; cases hg1
    rw [hset_comm H1 x _ (fun e => n1 ⟨e.1.symm, e.2.symm⟩)]
    obtain ⟨q3, q4⟩ := (exec_mono2 tm hC hL b).1 _ _ _ _ _ s x he2 (q2.hset n1)
    rw [q3]
    simp only
    unfold roundEnd at h ⊢
    split at h
    case h_2 => cases h
    rename_i st3 pend3 fL3 rid3 t03 hg3
    rw [q4.gle x _ _ _ hg3]
    simp only
    rw [hset_comm H2 x _ (fun e => n1 ⟨e.1.symm, e.2.symm⟩), hset_comm H2 x _ (fun e => n1 ⟨e.1.symm, e.2.symm⟩)]
    cases e with
    | normal => cases h; exact ⟨rfl, q4.hset n1⟩
    | ret => cases h; exact ⟨rfl, q4.hset n1⟩
    | exit i => simp only at h ⊢; cases h; rw [hset_comm H2 x _ (fun e => n1 ⟨e.1.symm, e.2.symm⟩)]; exact ⟨rfl, q4.hset n1⟩
    | panic v => cases h

theorem callN_mono (tm : Tame pol) : ∀ n, CMono (callN P pol n)
  | 0 => fun f args H r H' s x h => by cases h
  | n + 1 => callB_mono tm (callN_mono tm n) fun b hb => loopN_mono hb n

end
end Go.AM.BM
end
