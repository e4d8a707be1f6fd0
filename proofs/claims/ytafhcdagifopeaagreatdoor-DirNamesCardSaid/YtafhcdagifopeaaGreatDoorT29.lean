/- This file holds in one the texts Bx26, Bx27, Bx28; each says at its head what it proves. -/
import Derived.Test.YtafhcdagifopeaaGreatDoorT18
import Derived.Test.YtafhcdagifopeaaGreatDoorT21
import Derived.Test.YtafhcdagifopeaaGreatDoorT26
import Derived.Test.YtafhcdagifopeaaGreatDoorT28
set_option linter.unusedSimpArgs false
set_option linter.unusedVariables false
section
/- The machine for closed laws, part 26: a law that it answers with true is a row that holds. -/
namespace Go.AM.BM

section
variable {P : Program} {pol : Pol}

theorem calls_of_callN (ok : Okay P pol) {m : Nat} {f : FuncId} {xs : List V} {args : Array Value} {W : World} {b : Bool} {H' : Heap} (h : callN P pol m (some f) xs [[]] = some (.ret (.bool b), H'))
    (hr : RelL (open_ P W) xs args.toList) : Calls P f args W fun e W' => e = .returned (.bool b) ∧ RowKit.Below W.heap.size W W' := by
  have := ((callN_sound ok m).1 f xs [[]] _ H' h).2 W.heap.size (fun _ _ => False) (open_ P W) args.toList (Sim.first (Sim.start W)) rfl rfl hr
  refine this.mono ?_
  rintro e w' ⟨E', rfl, ⟨c, rfl, hc⟩, S', X, _⟩
  simp only [Rel] at hc
  subst hc
  exact ⟨rfl, X.rest.2.1, X.rest.1, X.rest.2.2, X.size, X.old⟩

theorem law_contract {H : Type} {enc : TypeId × Value → H} (ok : Okay P pol) (hl : laidOutB P = true) {f : FuncId} {fn : Func} {ts book : List TypeId} {tb : TypeId} (hts : fn.params.toList = ts) (hrt : fn.resultTypes.toList = [tb])
    (htb : P.underlying tb = some .bool) (hbook : bookOk P book = true) (hin : ts.all (fun t => book.contains t && P.readableRec t && decide (t < P.types.size)) = true)
    {s : ChangeSpec} (hv : s.vars = []) (hs : ∀ ds : List (DataW H), ds.length = ts.length → (s.fn H ds).results = [.lit (.bool true)] ∧ (s.fn H ds).args = ds ∧ (s.fn H ds).vars = [])
    (hlaw : ∀ xs, ArgsRead P ts xs → ∃ m H', callN P pol m (some f) xs [[]] = some (.ret (.bool true), H')) {apart fresh handsOn : Bool}
    {W : World} {base : Nat} {args : Array Value} {ds gs : List (DataW H)} {before : List MemPlace}
    (hval : ∀ (j : Nat) t v, fn.params[j]? = some t → args[j]? = some v → Value.okWide P W .any base t v)
    (hW : DataW.Whole enc P fn.params.toList s.vars apart W args.toList ds gs before) :
    Calls P f args W fun e W' => ∃ v, e = .returned v ∧ s.post enc P fn apart fresh handsOn false W args v W' := by
  have hin' : ∀ t ∈ ts, t ∈ book ∧ P.readableRec t = true ∧ t < P.types.size := by
    intro t ht
    have := List.all_eq_true.1 hin t ht
    simp only [Bool.and_eq_true, decide_eq_true_eq] at this
    exact ⟨by simpa using this.1.1, this.1.2, this.2⟩
  have hW' := hW
  have hlt := hW.lt
  obtain ⟨p, q, hA, hV, rfl, hfz, hnd⟩ := hW
  rw [hv] at hV
  have hg : gs = [] ∧ q = [] := by
    cases gs with
    | nil => exact ⟨rfl, hV⟩
    | cons g gs => exact hV.elim
  obtain ⟨rfl, rfl⟩ := hg
  rw [hts] at hA
  obtain ⟨xs, h1, h2⟩ := args_read hbook (fun t ht => (hin' t ht).1) hA (fun j t v ht hv => ⟨W, .any, base, hval j t v (by rw [← Array.getElem?_toList, hts]; exact ht) (by simpa using hv)⟩)
  obtain ⟨m, H', hc⟩ := hlaw xs h1
  refine (calls_of_callN ok hc h2).mono ?_
  rintro e W' ⟨rfl, hb⟩
  refine ⟨_, rfl, ?_⟩
  obtain ⟨k1, k2, k3⟩ := hs ds (trodAll_length hA)
  refine ⟨ds, [], p ++ [], [], p, [], hW', ?_, ?_, ?_, ?_, fun h => by cases h⟩
  · rw [List.append_nil, k1, hrt]
    have hsz : fn.resultTypes.size = 1 := by rw [← Array.length_toList, hrt]; rfl
    rw [hsz]
    exact ChangeShapes.trodAll_mk1 (RowKit.shut_bool htb true)
  · rw [List.append_nil, k2, hts]
    exact below_trodAll hl hb (fun t ht => (hin' t ht).2) hA (fun x hx => hlt x (by simpa using hx))
  · rw [List.append_nil, k3, hv]
    rfl
  · exact hb.frame _

end
end Go.AM.BM
end
section
/- The machine for closed laws, part 27: a function of which it is known what it answers, by the other machine, is answered at once. -/
namespace Go.AM.BM

def lookP (K : List V → Option V) : Prim := fun _ _ g args => match frzL (frz g depth) args with
  | some ys => (match K ys with
    | some v => some (v, none)
    | none => none)
  | none => none

section
variable {P : Program}
def FzN (P : Program) (pol : AM.Pol) (f : FuncId) (args : List V) (v : V) : Prop := ∃ v0 H', callW P pol f args [] = some (.ret v0, H') ∧ frzN (hget H') depth v0 = some v

theorem invokes_fzN {polA : AM.Pol} (ok : AM.Okay P polA) {f : FuncId} {ys : List V} {v : V} (h : FzN P polA f ys v) {B : Nat} {F : Nat → Nat → Prop} {H : Heap} {E : Env} {args : List V} {cargs : List Value} (S : Sim B F H E) (one : H.length = 1) (htab : E.tab = loopAt P)
    (hr : RelL E args cargs) (hys : frzL (frz (hget H) depth) args = some ys) : Invokes P f ⟨cargs⟩ E.w (Answer B F H E (.ret v) H) := by
  obtain ⟨hr', _⟩ := frzL_sound (E' := bare E.tab E.w F) (fun x y v hf hx => S.frz hf hx) _ _ _ hys hr
  obtain ⟨v0, H1, hc, hq⟩ := h
  obtain ⟨hbody, hall⟩ := (callW_sound ok).1 f ys [] _ H1 hc
  have hcall := hall _ _ (bare E.tab E.w F) cargs S.bareF htab hr'
  refine ok.invokes hbody (hcall.mono ?_)
  rintro e w' ⟨E1, rfl, ⟨c, rfl, hcv⟩, S1, X1, _⟩
  obtain ⟨X, S'⟩ := S.behindM S.fmod X1
  obtain ⟨h1, h2⟩ := S1.frzN (M := E.mod) S.modsz hq hcv
  exact ⟨{ E with w := E1.w }, rfl, ⟨c, rfl, Rel.dress (E := bare E1.tab E1.w E.mod) (E' := { E with w := E1.w }) rfl rfl _ _ h2 h1⟩, S', X.less (by omega) (Nat.le_refl _), one⟩

theorem lookP_sound {polA : AM.Pol} (ok : AM.Okay P polA) {f : FuncId} {K : List V → Option V} (hK : ∀ ys v, K ys = some v → FzN P polA f ys v) (B : Nat) (F : Nat → Nat → Prop) (H : Heap) (E : Env) (fr : Nat) (dst : Option Nat) (args : List V) (cargs : List Value) (v : V) (x : Option (Nat × Nat × O))
    (S : Sim B F H E) (one : H.length = 1) (_ : fr = 0) (htab : E.tab = loopAt P) (hr : RelL E args cargs) (h : lookP K fr dst (hget H) args = some (v, x)) : Invokes P f ⟨cargs⟩ E.w (Answer B F H E (.ret v) (wr H x)) := by
  unfold lookP at h
  split at h
  case h_2 => cases h
  rename_i ys hys
  split at h
  case h_2 => cases h
  rename_i v' hv
  cases h
  exact invokes_fzN ok (hK ys v hv) S one htab hr hys

theorem frz_le {G G' : Get} (h : GLe G G') : ∀ (n : Nat) (x y : V), frz G n x = some y → frz G' n x = some y := by
  intro n
  induction n with
  | zero => intro x y e; cases e
  | succ n ih =>
    have ihL : ∀ (l m : List V), frzL (frz G n) l = some m → frzL (frz G' n) l = some m := by
      intro l
      induction l with
      | nil => intro m e; exact e
      | cons x l ihl =>
        intro m e
        simp only [frzL] at e ⊢
        cases hx : frz G n x with
        | none => rw [hx] at e; cases e
        | some y =>
          rw [hx] at e
          cases hl : frzL (frz G n) l with
          | none => rw [hl] at e; cases e
          | some ys => rw [hl] at e; cases e; rw [ih x y hx, ihl ys hl]
    have ihm : ∀ (l : List V) (f : List V → V) (y : V), (frzL (frz G n) l).map f = some y → (frzL (frz G' n) l).map f = some y := by
      intro l f y e
      cases hl : frzL (frz G n) l with
      | none => rw [hl] at e; cases e
      | some ys => rw [hl] at e; rw [ihL l ys hl]; exact e
    intro x y e
    cases x with
    | mslice f s o len cap esz =>
      simp only [frz] at e ⊢
      cases hg : G f s with
      | none => rw [hg] at e; cases e
      | some q =>
        rw [hg] at e; rw [h f s q hg]
        cases q with
        | cells xs =>
          simp only at e ⊢
          split at e
          · rename_i hc; rw [if_pos hc]; exact ihm _ _ _ e
          · cases e
        | _ => cases e
    | ptr f s o =>
      simp only [frz] at e ⊢
      cases hg : G f s with
      | none => rw [hg] at e; cases e
      | some q =>
        rw [hg] at e; rw [h f s q hg]
        cases q with
        | cells xs => exact ihm _ _ _ e
        | _ => cases e
    | gslice f s cs len q => exact ihm _ _ _ e
    | rptr cs o => exact ihm _ _ _ e
    | agg cs => exact ihm _ _ _ e
    | tuple cs => exact ihm _ _ _ e
    | face t v =>
      simp only [frz] at e ⊢
      cases hv : frz G n v with
      | none => rw [hv] at e; cases e
      | some w => rw [hv] at e; rw [ih v w hv]; exact e
    | func fn a b =>
      simp only [frz] at e ⊢
      cases ha : frzL (frz G n) a with
      | none => rw [ha] at e; cases e
      | some a' =>
        rw [ha] at e
        cases hb : frzL (frz G n) b with
        | none => rw [hb] at e; cases e
        | some b' => rw [hb] at e; rw [ihL a a' ha, ihL b b' hb]; exact e
    | _ => exact e
theorem frzL_le {G G' : Get} (h : GLe G G') (n : Nat) : ∀ (l m : List V), frzL (frz G n) l = some m → frzL (frz G' n) l = some m
  | [], _, e => e
  | x :: l, m, e => by
    simp only [frzL] at e ⊢
    cases hx : frz G n x with
    | none => rw [hx] at e; cases e
    | some y =>
      rw [hx] at e
      cases hl : frzL (frz G n) l with
      | none => rw [hl] at e; cases e
      | some ys => rw [hl] at e; cases e; rw [frz_le h n x y hx, frzL_le h n l ys hl]
theorem lookP_tame (K : List V → Option V) (nm : Nat) (G G' : Get) (args : List V) (v : V) (w : Option (Nat × Nat × O)) (h : GLe G G') (e : lookP K 0 (some nm) G args = some (v, w)) :
    lookP K 0 (some nm) G' args = some (v, w) ∧ ∀ x ∈ w.toList, (∃ y, G x.1 x.2.1 = some y) ∨ (x.1 = 0 ∧ x.2.1 = nm) := by
  unfold lookP at e ⊢
  split at e
  case h_2 => cases e
  rename_i ys hys
  rw [frzL_le h depth args ys hys]
  split at e
  case h_2 => cases e
  rename_i v' hv
  cases e
  exact ⟨by simp only [hv], fun x hx => by cases hx⟩
end
end Go.AM.BM
end
section
/- The machine for closed laws, part 28: functions answered at once whose answer may share memory with their arguments: these no longer change. -/
namespace Go.AM.BM

def conA (g : Get) (args : List V) : Option (List V × Option (Nat × Nat × O)) := match args with
  | .agg [x, y] :: r => (fix1 g y).map fun z => (.agg [x, z.1] :: r, z.2)
  | l => some (l, none)
def conP (K : List V → Option V) : Prim := fun _ _ g args => match conA g args with
  | some (ys, w) => (match frzL (frz (fun _ _ => none) depth) ys with
    | some zs => (match K zs with
      | some v => some (v, w)
      | none => none)
    | none => none)
  | none => none

section
variable {P : Program} {E : Env} {B : Nat} {F : Nat → Nat → Prop} {H : Heap}
theorem conA_sound (S : Sim B F H E) {args ys : List V} {w : Option (Nat × Nat × O)} {cs : List Value} (h : conA (hget H) args = some (ys, w)) (hr : RelL E args cs) :
    ∃ E', E'.w = E.w ∧ Ext H.length B E E' ∧ Sim B F (wr H w) E' ∧ RelL E' ys cs := by
  unfold conA at h
  split at h
  · rename_i x y r
    cases hx : fix1 (hget H) y with
    | none => rw [hx] at h; cases h
    | some z =>
      rw [hx] at h; cases h
      obtain ⟨u, us, rfl, h1, h2⟩ := RelL.cons_iff.1 hr
      simp only [Rel] at h1
      obtain ⟨vs, rfl, hl⟩ := h1
      obtain ⟨u1, us1, rfl, h3, h4⟩ := RelL.cons_iff.1 hl
      obtain ⟨u2, us2, rfl, h5, h6⟩ := RelL.cons_iff.1 h4
      obtain ⟨E', e, X, S', h7⟩ := fix1_sound S (v' := z.1) (w := z.2) hx h5
      refine ⟨E', e, X, S', .cons ?_ (RelL.mono X S.lt _ _ h2)⟩
      simp only [Rel]
      exact ⟨_, rfl, .cons (Rel.mono X S.lt _ _ h3) (.cons h7 (RelL.mono X S.lt _ _ h6))⟩
  · cases h; exact ⟨E, rfl, Ext.refl _ _ _, S, hr⟩

theorem conP_sound {polA : AM.Pol} (ok : AM.Okay P polA) {f : FuncId} {K : List V → Option V} (hK : ∀ ys v, K ys = some v → Fz P polA f ys (· = v)) (B : Nat) (F : Nat → Nat → Prop) (H : Heap) (E : Env) (fr : Nat) (dst : Option Nat) (args : List V) (cargs : List Value) (v : V) (x : Option (Nat × Nat × O))
    (S : Sim B F H E) (one : H.length = 1) (_ : fr = 0) (htab : E.tab = loopAt P) (hr : RelL E args cargs) (h : conP K fr dst (hget H) args = some (v, x)) : Invokes P f ⟨cargs⟩ E.w (Answer B F H E (.ret v) (wr H x)) := by
  unfold conP at h
  split at h
  case h_2 => cases h
  rename_i ys w hys
  split at h
  case h_2 => cases h
  rename_i zs hzs
  split at h
  case h_2 => cases h
  rename_i v' hv
  cases h
  obtain ⟨E', e, X, S', hr'⟩ := conA_sound S hys hr
  have htab' : E'.tab = loopAt P := X.tab.trans htab
  obtain ⟨hr2, _⟩ := strip_sound depth hzs hr'
  obtain ⟨v0, H1, v1, hc, hq, rfl⟩ := hK zs _ hv
  obtain ⟨hbody, hall⟩ := (callW_sound ok).1 f zs [] _ H1 hc
  have hcall := hall _ _ (bare E'.tab E'.w E'.mod) cargs S'.bare htab' hr2
  rw [← e]
  refine ok.invokes hbody (hcall.mono ?_)
  rintro en w' ⟨E1, rfl, ⟨c, rfl, hcv⟩, S1, X1, _⟩
  obtain ⟨X2, S2⟩ := S'.behind (E1 := E1) X1
  obtain ⟨h1, h2⟩ := S1.frz hq hcv
  rw [wr_length] at X2
  exact ⟨{ E' with w := E1.w }, rfl, ⟨c, rfl, Rel.dress (E := bare E1.tab E1.w E'.mod) (E' := { E' with w := E1.w }) rfl rfl _ _ h2 h1⟩, S2, (X.less (by omega) (Nat.le_refl _)).trans (X2.less (by omega) (Nat.le_refl _)), by rw [wr_length]; exact one⟩

theorem fix1_le {G G' : Get} (h : GLe G G') {v v' : V} {w : Option (Nat × Nat × O)} (e : fix1 G v = some (v', w)) : fix1 G' v = some (v', w) ∧ ∀ x ∈ w.toList, ∃ y, G x.1 x.2.1 = some y := by
  unfold fix1 at e ⊢
  split at e
  · rename_i f s o len cap esz
    split at e
    case h_2 => cases e
    rename_i xs hg
    split at e
    case isFalse => cases e
    rename_i hc
    cases e
    simp only [h f s _ hg]
    rw [if_pos hc]
    refine ⟨rfl, fun x hx => ?_⟩
    simp only [Option.toList, List.mem_singleton] at hx
    subst hx; exact ⟨_, hg⟩
  · cases e; exact ⟨rfl, fun x hx => by cases hx⟩
theorem conP_tame (K : List V → Option V) (nm : Nat) (G G' : Get) (args : List V) (v : V) (w : Option (Nat × Nat × O)) (h : GLe G G') (e : conP K 0 (some nm) G args = some (v, w)) :
    conP K 0 (some nm) G' args = some (v, w) ∧ ∀ x ∈ w.toList, (∃ y, G x.1 x.2.1 = some y) ∨ (x.1 = 0 ∧ x.2.1 = nm) := by
  have main : ∀ ys w, conA G args = some (ys, w) → conA G' args = some (ys, w) ∧ ∀ x ∈ w.toList, ∃ y, G x.1 x.2.1 = some y := by
    intro ys w hc
    unfold conA at hc ⊢
    split at hc
    · rename_i x y r
      cases hx : fix1 G y with
      | none => rw [hx] at hc; cases hc
      | some z =>
        rw [hx] at hc; cases hc
        obtain ⟨g1, g2⟩ := fix1_le h (v' := z.1) (w := z.2) hx
        exact ⟨by simp only [g1, Option.map_some], g2⟩
    · cases hc; exact ⟨rfl, fun x hx => by cases hx⟩
  unfold conP at e ⊢
  split at e
  case h_2 => cases e
  rename_i ys w' hys
  obtain ⟨g1, g2⟩ := main ys w' hys
  rw [g1]
  split at e
  case h_2 => cases e
  rename_i zs hzs
  split at e
  case h_2 => cases e
  rename_i v' hv
  cases e
  simp only [hzs, hv, true_and]
  exact fun x hx => .inl (g2 x hx)
end
end Go.AM.BM
end
