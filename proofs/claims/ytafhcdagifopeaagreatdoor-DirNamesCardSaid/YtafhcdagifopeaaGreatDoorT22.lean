/- This file holds in one the texts An33, An34, An37, An40, An41, An48, An36, An51, Bx14; each says at its head what it proves. -/
import Derived.Test.YtafhcdagifopeaaGreatDoorT10
import Derived.Test.YtafhcdagifopeaaGreatDoorT18
import Derived.Test.YtafhcdagifopeaaGreatDoorT21
set_option linter.unusedSimpArgs false
set_option linter.unusedVariables false
section
/- The abstract machine, part 33: parts of slices that may change, copies. -/
namespace Go.AM
section
variable {P : Program} {u e : TypeId} {g : Get}
theorem cut_from (hu : P.underlying u = some (.slice e)) {q : Nat} (hs : sz P e = some q) {f s o len c : Nat} {w : Nat} {k : IntKind} (h : w ≤ len) (hc : len ≤ c) :
    ∀ g, sliceV P g u (.mslice f s o len (some c) q) (some (.int k w)) none none = some (.mslice f s (if c = w then o else o + w * q) (len - w) (some (c - w)) q) := by
  intro g
  simp only [sliceV, optInt, hu, hs, if_true, cutM, cuts, Option.getD_none, Option.getD_some]
  rw [if_pos ⟨by omega, by omega, by omega, by omega, by omega, by omega, by simp⟩]
  simp
end
def FP.kind : FP → Nat
  | .quiet => 0
  | .ids _ [] => 1
  | _ => 2
def okK (bef : Array Nat) : List (Nat × Nat) → Bool
  | [] => true
  | (a, i) :: r => r.all (fun (b, j) => (bef.getD j 0).testBit i || (Nat.ble a 1 && Nat.ble b 1)) && okK bef r
theorem indep_kind : ∀ a b : FP, Nat.ble a.kind 1 = true → Nat.ble b.kind 1 = true → a.indep b = true
  | .quiet, _, _, _ => rfl
  | .ids _ [], .quiet, _, _ => rfl
  | .ids _ (_ :: _), .quiet, _, _ => rfl
  | .all, .quiet, _, _ => rfl
  | .ids _ [], .ids _ [], _, _ => rfl
  | .ids _ (_ :: _), _, h, _ => by cases h
  | .all, _, h, _ => by cases h
  | _, .ids _ (_ :: _), _, h => by cases h
  | _, .all, _, h => by cases h
theorem okT_of_okK (bef : Array Nat) : ∀ T : List (FP × Nat), okK bef (T.map fun x => (x.1.kind, x.2)) = true → okT bef T = true
  | [], _ => rfl
  | (a, i) :: r, h => by
    simp only [List.map_cons, okK, Bool.and_eq_true, List.all_eq_true] at h
    simp only [okT, Bool.and_eq_true, List.all_eq_true]
    refine ⟨fun x hx => ?_, okT_of_okK bef r h.2⟩
    have := h.1 (x.1.kind, x.2) (List.mem_map.2 ⟨x, hx, rfl⟩)
    simp only [Bool.or_eq_true, Bool.and_eq_true] at this ⊢
    exact this.imp id fun ⟨p, q⟩ => indep_kind _ _ p q
theorem W.opsK {P : Program} {pol : Pol} {C : Call} {L : MBody → Body} {fn fr : Nat} {t : List V} {H : Heap} {a : Array Oper} {T : List FP} {k : List It} {Q : Ex → List V → Heap → Prop}
    (h : okK (Region.before a) ((loud T.reverse).map fun x => (x.1.kind, x.2)) = true) (h2 : W (U P pol C L fn fr k .normal t H) Q) : W (U P pol C L fn fr (.opsT a [] T :: k) .normal t H) Q :=
  W.opsT (okT_of_okK _ _ h) h2
end Go.AM
end
section
/- The abstract machine, part 34: arguments of a row as bytes and numbers; strings of bytes. -/
namespace Go.AM
section
variable {P : Program} {t e : TypeId} {n : Nat} {y : V}

end

end Go.AM
end
section
/- The abstract machine, part 37: loops over maps: whatever the order, one outcome. -/
namespace Go.AM

def itF : Code → Option (Option Nat × List It)
  | .region _ ops false => (match ops.toList with
    | o :: r => some (o.dst, [.ops ops r])
    | [] => none)
  | .seq a b => (match itF a with
    | some (d, k) => some (d, k ++ [.code b])
    | none => none)
  | _ => none

section
variable {P : Program} {pol : Pol} {C : Call} {L : MBody → Body} {fn fr : Nat} {t : List V} {H : Heap} {Q : Ex → List V → Heap → Prop}

theorem u_append : ∀ (k k' : List It) (e : Ex) (t : List V) (H : Heap), U P pol C L fn fr (k ++ k') e t H = (U P pol C L fn fr k e t H).bind fun x => U P pol C L fn fr k' x.1 x.2.1 x.2.2
  | [], _, _, _, _ => rfl
  | .code c :: k, k', e, t, H => by
    cases e with
    | normal =>
      simp only [List.cons_append, U]
      cases exec P pol C L fn fr c t H with
      | none => rfl
      | some x => exact u_append k k' x.1 x.2.1 x.2.2
    | exit i => exact u_append k k' _ t H
    | ret => exact u_append k k' _ t H
    | panic v => exact u_append k k' _ t H
  | .ops a l :: k, k', e, t, H => by
    cases e with
    | normal =>
      simp only [List.cons_append, U]
      cases runOps P pol C fn fr a l t H with
      | none => rfl
      | some x => exact u_append k k' x.1 x.2.1 x.2.2
    | exit i => exact u_append k k' _ t H
    | ret => exact u_append k k' _ t H
    | panic v => exact u_append k k' _ t H
  | .opsT a l T :: k, k', e, t, H => by
    cases e with
    | normal =>
      simp only [List.cons_append, U]
      cases runOpsT P pol C fn fr a l t H with
      | none => rfl
      | some x =>
        simp only [Option.bind_some]
        split
        · exact u_append k k' _ _ _
        · rfl
    | exit i => exact u_append k k' _ t H
    | ret => exact u_append k k' _ t H
    | panic v => exact u_append k k' _ t H
  | .block id :: k, k', e, t, H => by
    cases e with
    | exit i =>
      simp only [List.cons_append, U]
      split
      · exact u_append k k' _ t H
      · exact u_append k k' _ t H
    | normal => exact u_append k k' _ t H
    | ret => exact u_append k k' _ t H
    | panic v => exact u_append k k' _ t H

theorem execF_it {v : V} {w : Option (Nat × Nat × O)} : ∀ {c : Code} {d : Option Nat} {k : List It}, itF c = some (d, k) → ∀ (t : List V) (H : Heap), execF P pol C L fn fr c v w t H = U P pol C L fn fr k .normal (putT t d v) (wr H w) := by
  intro c
  induction c with
  | region id ops draw =>
    intro d k h t H
    cases draw with
    | true => cases h
    | false =>
      simp only [itF] at h
      simp only [execF]
      cases ho : ops.toList with
      | nil => rw [ho] at h; cases h
      | cons o r =>
        rw [ho] at h
        cases h
        simp only [U]
        cases runOps P pol C fn fr ops r (putT t o.dst v) (wr H w) with
        | none => rfl
        | some x => rfl
  | seq a b iha ihb =>
    intro d k h t H
    simp only [itF] at h
    cases ha : itF a with
    | none => rw [ha] at h; cases h
    | some x =>
      obtain ⟨d', k'⟩ := x
      rw [ha] at h
      cases h
      simp only [execF, iha ha, u_append]
      cases U P pol C L fn fr k' .normal (putT t d v) (wr H w) with
      | none => rfl
      | some x =>
        obtain ⟨e, t1, H1⟩ := x
        cases e with
        | normal => simp only [Option.bind_some, u_start]
        | exit i => rfl
        | ret => rfl
        | panic v => rfl
  | _ => intro d k h; cases h

theorem range_eq {α : Type} {b : Code} {x : Operand} {d : Option Nat} {k : List It} (hn : headNext b = some x) (hi : itF b = some (d, k)) (R : Ex × List V × Heap) (I : α → List V → Heap → Prop) (m : α → Nat)
    (step : ∀ a t H, I a t H → ∃ t1 H1 cs, forget pol fn fr (fstRegion b) t H = some (t1, H1) ∧ nextC (hget H1) (rho t1 x) = some cs ∧
      ∀ c ∈ cs, W (U P pol C loopW fn fr k .normal (putT t1 d c.1) (wr H1 c.2)) fun e t2 H2 => match e with
        | .normal => ∃ a', I a' t2 H2 ∧ m a' < m a
        | e => R = (e, t2, H2)) (a : α) (h : I a t H) : loopW (round P pol C loopW fn fr b) t H = some R := by
  induction hm : m a using Nat.strongRecOn generalizing a t H with
  | ind n ih =>
    subst hm
    obtain ⟨t1, H1, cs, h1, h2, h3⟩ := step a t H h
    rw [loopW_eq]
    have hr : round P pol C loopW fn fr b t H = cs.map fun c => U P pol C loopW fn fr k .normal (putT t1 d c.1) (wr H1 c.2) := by
      simp only [round, h1, hn, h2, execF_it hi]
    rw [hr]
    refine agree_of (by simpa using nextC_ne h2) fun y hy => ?_
    rw [List.map_map] at hy
    obtain ⟨c, hc, rfl⟩ := List.mem_map.1 hy
    obtain ⟨e, t2, H2, q1, q2⟩ := (h3 c hc).out
    simp only [Function.comp, q1]
    cases e with
    | normal =>
      obtain ⟨a', q3, q4⟩ := q2
      exact ih _ q4 a' q3 rfl
    | exit i => exact congrArg some q2.symm
    | ret => exact congrArg some q2.symm
    | panic v => exact congrArg some q2.symm

theorem W.range {α : Type} {b : Code} {x : Operand} {d : Option Nat} {k : List It} (hn : headNext b = some x) (hi : itF b = some (d, k)) (R : Ex × List V × Heap) (I : α → List V → Heap → Prop) (m : α → Nat)
    (step : ∀ a t H, I a t H → ∃ t1 H1 cs, forget pol fn fr (fstRegion b) t H = some (t1, H1) ∧ nextC (hget H1) (rho t1 x) = some cs ∧
      ∀ c ∈ cs, W (U P pol C loopW fn fr k .normal (putT t1 d c.1) (wr H1 c.2)) fun e t2 H2 => match e with
        | .normal => ∃ a', I a' t2 H2 ∧ m a' < m a
        | e => R = (e, t2, H2)) (a : α) (h : I a t H) (hQ : Q R.1 R.2.1 R.2.2) : W (loopW (round P pol C loopW fn fr b) t H) Q := by
  rw [range_eq hn hi R I m step a h]; exact hQ

theorem nextC_map {g : Get} {f s : Nat} {m : Nat × Nat} {since stepped clk : Nat} {seen : List Nat} {es : List (V × V)} {bs : List Nat} (h1 : g f s = some (.iter (some m) since seen stepped)) (h2 : g m.1 m.2 = some (.map es bs clk))
    (h3 : ∀ b ∈ bs, b < since) (h4 : since ≤ stepped) : ∃ cs, nextC g (.ptr f s 0) = some cs ∧ ∀ c ∈ cs, (leftE seen es bs = [] ∧ c = (.tuple [.bool false], some (f, s, .dead))) ∨
      ∃ e ∈ leftE seen es bs, c = (.tuple [.bool true, e.1.1, e.1.2], some (f, s, .iter (some m) since (seen ++ [e.2]) clk)) := by
  have hall : (bs.all (fun b => decide (b < since)) && decide (since ≤ stepped)) = true := by
    rw [Bool.and_eq_true, List.all_eq_true]
    exact ⟨fun b hb => decide_eq_true (h3 b hb), decide_eq_true h4⟩
  simp only [nextC, h1, h2, hall, if_true]
  cases hl : leftE seen es bs with
  | nil => exact ⟨_, rfl, fun c hc => .inl ⟨rfl, List.mem_singleton.1 hc⟩⟩
  | cons y l =>
    refine ⟨_, rfl, fun c hc => .inr ?_⟩
    obtain ⟨e, he, rfl⟩ := List.mem_map.1 hc
    exact ⟨e, he, rfl⟩

end
end Go.AM
end
section
/- The abstract machine, part 40: structs: fields' places, fields, structs built, in one rewrite each. -/
namespace Go.AM

def foOf (P : Program) (t : TypeId) (i : Nat) : Option (Nat × TypeId) :=
  match P.underlying t with
  | some (.struct fs) => (match fs[i]? with
    | some f => (match sz P f.type with
      | some n => if n = 0 then none else some (f.offset, f.type)
      | none => none)
    | none => none)
  | _ => none
def plOf (P : Program) (t : TypeId) : Option (List (Nat × Nat)) :=
  match P.underlying t with
  | some (.struct fs) => places P fs.toList
  | _ => none
def ffOf (P : Program) (t : TypeId) (i : Nat) : Option (Nat × TypeId) :=
  match P.underlying t with
  | some (.struct fs) => (match fs[i]? with
    | some f => some (f.offset, f.type)
    | none => none)
  | _ => none
def faV (off : Nat) : V → Option V
  | .ptr a b o => some (.ptr a b (o + off))
  | .iptr cs o => some (.iptr cs (o + off))
  | .rptr cs o => some (.rptr cs (o + off))
  | _ => none
def faO : Option (Nat × TypeId) → V → Option V
  | some x, v => faV x.1 v
  | none, _ => none
def fvO (P : Program) : Option (Nat × TypeId) → V → Option V
  | some x, .agg cs => partV P x.2 cs x.1
  | _, _ => none

section
variable {P : Program} {mt : Nat → Bool} {fr : Nat} {g : Get} {r : Operand → V} {d : Option Nat} {ty u : TypeId} {ps : String} {af : Array Edge} {gd : Option (Nat × Bool)} {x : Operand}

theorem ev_fa {t : TypeId} {i : Nat} : evOp P mt fr g r { dst := d, op := .fieldAddr t x i, type := ty, pos := ps, after := af, guard := gd } = (faO (foOf P t i) (r x)).map fun v => .val v none := by
  unfold foOf
  simp only [evOp]
  cases P.underlying t with
  | none => rfl
  | some dd =>
    cases dd with
    | struct fs =>
      simp only
      cases fs[i]? with
      | none => rfl
      | some f =>
        simp only
        cases sz P f.type with
        | none => rfl
        | some n =>
          simp only
          by_cases h0 : n = 0
          · simp only [h0, if_true]; rfl
          · simp only [h0, if_false]
            cases r x <;> rfl
    | _ => rfl

theorem ev_field {t : TypeId} {i : Nat} : evOp P mt fr g r { dst := d, op := .field t x i, type := ty, pos := ps, after := af, guard := gd } = (fvO P (ffOf P t i) (r x)).map fun v => .val v none := by
  unfold ffOf
  simp only [evOp]
  cases P.underlying t with
  | none => rfl
  | some dd =>
    cases dd with
    | struct fs =>
      cases r x <;> simp only <;> cases fs[i]? <;> rfl
    | _ => rfl

theorem bv_of {t : TypeId} {z : List V} {ps : List (Nat × Nat)} (hz : zeroCells P t = some z) (hp : plOf P t = some ps) (parts : List (Nat × V)) : buildV P t parts = (fillV (fun i => ps[i]?) z parts).map .agg := by
  unfold plOf at hp
  unfold buildV
  rw [hz]
  split at hp
  case h_2 => cases hp
  rename_i fs hu
  rw [hu]
  simp only [hp]

theorem fa_ptr {off a b o : Nat} : faV off (.ptr a b o) = some (.ptr a b (o + off)) := rfl
theorem fa_iptr {off o : Nat} {cs : List V} : faV off (.iptr cs o) = some (.iptr cs (o + off)) := rfl
theorem fao_some {off : Nat} {t : TypeId} {v : V} : faO (some (off, t)) v = faV off v := rfl
theorem fv_agg {t : TypeId} {off : Nat} {cs : List V} : fvO P (some (off, t)) (.agg cs) = partV P t cs off := rfl
end
end Go.AM
end
section
/- The abstract machine, part 41: loads and stores, with the object asked last. -/
namespace Go.AM

def ldO (P : Program) (t : TypeId) (o : Nat) : Option O → Option V
  | some (.cells xs) => readAt P t xs o
  | _ => none
def ldV (P : Program) (t : TypeId) (g : Get) : V → Option V
  | .ptr f s o => ldO P t o (g f s)
  | .iptr cs o => readAt P t cs o
  | .rptr cs o => readAt P t cs o
  | _ => none
def stO (n f s o : Nat) (cs : List V) : Option O → Option Step
  | some (.cells xs) => if cs.length = n ∧ o + n ≤ xs.length then some (.val .bad (some (f, s, .cells (splice xs o cs)))) else none
  | _ => none
def stV (g : Get) : Option Nat → V → Option (List V) → Option Step
  | some n, .ptr f s o, some cs => stO n f s o cs (g f s)
  | _, _, _ => none

section
variable {P : Program} {mt : Nat → Bool} {fr : Nat} {g : Get} {r : Operand → V} {d : Option Nat} {ty u : TypeId} {ps : String} {af : Array Edge} {gd : Option (Nat × Bool)} {x a : Operand}

theorem ev_load {t : TypeId} : evOp P mt fr g r { dst := d, op := .load t a, type := ty, pos := ps, after := af, guard := gd } = (ldV P t g (r a)).map fun v => .val v none := by
  simp only [evOp]
  cases r a with
  | ptr f s o =>
    simp only [ldV]
    cases g f s with
    | none => rfl
    | some q => cases q <;> rfl
  | _ => rfl

theorem ev_store {t : TypeId} : evOp P mt fr g r { dst := d, op := .store t a x, type := ty, pos := ps, after := af, guard := gd } = stV g (sz P t) (r a) (r x).cells := by
  simp only [evOp]
  cases sz P t with
  | none => cases r a <;> first | rfl | (cases (r x).cells <;> rfl)
  | some n =>
    cases r a with
    | ptr f s o =>
      cases (r x).cells with
      | none => rfl
      | some cs =>
        simp only [stV]
        cases g f s with
        | none => rfl
        | some q => cases q <;> rfl
    | _ => rfl

theorem ld_ptr {t : TypeId} {f s o : Nat} : ldV P t g (.ptr f s o) = ldO P t o (g f s) := rfl
theorem ld_iptr {t : TypeId} {o : Nat} {cs : List V} : ldV P t g (.iptr cs o) = readAt P t cs o := rfl
theorem ldO_cells {t : TypeId} {o : Nat} {xs : List V} : ldO P t o (some (.cells xs)) = readAt P t xs o := rfl
theorem st_ptr {n f s o : Nat} {cs : List V} : stV g (some n) (.ptr f s o) (some cs) = stO n f s o cs (g f s) := rfl
theorem stO_cells {n f s o : Nat} {cs xs : List V} : stO n f s o cs (some (.cells xs)) = if cs.length = n ∧ o + n ≤ xs.length then some (.val .bad (some (f, s, .cells (splice xs o cs)))) else none := rfl
theorem ra_of {t : TypeId} {dd : TypeDesc} {n : Nat} (h : P.underlying t = some dd) (hs : sz P t = some n) (ha : aggD dd = true) (cs : List V) (o : Nat) :
    readAt P t cs o = if o + n ≤ cs.length then some (.agg ((cs.drop o).take n)) else none := by
  simp only [readAt, h, hs, ha, if_true]
theorem cells_agg {cs : List V} : (V.agg cs).cells = if cs.all V.scalar then some cs else none := rfl
theorem sc_bool {b : Bool} : (V.bool b).scalar = true := rfl
theorem sc_int {k : IntKind} {n : Int} : (V.int k n).scalar = true := rfl
theorem sc_str {s : List UInt8} : (V.str s).scalar = true := rfl
theorem sc_nilptr : V.nilptr.scalar = true := rfl
theorem sc_ptr {f s o : Nat} : (V.ptr f s o).scalar = true := rfl
theorem sc_iptr {cs : List V} {o : Nat} : (V.iptr cs o).scalar = true := rfl
theorem sc_nilslice : V.nilslice.scalar = true := rfl
theorem sc_islice {cs : List V} {n : Nat} {b : Bool} : (V.islice cs n b).scalar = true := rfl
theorem sc_mslice {f s o n : Nat} {c : Option Nat} {e : Nat} : (V.mslice f s o n c e).scalar = true := rfl
theorem sc_gslice {f s n e : Nat} {cs : List V} : (V.gslice f s cs n e).scalar = true := rfl
theorem sc_nilmap : V.nilmap.scalar = true := rfl
theorem sc_map {f s : Nat} : (V.map f s).scalar = true := rfl
theorem sc_func {f : Fn} {a b : List V} : (V.func f a b).scalar = true := rfl
end
end Go.AM
end
section
/- The abstract machine, part 48: the walk's rules in bundles. -/
namespace Go.AM
theorem un_not' {b : Bool} : unV .not (.bool b) = some (.bool !b) := rfl
abbrev walk := And.intro @u_seq <| And.intro @u_region <| And.intro @u_block <| And.intro @w_op <| And.intro @us_val <| And.intro @us_call <| And.intro @us_panic <| And.intro @uc_ret <| And.intro @uc_pan <| And.intro @w_cond <| And.intro @ui_true <| And.intro @ui_false <| And.intro @w_opT <| And.intro @ust_val <| And.intro @ust_set <| And.intro @ust_call <| And.intro @uct_ret <| And.intro @w_guardT <| And.intro @ugt_tt <| And.intro @ugt_ff <| And.intro @ugt_tf <| And.intro @ugt_ft <| And.intro @u_draw <| And.intro @w_guard <| And.intro @ug_tt <| And.intro @ug_ff <| And.intro @ug_tf <| And.intro @ug_ft <| And.intro @ug_no <| And.intro @ugt_no <| And.intro @w_loop <| And.intro @ul_some <| And.intro @u_ops_nil <| And.intro @u_skip <| And.intro @u_ret <| And.intro @u_exit <| And.intro @u_nil <| And.intro @u_code_ret <| And.intro @u_code_exit <| And.intro @u_code_panic <| And.intro @u_block_normal <| And.intro @u_block_ret <| And.intro @u_block_panic <| And.intro @u_block_exit <| And.intro @b_add <| And.intro @b_sub <| And.intro @b_mul <| And.intro @b_eql <| And.intro @b_neq <| And.intro @b_lss <| And.intro @b_leq <| And.intro @b_gtr <| And.intro @b_geq <| And.intro @b_sadd <| And.intro @b_seql <| And.intro @b_sneq <| And.intro @oc_int <| And.intro @oc_bool <| And.intro @oc_str <| And.intro @oc_nilslice <| And.intro @oc_nilptr <| And.intro @oc_nilmap <| And.intro @oc_nilfunc <| And.intro @oc_nilface <| And.intro @bi_len <| And.intro @bi_max <| And.intro @bi_min <| And.intro @mx_nil <| And.intro @mx_one <| And.intro @frz_islice <| And.intro @frz_nilslice <| And.intro @frz_int <| And.intro @frz_bool <| @frz_str
abbrev walkM := And.intro @un_not' <| And.intro @fao_some <| And.intro @fa_ptr <| And.intro @fa_iptr <| And.intro @fv_agg <| And.intro @ld_ptr <| And.intro @ld_iptr <| And.intro @ldO_cells <| And.intro @st_ptr <| And.intro @cells_agg <| And.intro @sc_bool <| And.intro @sc_int <| And.intro @sc_str <| And.intro @sc_nilptr <| And.intro @sc_ptr <| And.intro @sc_iptr <| And.intro @sc_nilslice <| And.intro @sc_islice <| And.intro @sc_mslice <| And.intro @sc_gslice <| And.intro @sc_nilmap <| And.intro @sc_map <| @sc_func
abbrev walkB := And.intro @cells_int <| And.intro @cells_bool <| And.intro @cells_str <| And.intro @cells_nilptr <| And.intro @cells_ptr <| And.intro @cells_iptr <| And.intro @cells_nilslice <| And.intro @cells_islice <| And.intro @cells_gslice <| And.intro @cells_mslice <| And.intro @cells_nilmap <| And.intro @cells_map <| And.intro @cells_func <| And.intro @cells_nilfunc <| And.intro @cells_nilface <| @cells_face
abbrev walkL := And.intro @List.getD_cons_zero.{0} <| And.intro @List.getD_cons_succ.{0} <| And.intro @List.set_cons_zero.{0} <| And.intro @List.set_cons_succ.{0} <| And.intro @List.map_cons.{0, 0} <| And.intro @List.map_nil.{0, 0} <| And.intro @Option.map_some.{0, 0} <| And.intro @Option.map_none.{0, 0} <| And.intro @Option.bind_some.{0, 0} <| And.intro @Option.bind_none.{0, 0} <| And.intro @List.length_nil.{0} <| And.intro @List.length_cons.{0} <| And.intro @List.nil_append.{0} <| And.intro @List.cons_append.{0} <| And.intro @List.append_nil.{0} <| And.intro @List.replicate_succ.{0} <| And.intro @List.replicate_zero.{0} <| And.intro @List.getElem?_cons_zero.{0} <| And.intro @List.getElem?_cons_succ.{0} <| @List.getElem?_toArray.{0}
end Go.AM
end
section
/- The abstract machine, part 36: maps.clone. -/
namespace Go.AM
section
variable {P : Program} {E : Env} {B : Nat} {F : Nat → Nat → Prop} {H : Heap}

end
end Go.AM
end
section
/- The abstract machine, part 51: ranges over functions, and their rounds, in the walk. -/
namespace Go.AM

section
variable {P : Program} {pol : Pol} {L : MBody → Body} {fn fr : Nat} {t : List V} {H : Heap} {k : List It} {Q : Ex → List V → Heap → Prop}

theorem u_rfunc {C : Call} {g : Operand} {ps : Array Tmp} {a b : Code} {f : FuncId} {first cap : List V} (hg : rho t g = .func (.func f) first cap) (hf : hget H fr (loopSlot (loopId a b)) = none) :
    U P pol C L fn fr (.code (.rangeFunc g ps a b) :: k) .normal t H = (match C f (first ++ [.yield fr (loopSlot (loopId a b))] ++ cap) (hset H fr (loopSlot (loopId a b)) (.loop 0 none fn (loopId a b) t)) with
      | some (.ret _, H2) => UL P pol C L fn fr (loopEnd fr (loopSlot (loopId a b)) t H2) k
      | _ => none) := by
  simp only [U, exec, hg, hf, UL]
  cases C f (first ++ [.yield fr (loopSlot (loopId a b))] ++ cap) (hset H fr (loopSlot (loopId a b)) (.loop 0 none fn (loopId a b) t)) with
  | none => rfl
  | some q => obtain ⟨q, H2⟩ := q; cases q <;> rfl
theorem W.rfunc {g : Operand} {ps : Array Tmp} {a b : Code} {f : FuncId} {first cap : List V} {rid : Nat} (hr : loopId a b = rid) (hg : rho t g = .func (.func f) first cap) (hf : hget H fr (loopSlot rid) = none)
    (h : CW P pol f (first ++ [.yield fr (loopSlot rid)] ++ cap) (hset H fr (loopSlot rid) (.loop 0 none fn rid t)) fun r H2 => ∃ v, r = .ret v ∧ W (UL P pol (callW P pol) L fn fr (loopEnd fr (loopSlot rid) t H2) k) Q) :
    W (U P pol (callW P pol) L fn fr (.code (.rangeFunc g ps a b) :: k) .normal t H) Q := by
  subst hr
  obtain ⟨r, H2, h1, v, rfl, h2⟩ := h
  rw [u_rfunc hg hf, h1]
  exact h2
theorem loopEnd_of {s st f r : Nat} {t0 : List V} (hg : hget H fr s = some (.loop st none f r t0)) (hst : st ≠ 1) (h1 : refsL (slotP fr s) t = false) (h2 : clearH (slotP fr s) (H.modify fr (fdel fun x => [s].contains x)) = true) :
    loopEnd fr s t H = some (.normal, t, H.modify fr (fdel fun x => [s].contains x)) := by
  simp only [loopEnd, hg, if_neg hst, h1, h2, Bool.false_eq_true, if_false, if_true]
theorem loopAt_of {F : Func} {c : Code} {fn rid : Nat} {x : Array Tmp × Code × Code} (hF : P.funcs[fn]? = some F) (hc : F.body = some c) (h : findLoop rid c = some x) : loopAt P fn rid = some x := by
  simp only [loopAt, hF, hc, h]
theorem gs_eq {t : List V} {i : Nat} {x d : V} (h : i < t.length) : (t.set i x).getD i d = x := by simp [List.getD, h]
theorem gs_ne {t : List V} {i j : Nat} {x d : V} (h : (i == j) = false) : (t.set i x).getD j d = t.getD j d := by
  have : i ≠ j := by simpa using h
  simp [List.getD, this]

theorem round_of {fo so : Nat} {args : List V} {p : Option (Option Nat)} {fL rid : Nat} {t0 : List V} {ps : Array Tmp} {a b : Code} {R : Rt → Heap → Prop}
    (hg : hget H fo so = some (.loop 0 p fL rid t0)) (hl : loopAt P fL rid = some (ps, a, b)) (hn : args.length = ps.size)
    (h : W (U P pol (callW P pol) loopW fL H.length [.code a] .normal (putArgs t0 (ps.toList.zip args)) (H ++ [[]])) fun e t1 H1 => e = .normal ∧ ∃ p' fL' rid' t0', hget H1 fo so = some (.loop 0 p' fL' rid' t0') ∧
      W (U P pol (callW P pol) loopW fL H.length [.code b] .normal t1 (hset H1 fo so (.loop 1 p' fL' rid' t0'))) fun e _ H2 => ∃ r H3, roundEnd fo so H.length e H2 = some (r, H3) ∧ R r H3) :
    ∃ r H3, callW P pol none (.yield fo so :: args) H = some (r, H3) ∧ R r H3 := by
  obtain ⟨e, t1, H1, h1, rfl, p', fL', rid', t0', h2, h3⟩ := h.out
  obtain ⟨e2, t2, H2, h4, r, H3, h5, h6⟩ := h3.out
  refine ⟨r, H3, callW_round ?_, h6⟩
  have one' : ∀ (fr : Nat) (c : Code) t H, U P pol (callW P pol) loopW fL fr [.code c] .normal t H = exec P pol (callW P pol) loopW fL fr c t H := by
    intro fr c t H
    simp only [U]
    cases exec P pol (callW P pol) loopW fL fr c t H <;> rfl
  rw [one'] at h1 h4
  unfold callR
  simp only [hg, hl, if_pos hn, h1, h2, h4]
  exact h5
end
end Go.AM
end
section
/- The machine for closed laws, part 14: the machine itself. All objects lie in one frame, each by a number of its own. -/
namespace Go.AM.BM

abbrev Prim := Nat → Option Nat → Get → List V → Option (V × Option (Nat × Nat × O))
abbrev PrimL := Nat → Get → List V → Option (V × List (Nat × Nat × O))
structure Pol where
  prim : FuncId → Option Prim
  loop : FuncId → Nat → Option (List V → Heap → Option (List V × Heap)) := fun _ _ => none
  /-- What they answer becomes cells that no longer change. -/
  fix : FuncId → Bool := fun _ => false
  /-- Which of their arguments becomes cells that no longer change. -/
  fixA : FuncId → Option Nat := fun _ => none
  /-- Functions answered at once, with any number of writes. -/
  prims : FuncId → Option PrimL := fun _ => none

def eqbG : Option O → Option O → Bool
  | none, none => true
  | some a, some b => a.eqb b
  | _, _ => false
theorem eqbG_iff : ∀ (a b : Option O), eqbG a b = true ↔ a = b := by
  intro a b
  cases a <;> cases b <;> simp [eqbG, O.eqb_iff]


def topOf : Frame → Nat
  | [] => 0
  | (k, _) :: r => max (k + 1) (topOf r)
def nextOf : Heap → Nat
  | [] => 0
  | f :: _ => topOf f
def wrL : Heap → List (Nat × Nat × O) → Heap
  | H, [] => H
  | H, (f, s, o) :: r => wrL (hset H f s o) r
def atN (o : Oper) (nm : Nat) : Oper := { o with dst := some nm }

def growV (P : Program) (g : Get) (nm : Nat) (t t2 : TypeId) (s x : V) : Option (V × List (Nat × Nat × O)) :=
  match P.underlying t, s with
  | some (.slice e), .mslice f sl 0 len none e' => (match sz P e, byt P e, zeroCells P e with
    | some n, some by_, some z => if z.length = n ∧ e' = n ∧ 0 < n then
      (match g f sl, g 0 nm, appSrc P g t2 n by_ z x with
      | some (.cells xs), none, some (new, m + 1) => if xs.length = len * n ∧ roomy (len + (m + 1)) by_ ∧ new.all V.scalar then
          some (.mslice 0 nm 0 (len + (m + 1)) none n, [(f, sl, .dead), (0, nm, .cells (xs ++ new))]) else none
      | _, _, _ => none) else none
    | _, _, _ => none)
  | _, _ => none
def clearV (P : Program) (g : Get) (t : TypeId) (s : V) : Option (V × List (Nat × Nat × O)) :=
  match P.underlying t with
  | some (.slice e) => (match sz P e, zeroCells P e, s with
    | some _, some _, .nilslice => some (.tuple [], [])
    | some n, some z, .mslice f sl o len _ e' => if len = 0 then some (.tuple [], []) else (match g f sl with
      | some (.cells xs) => if e' = n ∧ z.length = n ∧ o + len * n ≤ xs.length ∧ 0 < n then some (.tuple [], [(f, sl, .cells (splice xs o (zerosN z len)))]) else none
      | _ => none)
    | _, _, _ => none)
  | _ => none
def moreOp (P : Program) (g : Get) (r : Operand → V) (nm : Nat) (o : Op) : Option (V × List (Nat × Nat × O)) :=
  match o with
  | .call c => (match c.callee, c.args.toList, c.argTypes.toList with
    | .builtin .append, [s, x], t :: t2 :: _ => growV P g nm t t2 (r s) (r x)
    | .builtin .clear, [s], [t] => clearV P g t (r s)
    | _, _, _ => none)
  | _ => none

section
variable (P : Program) (pol : Pol) (C : Call)

def fix1 (g : Get) (v : V) : Option (V × Option (Nat × Nat × O)) := match v with
  | .mslice f s o len cap esz => (match g f s with
    | some (.cells xs) => if o + len * esz ≤ xs.length ∧ pureL xs = true then some (.islice ((xs.drop o).take (len * esz)) len (cap == some len), some (f, s, .dead)) else none
    | _ => none)
  | v => some (v, none)
def fixV (g : Get) (v : V) : Option (V × Option (Nat × Nat × O)) := match v with
  | .tuple (x :: r) => (fix1 g x).map fun y => (.tuple (y.1 :: r), y.2)
  | v => fix1 g v
def fixR (b : Bool) (x : Option (Rt × Heap)) : Option (Rt × Heap) := match b with
  | false => x
  | true => (match x with
    | some (.ret v, H) => (match fixV (hget H) v with
      | some (v', w) => some (.ret v', wr H w)
      | none => none)
    | x => x)
def fixAt (g : Get) (i : Option Nat) (args : List V) : Option (List V × Option (Nat × Nat × O)) := match i with
  | none => some (args, none)
  | some i => (match args[i]? with
    | some x => (match fix1 g x with
      | some (y, w) => some (args.set i y, w)
      | none => none)
    | none => none)
def callOp (nm : Nat) (f : FuncId) (args : List V) (H : Heap) : Option (Rt × Heap) :=
  match pol.prims f with
  | some g => (g nm (hget H) args).map fun x => (.ret x.1, wrL H x.2)
  | none => (match pol.prim f with
    | some g => (g 0 (some nm) (hget H) args).map fun x => (.ret x.1, wr H x.2)
    | none => (match fixAt (hget H) (pol.fixA f) args with
      | some (as, w) => fixR (pol.fix f) (C (some f) as (wr H w))
      | none => none))

def opOne (nm : Nat) (t : List V) (H : Heap) (o : Oper) : Option (Ex × List V × Heap) :=
  match evOp P (fun _ => true) 0 (hget H) (rho t) (atN o nm) with
  | none => (match moreOp P (hget H) (rho t) nm o.op with
    | some (v, ws) => some (.normal, putT t o.dst v, wrL H ws)
    | none => none)
  | some (.val v w) => some (.normal, putT t o.dst v, wr H w)
  | some (.panic v) => some (.panic v, t, H)
  | some (.call f args) => (match callOp pol C (nextOf H) f args H with
    | some (.ret v, H') => some (.normal, putT t o.dst v, H')
    | some (.pan v, H') => some (.panic v, t, H')
    | none => none)
  | some (.round f s args) => (match C none (.yield f s :: args) H with
    | some (.ret v, H') => some (.normal, putT t o.dst v, H')
    | _ => none)

def runOps (ops : Array Oper) : List Oper → List V → Heap → Option (Ex × List V × Heap)
  | [], t, H => some (.normal, t, H)
  | o :: r, t, H => match wantedV ops t o with
    | none => none
    | some false => runOps ops r (putT t o.dst nov) H
    | some true => (match opOne P pol C (nextOf H) t H o with
      | some (.normal, t, H) => runOps ops r t H
      | x => x)
def loopN (body : Body) : Nat → Body
  | 0, _, _ => none
  | n + 1, t, H => match body t H with
    | some (.normal, t, H) => loopN body n t H
    | r => r


end

inductive FP where
  | quiet
  | ids (r w : List (Nat × Nat)) (fresh : Bool)
  | call (k : Nat → Nat → Bool)
  | all

def FP.indep : FP → FP → Bool
  | .quiet, _ | _, .quiet => true
  | .ids r w _, .ids r' w' _ => !meets w r' && !meets w w' && !meets w' r
  | .call k, .ids r w fresh => (w.isEmpty || fresh) && r.all fun x => k x.1 x.2
  | .ids r w _, .call k => w.isEmpty && r.all fun x => k x.1 x.2
  | _, _ => false

def idsL (ws : List (Nat × Nat × O)) : List (Nat × Nat) := ws.map fun x => (x.1, x.2.1)
def isFresh (nm : Nat) (H : Heap) : List (Nat × Nat × O) → Bool
  | [(f, s, _)] => Nat.beq f 0 && Nat.beq s nm && (hget H 0 nm).isNone
  | _ => false
def keeps (lim : Nat) (H H1 : Heap) : Nat → Nat → Bool := fun f s => Nat.ble lim (nextOf H) && eqbG (hget H f s) (hget H1 f s)

section
variable (P : Program) (pol : Pol) (C : Call)

def fpOf (lim nm : Nat) (t : List V) (H H1 : Heap) (o : Oper) : FP :=
  if quietOp o.op then .quiet else if farOp o.op then .all else
  match evOp P (fun _ => true) 0 (hget H) (rho t) (atN o nm) with
  | some (.val _ w) => .ids (idsOf 0 (rho t) (atN o nm)) (idsL w.toList) (isFresh nm H w.toList)
  | none => (match moreOp P (hget H) (rho t) nm o.op with
    | some (_, ws) => .ids (idsOf 0 (rho t) (atN o nm)) (idsL ws) (isFresh nm H ws)
    | none => .all)
  | some (.call _ _) => .call (keeps lim H H1)
  | _ => .all

def runOpsT (ops : Array Oper) (lim : Nat) : Nat → List Oper → List V → Heap → Option (List V × Heap × List FP)
  | _, [], t, H => some (t, H, [])
  | nm, o :: r, t, H => match wantedV ops t o with
    | none => none
    | some false => (match runOpsT ops lim (nm + 1) r (putT t o.dst nov) H with
      | some (t', H', T) => some (t', H', .quiet :: T)
      | none => none)
    | some true => (match opOne P pol C nm t H o with
      | some (.normal, t1, H1) => (match runOpsT ops lim (nm + 1) r t1 H1 with
        | some (t', H', T) => some (t', H', fpOf P lim nm t H H1 o :: T)
        | none => none)
      | _ => none)
end

def okT (bef : Array Nat) : List (FP × Nat) → Bool
  | [] => true
  | (a, i) :: r => r.all (fun (b, j) => (bef.getD j 0).testBit i || a.indep b) && okT bef r
def FP.loud : FP → Bool
  | .quiet => false
  | _ => true
def loud (T : List FP) : List (FP × Nat) := T.zipIdx.filter fun x => x.1.loud


def loopEnd (s : Nat) (t : List V) (H : Heap) : Out :=
  match hget H 0 s with
  | some (.loop st pend _ _ _) => if st = 1 then none else
      (match pend with
      | none => some (.normal, t, hset H 0 s .dead)
      | some none => some (.ret, t, hset H 0 s .dead)
      | some (some i) => some (.exit i, t, hset H 0 s .dead))
  | _ => none

section
variable (P : Program) (pol : Pol) (C : Call) (L : Body → Body) (fn : Nat)

mutual
def exec : Code → Body
  | .skip => fun t H => some (.normal, t, H)
  | .region _ ops draw => fun t H => if draw then (match hget H 0 (nextOf H + ops.size) with
      | some _ => none
      | none => (match runOpsT P pol C ops (nextOf H + ops.size) (nextOf H) ops.toList t (hset H 0 (nextOf H + ops.size) .dead) with
        | some (t', H', T) => if okT (Region.before ops) (loud T) then some (.normal, t', H') else none
        | none => none)) else runOps P pol C ops ops.toList t H
  | .seq a b => fun t H => (match exec a t H with
    | some (.normal, t, H) => exec b t H
    | r => r)
  | .cond c x y => fun t H => (match rho t c with
    | .bool b => if b then exec x t H else exec y t H
    | _ => none)
  | .block id b => fun t H => (match exec b t H with
    | some (.exit i, t, H) => if i = id then some (.normal, t, H) else some (.exit i, t, H)
    | r => r)
  | .loop b => fun t H => (match pol.loop fn (fstRegion b) with
    | some g => (g t H).map fun x => (.normal, x.1, x.2)
    | none => L (fun t H => match headNext b with
      | none => exec b t H
      | some x => (match nextC (hget H) (rho t x) with
        | some [c] => execF b c.1 c.2 t H
        | _ => none)) t H)
  | .exit id => fun t H => some (.exit id, t, H)
  | .ret => fun t H => some (.ret, t, H)
  | .rangeFunc g _ a b => fun t H => (match rho t g with
    | .func (.func f) first cap => (match hget H 0 (nextOf H) with
      | none => (match C (some f) (first ++ [.yield 0 (nextOf H)] ++ cap) (hset H 0 (nextOf H) (.loop 0 none fn (loopId a b) t)) with
        | some (.ret _, H2) => loopEnd (nextOf H) t H2
        | _ => none)
      | some _ => none)
    | _ => none)
  | _ => fun _ _ => none
def execF : Code → V → Option (Nat × Nat × O) → Body
  | .region _ ops _ => fun v w t H => (match ops.toList with
    | o :: r => runOps P pol C ops r (putT t o.dst v) (wr H w)
    | [] => none)
  | .seq a b => fun v w t H => (match execF a v w t H with
    | some (.normal, t, H) => exec b t H
    | r => r)
  | _ => fun _ _ _ _ => none
end

def roundEnd (fo so : Nat) (e : Ex) (H : Heap) : Option (Rt × Heap) :=
  match hget H fo so with
  | some (.loop _ _ fL rid t0) => (match e with
    | .normal => some (.ret (.bool true), hset H fo so (.loop 0 none fL rid t0))
    | .ret => some (.ret (.bool false), hset H fo so (.loop 2 (some none) fL rid t0))
    | .exit i => some (.ret (.bool false), hset H fo so (.loop 2 (some (some i)) fL rid t0))
    | .panic _ => none)
  | _ => none
def callR (fo so : Nat) (args : List V) (H : Heap) : Option (Rt × Heap) :=
  match hget H fo so with
  | some (.loop 0 _ fL rid t0) => (match loopAt P fL rid with
    | some (ps, a, b) => if args.length = ps.size then
        (match exec P pol C L fL a (putArgs t0 (ps.toList.zip args)) H with
        | some (.normal, t1, H1) => (match hget H1 fo so with
          | some (.loop 0 pend fL' rid' t0') => (match exec P pol C L fL b t1 (hset H1 fo so (.loop 1 pend fL' rid' t0')) with
            | some (e, _, H2) => roundEnd fo so e H2
            | none => none)
          | _ => none)
        | _ => none) else none
    | none => none)
  | _ => none

def deferOf : Code → Option (Array Oper × List Oper × Option Nat × Operand)
  | .region _ ops false => (match ops.toList.reverse with
    | o :: r => (match o.guard, o.op with
      | none, .defer c => (match c.callee, c.args.toList with
        | .value x, [] => some (ops, r.reverse, o.dst, x)
        | _, _ => none)
      | _, _ => none)
    | [] => none)
  | _ => none
def deferC : Code → Bool
  | .seq a b => (deferOf a).isSome || deferC b
  | _ => false
def noD : Out → Option (Ex × List V × Heap × List V)
  | some (e, t, H) => some (e, t, H, [])
  | none => none
def execD (fn : Nat) : Code → List V → Heap → Option (Ex × List V × Heap × List V)
  | .seq a b, t, H => (match deferOf a with
    | some (ops, l, d, x) => (match runOps P pol C ops l t H with
      | some (.normal, t1, H1) => (match rho t1 x with
        | .func f p q => (match execD fn b (putT t1 d nov) H1 with
          | some (ex, t2, H2, ds) => some (ex, t2, H2, ds ++ [.func f p q])
          | none => none)
        | _ => none)
      | _ => none)
    | none => if (loopIds a).isEmpty then (match exec P pol C L fn a t H with
        | some (.normal, t1, H1) => execD fn b t1 H1
        | some (e, t1, H1) => some (e, t1, H1, [])
        | none => none)
      else noD (exec P pol C L fn (.seq a b) t H))
  | c, t, H => noD (exec P pol C L fn c t H)
def plainF (g : FuncId) : Bool := match P.funcs[g]? with
  | some F => (match F.body with
    | some c => (loopIds c).isEmpty && !deferC c
    | none => false)
  | none => false
def runDs : List V → Heap → Option Heap
  | [], H => some H
  | .func (.func g) first cap :: ds, H => if plainF P g then (match C (some g) (first ++ cap) H with
    | some (.ret _, H') => runDs ds H'
    | _ => none) else none
  | _, _ => none
def callD (f : FuncId) (F : Func) (c : Code) (args : List V) (H : Heap) : Option (Rt × Heap) :=
  match execD P pol C L f c (args ++ List.replicate (F.ntmps - args.length) .bad) H with
  | some (.normal, t, H', ds) | some (.ret, t, H', ds) => (match runDs P C ds H' with
    | some H2 => (match resV P F t H2 with
      | some v => some (.ret v, H2)
      | none => none)
    | none => none)
  | _ => none

def callF (f : FuncId) (args : List V) (H : Heap) : Option (Rt × Heap) :=
  match P.funcs[f]? with
  | some F => (match F.body with
    | some c => if deferC c then callD P pol C L f F c args H else (match exec P pol C L f c (args ++ List.replicate (F.ntmps - args.length) .bad) H with
      | some (.normal, t, H') | some (.ret, t, H') => (match resV P F t H' with
        | some v => some (.ret v, H')
        | none => none)
      | some (.panic v, _, H') => some (.pan v, H')
      | _ => none)
    | none => none)
  | none => none
def callB (f : Option FuncId) (args : List V) (H : Heap) : Option (Rt × Heap) :=
  match f with
  | some f => callF P pol C L f args H
  | none => (match args with
    | .yield fo so :: rest => callR P pol C L fo so rest H
    | _ => none)
end

def callN (P : Program) (pol : Pol) : Nat → Call
  | 0 => fun _ _ _ => none
  | n + 1 => callB P pol (callN P pol n) (fun b => loopN b n)

end Go.AM.BM
end
