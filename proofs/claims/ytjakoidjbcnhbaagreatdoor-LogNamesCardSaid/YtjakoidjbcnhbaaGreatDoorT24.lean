/- This file holds in one the texts An34, An37, An40, An41, An48, An36, An51; each says at its head what it proves. -/
import Derived.Test.YtjakoidjbcnhbaaGreatDoorT20
import Derived.Test.YtjakoidjbcnhbaaGreatDoorT23
set_option linter.unusedSimpArgs false
set_option linter.unusedVariables false
section
/- The abstract machine, part 34: arguments of a row as bytes and numbers; strings of bytes. -/
namespace Go.AM
section
variable {P : Program} {t e : TypeId} {n : Nat} {y : V}

theorem flatten_bytes (he : P.underlying e = some (.int .u8)) : ∀ (ys : List (List V)), (∀ y ∈ ys, Reads P n e y) → ∃ l : List UInt8, ys.flatten = ofBytes l ∧ l.length = ys.length
  | [], _ => ⟨[], rfl, rfl⟩
  | y :: ys, h => by
    obtain ⟨l, h1, h2⟩ := flatten_bytes he ys fun z hz => h z (by simp [hz])
    have hy := h y (by simp)
    cases n with
    | zero => exact hy.elim
    | succ n =>
      unfold Reads at hy
      rw [he] at hy
      obtain ⟨m, rfl, hm⟩ := hy
      have hr : 0 ≤ m ∧ m ≤ 255 := by simpa [Lit.wf, IntKind.min, IntKind.max, IntKind.signed, IntKind.bits] using hm
      refine ⟨UInt8.ofNat m.toNat :: l, ?_, by simp [h2]⟩
      simp only [List.flatten_cons, h1, ofBytes, List.map_cons, List.singleton_append, List.cons.injEq, and_true, V.int.injEq, true_and]
      have : (UInt8.ofNat m.toNat).toNat = m.toNat := by simp [UInt8.toNat_ofNat']; omega
      rw [this]; omega
theorem arg_bytes (hu : P.underlying t = some (.slice e)) (he : P.underlying e = some (.int .u8)) (h : ArgRead P n t y) : ∃ l, IsBytes y l := by
  unfold ArgRead at h
  rw [hu] at h
  cases n with
  | zero => exact h.elim
  | succ n =>
    simp only [Reads, hu] at h
    rcases h with h | ⟨ys, h, _, h2⟩
    · cases h; exact ⟨[], IsBytes.nil⟩
    · cases h
      obtain ⟨l, h3, h4⟩ := flatten_bytes he ys h2
      rw [h3, ← h4]
      exact ⟨l, IsBytes.mk l false⟩
theorem arg_int {k : IntKind} (hu : P.underlying t = some (.int k)) (h : ArgRead P n t y) : ∃ m, y = .int k m ∧ (Lit.int k m).wf = true := by
  unfold ArgRead at h
  rw [hu] at h
  cases n with
  | zero => exact h.elim
  | succ n =>
    simp only [Reads, hu] at h
    obtain ⟨m, h1, h2⟩ := h
    cases h1
    exact ⟨m, rfl, h2⟩
end

theorem conv_bytes {P : Program} {s d e : TypeId} {g : Get} {x : V} {l : List UInt8} {n : Nat} (hs : P.underlying s = some (.slice e)) (he : P.underlying e = some (.int .u8)) (hd : P.underlying d = some .string) (h : sliceCells g 1 x = some (ofBytes l, n)) :
    convertV P g s d x = some (.val (.str l) none) := by
  have hn : ∀ l, x ≠ .str l := by intro l e; subst e; simp [sliceCells] at h
  have hn2 : ∀ k m, x ≠ .int k m := by intro k m e; subst e; simp [sliceCells] at h
  simp only [convertV, hs, hd, he, h, bytesOf_ofBytes, Option.map_some]
theorem sc_own {g : Get} {f s : Nat} {c : Option Nat} {l : List UInt8} (h : g f s = some (.cells (ofBytes l))) : sliceCells g 1 (.mslice f s 0 l.length c 1) = some (ofBytes l, l.length) := by
  simp only [sliceCells, h, Nat.mul_one, Nat.zero_add, ofBytes_length, Nat.le_refl, and_self, if_true, List.drop_zero]
  rw [List.take_of_length_le (by rw [ofBytes_length]; exact Nat.le_refl _)]
theorem u8_add (a b : UInt8) : (IntKind.u8).wrap ((a.toNat : Int) + (b.toNat : Int)) = ((a + b).toNat : Int) := by
  rw [UInt8.toNat_add, IntKind.wrap_u8]
  omega
end Go.AM
end
section
/- The abstract machine, part 37: loops over maps: whatever the order, one outcome. -/
namespace Go.AM

def itF : Code → Option (Option Nat × List It)
  | .region _ ops false => (match ops.toList with
    | o :: r => some (o.dst, [.ops ops r])
    | [] => none)
  | .seq a b => (match itF a with
    | some (d, k) => some (d, k ++ [.code b])
    | none => none)
  | _ => none

section
variable {P : Program} {pol : Pol} {C : Call} {L : MBody → Body} {fn fr : Nat} {t : List V} {H : Heap} {Q : Ex → List V → Heap → Prop}

theorem u_append : ∀ (k k' : List It) (e : Ex) (t : List V) (H : Heap), U P pol C L fn fr (k ++ k') e t H = (U P pol C L fn fr k e t H).bind fun x => U P pol C L fn fr k' x.1 x.2.1 x.2.2
  | [], _, _, _, _ => rfl
  | .code c :: k, k', e, t, H => by
    cases e with
    | normal =>
      simp only [List.cons_append, U]
      cases exec P pol C L fn fr c t H with
      | none => rfl
      | some x => exact u_append k k' x.1 x.2.1 x.2.2
    | exit i => exact u_append k k' _ t H
    | ret => exact u_append k k' _ t H
    | panic v => exact u_append k k' _ t H
  | .ops a l :: k, k', e, t, H => by
    cases e with
    | normal =>
      simp only [List.cons_append, U]
      cases runOps P pol C fn fr a l t H with
      | none => rfl
      | some x => exact u_append k k' x.1 x.2.1 x.2.2
    | exit i => exact u_append k k' _ t H
    | ret => exact u_append k k' _ t H
    | panic v => exact u_append k k' _ t H
  | .opsT a l T :: k, k', e, t, H => by
    cases e with
    | normal =>
      simp only [List.cons_append, U]
      cases runOpsT P pol C fn fr a l t H with
      | none => rfl
      | some x =>
        simp only [Option.bind_some]
        split
        · exact u_append k k' _ _ _
        · rfl
    | exit i => exact u_append k k' _ t H
    | ret => exact u_append k k' _ t H
    | panic v => exact u_append k k' _ t H
  | .block id :: k, k', e, t, H => by
    cases e with
    | exit i =>
      simp only [List.cons_append, U]
      split
      · exact u_append k k' _ t H
      · exact u_append k k' _ t H
    | normal => exact u_append k k' _ t H
    | ret => exact u_append k k' _ t H
    | panic v => exact u_append k k' _ t H

theorem execF_it {v : V} {w : Option (Nat × Nat × O)} : ∀ {c : Code} {d : Option Nat} {k : List It}, itF c = some (d, k) → ∀ (t : List V) (H : Heap), execF P pol C L fn fr c v w t H = U P pol C L fn fr k .normal (putT t d v) (wr H w) := by
  intro c
  induction c with
  | region id ops draw =>
    intro d k h t H
    cases draw with
    | true => cases h
    | false =>
      simp only [itF] at h
      simp only [execF]
      cases ho : ops.toList with
      | nil => rw [ho] at h; cases h
      | cons o r =>
        rw [ho] at h
        cases h
        simp only [U]
        cases runOps P pol C fn fr ops r (putT t o.dst v) (wr H w) with
        | none => rfl
        | some x => rfl
  | seq a b iha ihb =>
    intro d k h t H
    simp only [itF] at h
    cases ha : itF a with
    | none => rw [ha] at h; cases h
    | some x =>
      obtain ⟨d', k'⟩ := x
      rw [ha] at h
      cases h
      simp only [execF, iha ha, u_append]
      cases U P pol C L fn fr k' .normal (putT t d v) (wr H w) with
      | none => rfl
      | some x =>
        obtain ⟨e, t1, H1⟩ := x
        cases e with
        | normal => simp only [Option.bind_some, u_start]
        | exit i => rfl
        | ret => rfl
        | panic v => rfl
  | _ => intro d k h; cases h

theorem range_eq {α : Type} {b : Code} {x : Operand} {d : Option Nat} {k : List It} (hn : headNext b = some x) (hi : itF b = some (d, k)) (R : Ex × List V × Heap) (I : α → List V → Heap → Prop) (m : α → Nat)
    (step : ∀ a t H, I a t H → ∃ t1 H1 cs, forget pol fn fr (fstRegion b) t H = some (t1, H1) ∧ nextC (hget H1) (rho t1 x) = some cs ∧
      ∀ c ∈ cs, W (U P pol C loopW fn fr k .normal (putT t1 d c.1) (wr H1 c.2)) fun e t2 H2 => match e with
        | .normal => ∃ a', I a' t2 H2 ∧ m a' < m a
        | e => R = (e, t2, H2)) (a : α) (h : I a t H) : loopW (round P pol C loopW fn fr b) t H = some R := by
  induction hm : m a using Nat.strongRecOn generalizing a t H with
  | ind n ih =>
    subst hm
    obtain ⟨t1, H1, cs, h1, h2, h3⟩ := step a t H h
    rw [loopW_eq]
    have hr : round P pol C loopW fn fr b t H = cs.map fun c => U P pol C loopW fn fr k .normal (putT t1 d c.1) (wr H1 c.2) := by
      simp only [round, h1, hn, h2, execF_it hi]
    rw [hr]
    refine agree_of (by simpa using nextC_ne h2) fun y hy => ?_
    rw [List.map_map] at hy
    obtain ⟨c, hc, rfl⟩ := List.mem_map.1 hy
    obtain ⟨e, t2, H2, q1, q2⟩ := (h3 c hc).out
    simp only [Function.comp, q1]
    cases e with
    | normal =>
      obtain ⟨a', q3, q4⟩ := q2
      exact ih _ q4 a' q3 rfl
    | exit i => exact congrArg some q2.symm
    | ret => exact congrArg some q2.symm
    | panic v => exact congrArg some q2.symm

theorem W.range {α : Type} {b : Code} {x : Operand} {d : Option Nat} {k : List It} (hn : headNext b = some x) (hi : itF b = some (d, k)) (R : Ex × List V × Heap) (I : α → List V → Heap → Prop) (m : α → Nat)
    (step : ∀ a t H, I a t H → ∃ t1 H1 cs, forget pol fn fr (fstRegion b) t H = some (t1, H1) ∧ nextC (hget H1) (rho t1 x) = some cs ∧
      ∀ c ∈ cs, W (U P pol C loopW fn fr k .normal (putT t1 d c.1) (wr H1 c.2)) fun e t2 H2 => match e with
        | .normal => ∃ a', I a' t2 H2 ∧ m a' < m a
        | e => R = (e, t2, H2)) (a : α) (h : I a t H) (hQ : Q R.1 R.2.1 R.2.2) : W (loopW (round P pol C loopW fn fr b) t H) Q := by
  rw [range_eq hn hi R I m step a h]; exact hQ

theorem nextC_map {g : Get} {f s : Nat} {m : Nat × Nat} {since stepped clk : Nat} {seen : List Nat} {es : List (V × V)} {bs : List Nat} (h1 : g f s = some (.iter (some m) since seen stepped)) (h2 : g m.1 m.2 = some (.map es bs clk))
    (h3 : ∀ b ∈ bs, b < since) (h4 : since ≤ stepped) : ∃ cs, nextC g (.ptr f s 0) = some cs ∧ ∀ c ∈ cs, (leftE seen es bs = [] ∧ c = (.tuple [.bool false], some (f, s, .dead))) ∨
      ∃ e ∈ leftE seen es bs, c = (.tuple [.bool true, e.1.1, e.1.2], some (f, s, .iter (some m) since (seen ++ [e.2]) clk)) := by
  have hall : (bs.all (fun b => decide (b < since)) && decide (since ≤ stepped)) = true := by
    rw [Bool.and_eq_true, List.all_eq_true]
    exact ⟨fun b hb => decide_eq_true (h3 b hb), decide_eq_true h4⟩
  simp only [nextC, h1, h2, hall, if_true]
  cases hl : leftE seen es bs with
  | nil => exact ⟨_, rfl, fun c hc => .inl ⟨rfl, List.mem_singleton.1 hc⟩⟩
  | cons y l =>
    refine ⟨_, rfl, fun c hc => .inr ?_⟩
    obtain ⟨e, he, rfl⟩ := List.mem_map.1 hc
    exact ⟨e, he, rfl⟩

theorem nextC_nil {g : Get} {f s since stepped : Nat} {seen : List Nat} (h1 : g f s = some (.iter none since seen stepped)) : nextC g (.ptr f s 0) = some [(.tuple [.bool false], some (f, s, .dead))] := by
  simp only [nextC, h1]

end
end Go.AM
end
section
/- The abstract machine, part 40: structs: fields' places, fields, structs built, in one rewrite each. -/
namespace Go.AM

def foOf (P : Program) (t : TypeId) (i : Nat) : Option (Nat × TypeId) :=
  match P.underlying t with
  | some (.struct fs) => (match fs[i]? with
    | some f => (match sz P f.type with
      | some n => if n = 0 then none else some (f.offset, f.type)
      | none => none)
    | none => none)
  | _ => none
def plOf (P : Program) (t : TypeId) : Option (List (Nat × Nat)) :=
  match P.underlying t with
  | some (.struct fs) => places P fs.toList
  | _ => none
def ffOf (P : Program) (t : TypeId) (i : Nat) : Option (Nat × TypeId) :=
  match P.underlying t with
  | some (.struct fs) => (match fs[i]? with
    | some f => some (f.offset, f.type)
    | none => none)
  | _ => none
def faV (off : Nat) : V → Option V
  | .ptr a b o => some (.ptr a b (o + off))
  | .iptr cs o => some (.iptr cs (o + off))
  | .rptr cs o => some (.rptr cs (o + off))
  | _ => none
def faO : Option (Nat × TypeId) → V → Option V
  | some x, v => faV x.1 v
  | none, _ => none
def fvO (P : Program) : Option (Nat × TypeId) → V → Option V
  | some x, .agg cs => partV P x.2 cs x.1
  | _, _ => none

section
variable {P : Program} {mt : Nat → Bool} {fr : Nat} {g : Get} {r : Operand → V} {d : Option Nat} {ty u : TypeId} {ps : String} {af : Array Edge} {gd : Option (Nat × Bool)} {x : Operand}

theorem ev_fa {t : TypeId} {i : Nat} : evOp P mt fr g r { dst := d, op := .fieldAddr t x i, type := ty, pos := ps, after := af, guard := gd } = (faO (foOf P t i) (r x)).map fun v => .val v none := by
  unfold foOf
  simp only [evOp]
  cases P.underlying t with
  | none => rfl
  | some dd =>
    cases dd with
    | struct fs =>
      simp only
      cases fs[i]? with
      | none => rfl
      | some f =>
        simp only
        cases sz P f.type with
        | none => rfl
        | some n =>
          simp only
          by_cases h0 : n = 0
          · simp only [h0, if_true]; rfl
          · simp only [h0, if_false]
            cases r x <;> rfl
    | _ => rfl

theorem ev_field {t : TypeId} {i : Nat} : evOp P mt fr g r { dst := d, op := .field t x i, type := ty, pos := ps, after := af, guard := gd } = (fvO P (ffOf P t i) (r x)).map fun v => .val v none := by
  unfold ffOf
  simp only [evOp]
  cases P.underlying t with
  | none => rfl
  | some dd =>
    cases dd with
    | struct fs =>
      cases r x <;> simp only <;> cases fs[i]? <;> rfl
    | _ => rfl

theorem bv_of {t : TypeId} {z : List V} {ps : List (Nat × Nat)} (hz : zeroCells P t = some z) (hp : plOf P t = some ps) (parts : List (Nat × V)) : buildV P t parts = (fillV (fun i => ps[i]?) z parts).map .agg := by
  unfold plOf at hp
  unfold buildV
  rw [hz]
  split at hp
  case h_2 => cases hp
  rename_i fs hu
  rw [hu]
  simp only [hp]

theorem fa_ptr {off a b o : Nat} : faV off (.ptr a b o) = some (.ptr a b (o + off)) := rfl
theorem fa_iptr {off o : Nat} {cs : List V} : faV off (.iptr cs o) = some (.iptr cs (o + off)) := rfl
theorem fao_some {off : Nat} {t : TypeId} {v : V} : faO (some (off, t)) v = faV off v := rfl
theorem fv_agg {t : TypeId} {off : Nat} {cs : List V} : fvO P (some (off, t)) (.agg cs) = partV P t cs off := rfl
end
end Go.AM
end
section
/- The abstract machine, part 41: loads and stores, with the object asked last. -/
namespace Go.AM

def ldO (P : Program) (t : TypeId) (o : Nat) : Option O → Option V
  | some (.cells xs) => readAt P t xs o
  | _ => none
def ldV (P : Program) (t : TypeId) (g : Get) : V → Option V
  | .ptr f s o => ldO P t o (g f s)
  | .iptr cs o => readAt P t cs o
  | .rptr cs o => readAt P t cs o
  | _ => none
def stO (n f s o : Nat) (cs : List V) : Option O → Option Step
  | some (.cells xs) => if cs.length = n ∧ o + n ≤ xs.length then some (.val .bad (some (f, s, .cells (splice xs o cs)))) else none
  | _ => none
def stV (g : Get) : Option Nat → V → Option (List V) → Option Step
  | some n, .ptr f s o, some cs => stO n f s o cs (g f s)
  | _, _, _ => none

section
variable {P : Program} {mt : Nat → Bool} {fr : Nat} {g : Get} {r : Operand → V} {d : Option Nat} {ty u : TypeId} {ps : String} {af : Array Edge} {gd : Option (Nat × Bool)} {x a : Operand}

theorem ev_load {t : TypeId} : evOp P mt fr g r { dst := d, op := .load t a, type := ty, pos := ps, after := af, guard := gd } = (ldV P t g (r a)).map fun v => .val v none := by
  simp only [evOp]
  cases r a with
  | ptr f s o =>
    simp only [ldV]
    cases g f s with
    | none => rfl
    | some q => cases q <;> rfl
  | _ => rfl

theorem ev_store {t : TypeId} : evOp P mt fr g r { dst := d, op := .store t a x, type := ty, pos := ps, after := af, guard := gd } = stV g (sz P t) (r a) (r x).cells := by
  simp only [evOp]
  cases sz P t with
  | none => cases r a <;> first | rfl | (cases (r x).cells <;> rfl)
  | some n =>
    cases r a with
    | ptr f s o =>
      cases (r x).cells with
      | none => rfl
      | some cs =>
        simp only [stV]
        cases g f s with
        | none => rfl
        | some q => cases q <;> rfl
    | _ => rfl

theorem ld_ptr {t : TypeId} {f s o : Nat} : ldV P t g (.ptr f s o) = ldO P t o (g f s) := rfl
theorem ld_iptr {t : TypeId} {o : Nat} {cs : List V} : ldV P t g (.iptr cs o) = readAt P t cs o := rfl
theorem ldO_cells {t : TypeId} {o : Nat} {xs : List V} : ldO P t o (some (.cells xs)) = readAt P t xs o := rfl
theorem st_ptr {n f s o : Nat} {cs : List V} : stV g (some n) (.ptr f s o) (some cs) = stO n f s o cs (g f s) := rfl
theorem stO_cells {n f s o : Nat} {cs xs : List V} : stO n f s o cs (some (.cells xs)) = if cs.length = n ∧ o + n ≤ xs.length then some (.val .bad (some (f, s, .cells (splice xs o cs)))) else none := rfl
theorem ra_of {t : TypeId} {dd : TypeDesc} {n : Nat} (h : P.underlying t = some dd) (hs : sz P t = some n) (ha : aggD dd = true) (cs : List V) (o : Nat) :
    readAt P t cs o = if o + n ≤ cs.length then some (.agg ((cs.drop o).take n)) else none := by
  simp only [readAt, h, hs, ha, if_true]
theorem cells_agg {cs : List V} : (V.agg cs).cells = if cs.all V.scalar then some cs else none := rfl
theorem sc_bool {b : Bool} : (V.bool b).scalar = true := rfl
theorem sc_int {k : IntKind} {n : Int} : (V.int k n).scalar = true := rfl
theorem sc_str {s : List UInt8} : (V.str s).scalar = true := rfl
theorem sc_nilptr : V.nilptr.scalar = true := rfl
theorem sc_ptr {f s o : Nat} : (V.ptr f s o).scalar = true := rfl
theorem sc_iptr {cs : List V} {o : Nat} : (V.iptr cs o).scalar = true := rfl
theorem sc_nilslice : V.nilslice.scalar = true := rfl
theorem sc_islice {cs : List V} {n : Nat} {b : Bool} : (V.islice cs n b).scalar = true := rfl
theorem sc_mslice {f s o n : Nat} {c : Option Nat} {e : Nat} : (V.mslice f s o n c e).scalar = true := rfl
theorem sc_gslice {f s n e : Nat} {cs : List V} : (V.gslice f s cs n e).scalar = true := rfl
theorem sc_nilmap : V.nilmap.scalar = true := rfl
theorem sc_map {f s : Nat} : (V.map f s).scalar = true := rfl
theorem sc_func {f : Fn} {a b : List V} : (V.func f a b).scalar = true := rfl
end
end Go.AM
end
section
/- The abstract machine, part 48: the walk's rules in bundles. -/
namespace Go.AM
theorem un_not' {b : Bool} : unV .not (.bool b) = some (.bool !b) := rfl
abbrev walk := And.intro @u_seq <| And.intro @u_region <| And.intro @u_block <| And.intro @w_op <| And.intro @us_val <| And.intro @us_call <| And.intro @us_panic <| And.intro @uc_ret <| And.intro @uc_pan <| And.intro @w_cond <| And.intro @ui_true <| And.intro @ui_false <| And.intro @w_opT <| And.intro @ust_val <| And.intro @ust_set <| And.intro @ust_call <| And.intro @uct_ret <| And.intro @w_guardT <| And.intro @ugt_tt <| And.intro @ugt_ff <| And.intro @ugt_tf <| And.intro @ugt_ft <| And.intro @u_draw <| And.intro @w_guard <| And.intro @ug_tt <| And.intro @ug_ff <| And.intro @ug_tf <| And.intro @ug_ft <| And.intro @ug_no <| And.intro @ugt_no <| And.intro @w_loop <| And.intro @ul_some <| And.intro @u_ops_nil <| And.intro @u_skip <| And.intro @u_ret <| And.intro @u_exit <| And.intro @u_nil <| And.intro @u_code_ret <| And.intro @u_code_exit <| And.intro @u_code_panic <| And.intro @u_block_normal <| And.intro @u_block_ret <| And.intro @u_block_panic <| And.intro @u_block_exit <| And.intro @b_add <| And.intro @b_sub <| And.intro @b_mul <| And.intro @b_eql <| And.intro @b_neq <| And.intro @b_lss <| And.intro @b_leq <| And.intro @b_gtr <| And.intro @b_geq <| And.intro @b_sadd <| And.intro @b_seql <| And.intro @b_sneq <| And.intro @oc_int <| And.intro @oc_bool <| And.intro @oc_str <| And.intro @oc_nilslice <| And.intro @oc_nilptr <| And.intro @oc_nilmap <| And.intro @oc_nilfunc <| And.intro @oc_nilface <| And.intro @bi_len <| And.intro @bi_max <| And.intro @bi_min <| And.intro @mx_nil <| And.intro @mx_one <| And.intro @frz_islice <| And.intro @frz_nilslice <| And.intro @frz_int <| And.intro @frz_bool <| @frz_str
abbrev walkM := And.intro @un_not' <| And.intro @fao_some <| And.intro @fa_ptr <| And.intro @fa_iptr <| And.intro @fv_agg <| And.intro @ld_ptr <| And.intro @ld_iptr <| And.intro @ldO_cells <| And.intro @st_ptr <| And.intro @cells_agg <| And.intro @sc_bool <| And.intro @sc_int <| And.intro @sc_str <| And.intro @sc_nilptr <| And.intro @sc_ptr <| And.intro @sc_iptr <| And.intro @sc_nilslice <| And.intro @sc_islice <| And.intro @sc_mslice <| And.intro @sc_gslice <| And.intro @sc_nilmap <| And.intro @sc_map <| @sc_func
abbrev walkB := And.intro @cells_int <| And.intro @cells_bool <| And.intro @cells_str <| And.intro @cells_nilptr <| And.intro @cells_ptr <| And.intro @cells_iptr <| And.intro @cells_nilslice <| And.intro @cells_islice <| And.intro @cells_gslice <| And.intro @cells_mslice <| And.intro @cells_nilmap <| And.intro @cells_map <| And.intro @cells_func <| And.intro @cells_nilfunc <| And.intro @cells_nilface <| @cells_face
abbrev walkL := And.intro @List.getD_cons_zero.{0} <| And.intro @List.getD_cons_succ.{0} <| And.intro @List.set_cons_zero.{0} <| And.intro @List.set_cons_succ.{0} <| And.intro @List.map_cons.{0, 0} <| And.intro @List.map_nil.{0, 0} <| And.intro @Option.map_some.{0, 0} <| And.intro @Option.map_none.{0, 0} <| And.intro @Option.bind_some.{0, 0} <| And.intro @Option.bind_none.{0, 0} <| And.intro @List.length_nil.{0} <| And.intro @List.length_cons.{0} <| And.intro @List.nil_append.{0} <| And.intro @List.cons_append.{0} <| And.intro @List.append_nil.{0} <| And.intro @List.replicate_succ.{0} <| And.intro @List.replicate_zero.{0} <| And.intro @List.getElem?_cons_zero.{0} <| And.intro @List.getElem?_cons_succ.{0} <| @List.getElem?_toArray.{0}
end Go.AM
end
section
/- The abstract machine, part 36: maps.clone. -/
namespace Go.AM
section
variable {P : Program} {E : Env} {B : Nat} {F : Nat → Nat → Prop} {H : Heap}

def primClone : Prim := fun fr dst g as => match as, dst with
  | [.face t (.map f s)], some d => (match g fr d, g f s with
    | none, some (.map es bs clk) => some (.face t (.map fr d), some (fr, d, .map es bs clk))
    | _, _ => none)
  | _, _ => none

def Env.newMapOf (E : Env) (f0 s0 : Nat) (ces : Array MapEntry) (clk d : Nat) : Env :=
  { w := E.push (.map ces clk) d, mu := upd E.mu f0 s0 (some E.w.heap.size), reg := E.reg, mod := E.mod, tab := E.tab }

theorem Sim.newMapOf (S : Sim B F H E) {f0 s0 : Nat} (hf : f0 < H.length) (hn : hget H f0 s0 = none) {es : List (V × V)} {ces : Array MapEntry} (clk d : Nat) (hr : RelM E es ces.toList) :
    Ext H.length B E (E.newMapOf f0 s0 ces clk d) ∧ Sim B F (hset H f0 s0 (.map es (ces.toList.map (·.born)) clk)) (E.newMapOf f0 s0 ces clk d) := by
  have hmn := S.mu_none hn
  have X : Ext H.length B E (E.newMapOf f0 s0 ces clk d) := by
    refine ext_push S.bsz _ d _ _ _ ?_ ?_ ?_
    · intro f s b h
      by_cases e : f = f0 ∧ s = s0
      · rw [e.1, e.2, hmn] at h; cases h
      · rw [upd_other _ _ e]; exact h
    · exact fun f s n b lo hi _ h => ⟨n, b, lo, hi, h, .inr ⟨rfl, rfl, rfl, rfl⟩⟩
    · exact fun b i hb hm h => hm h
  refine ⟨X, S.step f0 s0 _ hf X (fun f s e => upd_other _ _ e) (by simp [Env.newMapOf, upd_same]) (fun f s e => rfl) ?_ ?_ ?_ ?_ ?_ ?_⟩
  · intro n x h
    have := S.reg_none hn
    simp only [Env.newMapOf] at h
    rw [this] at h; cases h
  · intro f s o b e ho hb
    exact ⟨push_old E _ d b (S.blk_lt ho hb), fun i h => h⟩
  · exact fun b i h => S.fmod b i h
  · intro b i h
    simp only [Env.newMapOf, Env.push, Array.size_push] at h ⊢
    exact Nat.lt_succ_of_lt (S.modsz b i h)
  · exact ⟨E.w.heap.size, ces, upd_same _ _ _ _, S.bsz, push_new E _ d, RelM.mono X S.lt _ _ hr, rfl⟩
  · intro f s o b e ho hb h
    simp only [blk, Env.newMapOf, upd_same, Option.some.injEq] at h
    have := S.blk_lt ho hb
    omega

theorem sound_clone {f : FuncId} (hx : IsExtern P f Extern.MapsClone.clone) (S : Sim B F H E) {fr : Nat} (hlt : fr < H.length) {dst : Option Nat} {args : List V} {cargs : List Value} {v : V} {x : Option (Nat × Nat × O)}
    (hr : RelL E args cargs) (h : primClone fr dst (hget H) args = some (v, x)) : Invokes P f ⟨cargs⟩ E.w (Answer B F H E (.ret v) (wr H x)) := by
  unfold primClone at h
  split at h
  case h_2 => cases h
  rename_i t f1 s1 d
  split at h
  case h_2 => cases h
  rename_i es bs clk hn hm
  cases h
  obtain ⟨c, r, rfl, h1, h2⟩ := RelL.cons_iff.1 hr
  rw [RelL.nil_iff] at h2; subst h2
  simp only [Rel] at h1
  obtain ⟨c, rfl, b, hb, rfl⟩ := h1
  obtain ⟨b', ces, g1, g2, g3, g4, g5⟩ := S.obj f1 s1 _ hm
  rw [hb] at g1; cases g1
  subst g5
  obtain ⟨X, S'⟩ := S.newMapOf hlt hn clk E.w.drawn g4
  refine .inl ⟨.iface t (.map (some E.w.heap.size)), (E.newMapOf fr d ces clk E.w.drawn).w, hx.run ?_, E.newMapOf fr d ces clk E.w.drawn, rfl, ⟨_, rfl, ?_⟩, S', X, by rw [wr_length]; exact Nat.le_refl _⟩
  · have hdef : Extern.MapsClone.clone #[.iface t (.map (some b))] = (do
      let .map entries clock ← getObj b | stuck "maps.clone: a map expected"
      pure (.iface t (.map (some (← newObj (.map entries clock)))))) := rfl
    show Sem.run P (Extern.MapsClone.clone #[.iface t (.map (some b))]) E.w = _
    rw [hdef]
    simp [run_getMap g3, Env.newMapOf, Env.push]
  · simp only [Rel]
    exact ⟨_, rfl, E.w.heap.size, upd_same _ _ _ _, rfl⟩
end
end Go.AM
end
section
/- The abstract machine, part 51: ranges over functions, and their rounds, in the walk. -/
namespace Go.AM

section
variable {P : Program} {pol : Pol} {L : MBody → Body} {fn fr : Nat} {t : List V} {H : Heap} {k : List It} {Q : Ex → List V → Heap → Prop}

theorem u_rfunc {C : Call} {g : Operand} {ps : Array Tmp} {a b : Code} {f : FuncId} {first cap : List V} (hg : rho t g = .func (.func f) first cap) (hf : hget H fr (loopSlot (loopId a b)) = none) :
    U P pol C L fn fr (.code (.rangeFunc g ps a b) :: k) .normal t H = (match C f (first ++ [.yield fr (loopSlot (loopId a b))] ++ cap) (hset H fr (loopSlot (loopId a b)) (.loop 0 none fn (loopId a b) t)) with
      | some (.ret _, H2) => UL P pol C L fn fr (loopEnd fr (loopSlot (loopId a b)) t H2) k
      | _ => none) := by
  simp only [U, exec, hg, hf, UL]
  cases C f (first ++ [.yield fr (loopSlot (loopId a b))] ++ cap) (hset H fr (loopSlot (loopId a b)) (.loop 0 none fn (loopId a b) t)) with
  | none => rfl
  | some q => obtain ⟨q, H2⟩ := q; cases q <;> rfl
theorem W.rfunc {g : Operand} {ps : Array Tmp} {a b : Code} {f : FuncId} {first cap : List V} {rid : Nat} (hr : loopId a b = rid) (hg : rho t g = .func (.func f) first cap) (hf : hget H fr (loopSlot rid) = none)
    (h : CW P pol f (first ++ [.yield fr (loopSlot rid)] ++ cap) (hset H fr (loopSlot rid) (.loop 0 none fn rid t)) fun r H2 => ∃ v, r = .ret v ∧ W (UL P pol (callW P pol) L fn fr (loopEnd fr (loopSlot rid) t H2) k) Q) :
    W (U P pol (callW P pol) L fn fr (.code (.rangeFunc g ps a b) :: k) .normal t H) Q := by
  subst hr
  obtain ⟨r, H2, h1, v, rfl, h2⟩ := h
  rw [u_rfunc hg hf, h1]
  exact h2
theorem loopEnd_of {s st f r : Nat} {t0 : List V} (hg : hget H fr s = some (.loop st none f r t0)) (hst : st ≠ 1) (h1 : refsL (slotP fr s) t = false) (h2 : clearH (slotP fr s) (H.modify fr (fdel fun x => [s].contains x)) = true) :
    loopEnd fr s t H = some (.normal, t, H.modify fr (fdel fun x => [s].contains x)) := by
  simp only [loopEnd, hg, if_neg hst, h1, h2, Bool.false_eq_true, if_false, if_true]
theorem loopAt_of {F : Func} {c : Code} {fn rid : Nat} {x : Array Tmp × Code × Code} (hF : P.funcs[fn]? = some F) (hc : F.body = some c) (h : findLoop rid c = some x) : loopAt P fn rid = some x := by
  simp only [loopAt, hF, hc, h]
theorem gs_eq {t : List V} {i : Nat} {x d : V} (h : i < t.length) : (t.set i x).getD i d = x := by simp [List.getD, h]
theorem gs_ne {t : List V} {i j : Nat} {x d : V} (h : (i == j) = false) : (t.set i x).getD j d = t.getD j d := by
  have : i ≠ j := by simpa using h
  simp [List.getD, this]

theorem round_of {fo so : Nat} {args : List V} {p : Option (Option Nat)} {fL rid : Nat} {t0 : List V} {ps : Array Tmp} {a b : Code} {R : Rt → Heap → Prop}
    (hg : hget H fo so = some (.loop 0 p fL rid t0)) (hl : loopAt P fL rid = some (ps, a, b)) (hn : args.length = ps.size)
    (h : W (U P pol (callW P pol) loopW fL H.length [.code a] .normal (putArgs t0 (ps.toList.zip args)) (H ++ [[]])) fun e t1 H1 => e = .normal ∧ ∃ p' fL' rid' t0', hget H1 fo so = some (.loop 0 p' fL' rid' t0') ∧
      W (U P pol (callW P pol) loopW fL H.length [.code b] .normal t1 (hset H1 fo so (.loop 1 p' fL' rid' t0'))) fun e _ H2 => ∃ r H3, roundEnd fo so H.length e H2 = some (r, H3) ∧ R r H3) :
    ∃ r H3, callW P pol none (.yield fo so :: args) H = some (r, H3) ∧ R r H3 := by
  obtain ⟨e, t1, H1, h1, rfl, p', fL', rid', t0', h2, h3⟩ := h.out
  obtain ⟨e2, t2, H2, h4, r, H3, h5, h6⟩ := h3.out
  refine ⟨r, H3, callW_round ?_, h6⟩
  have one' : ∀ (fr : Nat) (c : Code) t H, U P pol (callW P pol) loopW fL fr [.code c] .normal t H = exec P pol (callW P pol) loopW fL fr c t H := by
    intro fr c t H
    simp only [U]
    cases exec P pol (callW P pol) loopW fL fr c t H <;> rfl
  rw [one'] at h1 h4
  unfold callR
  simp only [hg, hl, if_pos hn, h1, h2, h4]
  exact h5
end
end Go.AM
end
