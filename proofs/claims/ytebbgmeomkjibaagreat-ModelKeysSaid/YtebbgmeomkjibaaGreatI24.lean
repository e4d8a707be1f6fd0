/- This file holds in one the texts ZO1, ZOK, Am40, Am41, ZOF; each says at its head what it proves. -/
import Derived.Test.YtebbgmeomkjibaaGreatI1
import Derived.Test.YtebbgmeomkjibaaGreatI2
import Derived.Test.YtebbgmeomkjibaaGreatI21
import Derived.Test.YtebbgmeomkjibaaGreatI23
import Derived.Test.YtebbgmeomkjibaaGreatChecked
set_option linter.unusedSimpArgs false
set_option linter.unusedVariables false
section
/- model: the policy, and what is taken of the program. -/
namespace Go.Proofs.YtebbgmeomkjibaaGreat
open Go.AM

/-- Calls on the caller's heap. -/
def inl : List Nat := [17, 34, 35, 36, 37, 38, 39, 40, 41, 42, 43, 44, 65, 45, 46, 47, 48, 49, 50, 51, 52, 53, 54, 66, 70, 71, 72, 69, 77, 73, 74, 75, 79, 81, 85, 83, 68, 22, 23, 78]

def pol : Pol where
  pure := fun f g => !inl.contains g && !(f == 79 && g == 80)
  mt := fun f s => [(7, 6), (78, 5), (78, 7)].contains (f, s)
  keep := fun f r =>
    if f = 3 then if r = 8 then some ([0, 4, 5, 6, 7, 8], []) else none else
    if f = 5 then if r = 6 then some ([0, 1, 2, 8, 9], [10]) else none else
    if f = 9 then if r = 6 then some ([4, 5, 14, 15, 16], [7]) else none else
    if f = 8 then if r = 3 then some ([0, 1, 5, 6], []) else none else
    if f = 11 then if r = 4 then some ([0, 1, 5], []) else none else
    if f = 15 then if r = 4 then some ([2, 3, 5], []) else if r = 9 then some ([2, 3, 6], []) else none else
    if f = 37 then if r = 11 then some ([0, 3, 4, 6, 7], []) else none else
    if f = 39 then if r = 6 then some ([0, 3, 4, 5, 6, 7, 26], []) else if r = 15 then some ([0, 3, 4, 5, 79], []) else none else
    if f = 66 then if r = 4 then some ([0, 3, 14], []) else none else
    if f = 70 then if r = 3 then some ([0, 1, 5, 6, 7, 8], []) else none else
    if f = 77 then if r = 2 then some ([0, 1, 8], []) else none else
    if f = 84 then if r = 2 then some ([0, 1, 7, 8], []) else none else
    none
  lift := fun _ g => g == 22 || g == 23
  look := fun _ g => g == 78
  settle := fun f => if f = 79 then [32] else []
  prim := fun f => if f = 92 then some primClone else if f = 82 then some (primSortStr 91) else if f = 67 then some (primSortInt 88) else none
end Go.Proofs.YtebbgmeomkjibaaGreat
end
section
/- model: what the library promises of slices.Sorted(maps.Keys(m)). -/
namespace Go.Proofs.YtebbgmeomkjibaaGreat
open Go.AM Go.RowKit Go.Maps Go.Sort Go.Shelf

theorem sorts_str (m : Nat) : AnyZ.SortsIn Tryz.prog Tryz.sorted82_ren Fence.wide m :=
  ⟨fun blk off cap ss W hH hblk hsz => callsIn_wide.2 (AnyM.slices_Sort_string Tryz.sort90 blk off cap ss W hH hblk hsz),
   fun p cap W => callsIn_wide.2 (AnyM.slices_Sort_string_none Tryz.sort90 p cap W)⟩

set_option maxHeartbeats 1000000 in
theorem sortsKeys_str : SortsKeys Tryz.prog 82 91 9 := by
  intro Bm b w es clk hBm hcell hb hst hkeys hsz
  have hown := ownsMap_str (P := Tryz.prog) (k := 9) Tryz.underlying9 hb hst hkeys hsz
  have hseq : SeqGives Fence.wide 2 Tryz.prog 91 #[.pointer (some ⟨Bm, 0, none⟩)] encStr (fun ss => ss.Perm (strKeys (datumOf Tryz.prog 9 es))) (Maps.size (datumOf Tryz.prog 9 es)) w :=
    AnyZ.keys_gives (ρ := Tryz.keys83_ren) { Tryz.keys83 with } Fence.wide _ trivial rfl (by omega) Bm b 1048576 _ w hBm hcell hown
  have hs : Maps.size (datumOf Tryz.prog 9 es) ≤ 1048576 := by rw [size_datum]; exact hsz
  have hc := AnyZ.sorted_in Tryz.sorted82 Fence.wide 5 trivial trivial trivial trivial rfl (by omega) (sorts_str _) (enters_of Tryz.func90 (by kernel_rfl) rfl) 91 #[.pointer (some ⟨Bm, 0, none⟩)] trivial (enters_of Tryz.func91 (by kernel_rfl) rfl) _ _ (Nat.le_trans hs (by decide)) (by omega) w hseq
  change CallsIn _ _ Tryz.prog 82 _ _ _ at hc
  refine .inr ⟨82, enters_of Tryz.func82 (by kernel_rfl) rfl _ _, (callsIn_wide.1 hc).mono ?_⟩
  rintro e w' ⟨v, ss, rfl, hp, hrow, hnil, hbelow⟩
  exact ⟨v, ss, rfl, (hp.map encStr).trans (strKeys_datum Tryz.underlying9 hkeys), hrow, hnil, hbelow⟩

theorem sorts_int (m : Nat) : AnyZI.SortsIn Tryz.prog Tryz.sorted67_ren Fence.wide m :=
  ⟨fun blk off cap ss W hH hblk hsz => callsIn_wide.2 (AnyM.slices_Sort_int Tryz.sort87 blk off cap ss W hH hblk hsz),
   fun p cap W => callsIn_wide.2 (AnyM.slices_Sort_int_none Tryz.sort87 p cap W)⟩

set_option maxHeartbeats 1000000 in
theorem sortsKeys_int : SortsKeysI Tryz.prog 67 88 3 := by
  intro Bm b w es clk hBm hcell hb hst hkeys hsz
  have hown := ownsMap_int (P := Tryz.prog) (k := 3) Tryz.underlying3 hb hst hkeys hsz
  have hseq : SeqGives Fence.wide 2 Tryz.prog 88 #[.pointer (some ⟨Bm, 0, none⟩)] encZ (fun ss => ss.Perm (intKeys (datumOf Tryz.prog 3 es))) (Maps.size (datumOf Tryz.prog 3 es)) w :=
    AnyZI.keys_gives (ρ := Tryz.keys68_ren) { Tryz.keys68 with } Fence.wide _ trivial rfl (by omega) Bm b 1048576 _ w hBm hcell hown
  have hs : Maps.size (datumOf Tryz.prog 3 es) ≤ 1048576 := by rw [size_datum]; exact hsz
  have hc := AnyZI.sorted_in Tryz.sorted67 Fence.wide 5 trivial trivial trivial trivial rfl (by omega) (sorts_int _) (enters_of Tryz.func87 (by kernel_rfl) rfl) 88 #[.pointer (some ⟨Bm, 0, none⟩)] trivial (enters_of Tryz.func88 (by kernel_rfl) rfl) _ _ (Nat.le_trans hs (by decide)) (by omega) w hseq
  change CallsIn _ _ Tryz.prog 67 _ _ _ at hc
  refine .inr ⟨67, enters_of Tryz.func67 (by kernel_rfl) rfl _ _, (callsIn_wide.1 hc).mono ?_⟩
  rintro e w' ⟨v, ss, rfl, hp, hrow, hnil, hbelow⟩
  exact ⟨v, ss, rfl, (hp.map encZ).trans (intKeys_datum Tryz.underlying3 hkeys), hrow, hnil, hbelow⟩

theorem xClone : IsExtern Tryz.prog 92 Extern.MapsClone.clone := ⟨Tryz.f92, Tryz.func92, by kernel_rfl, by kernel_rfl, by kernel_rfl, by kernel_rfl⟩
theorem draws_all : (Tryz.prog.funcs.all fun F => match F.body with | some c => drawsC c | none => true) = true := by kernel_rfl
theorem num_all : (Tryz.prog.funcs.all fun F => F.body.isNone || !(F.name == "runtime.NumGoroutine")) = true := by kernel_rfl

theorem ok : Okay Tryz.prog pol where
  mixed := Tryz.checked.mixed
  draws := fun f F c hF hc => by
    have := Array.all_eq_true_iff_forall_mem.1 draws_all F (Array.mem_of_getElem? hF)
    rwa [hc] at this
  num := fun f F hF hb => by
    have := Array.all_eq_true_iff_forall_mem.1 num_all F (Array.mem_of_getElem? hF)
    cases hn : F.body with
    | none => rw [hn] at hb; cases hb
    | some c => rw [hn] at this; simpa using this
  prim := fun f g hg B F H E fr dst args cargs v x S hlt hr h => by
    simp only [pol] at hg
    split at hg
    · rename_i hf; subst hf; cases hg
      exact sound_clone xClone S hlt hr h
    · split at hg
      · rename_i hf; subst hf; cases hg
        exact sound_sortStr sortsKeys_str S hr h
      · split at hg
        · rename_i hf; subst hf; cases hg
          exact sound_sortInt sortsKeys_int S hr h
        · cases hg

end Go.Proofs.YtebbgmeomkjibaaGreat
end
section
/- The abstract machine, part 40: structs: fields' places, fields, structs built, in one rewrite each. -/
namespace Go.AM

/-- Where a field lies. -/
def foOf (P : Program) (t : TypeId) (i : Nat) : Option (Nat × TypeId) :=
  match P.underlying t with
  | some (.struct fs) => (match fs[i]? with
    | some f => (match sz P f.type with
      | some n => if n = 0 then none else some (f.offset, f.type)
      | none => none)
    | none => none)
  | _ => none
def plOf (P : Program) (t : TypeId) : Option (List (Nat × Nat)) :=
  match P.underlying t with
  | some (.struct fs) => places P fs.toList
  | _ => none
def ffOf (P : Program) (t : TypeId) (i : Nat) : Option (Nat × TypeId) :=
  match P.underlying t with
  | some (.struct fs) => (match fs[i]? with
    | some f => some (f.offset, f.type)
    | none => none)
  | _ => none
/-- A field's place. -/
def faV (off : Nat) : V → Option V
  | .ptr a b o => some (.ptr a b (o + off))
  | .iptr cs o => some (.iptr cs (o + off))
  | _ => none
def faO : Option (Nat × TypeId) → V → Option V
  | some x, v => faV x.1 v
  | none, _ => none
/-- A field. -/
def fvO (P : Program) : Option (Nat × TypeId) → V → Option V
  | some x, .agg cs => partV P x.2 cs x.1
  | _, _ => none

section
variable {P : Program} {mt : Nat → Bool} {fr : Nat} {g : Get} {r : Operand → V} {d : Option Nat} {ty u : TypeId} {ps : String} {af : Array Edge} {gd : Option (Nat × Bool)} {x : Operand}

theorem ev_fa {t : TypeId} {i : Nat} : evOp P mt fr g r { dst := d, op := .fieldAddr t x i, type := ty, pos := ps, after := af, guard := gd } = (faO (foOf P t i) (r x)).map fun v => .val v none := by
  unfold foOf
  simp only [evOp]
  cases P.underlying t with
  | none => rfl
  | some dd =>
    cases dd with
    | struct fs =>
      simp only
      cases fs[i]? with
      | none => rfl
      | some f =>
        simp only
        cases sz P f.type with
        | none => rfl
        | some n =>
          simp only
          by_cases h0 : n = 0
          · simp only [h0, if_true]; rfl
          · simp only [h0, if_false]
            cases r x <;> rfl
    | _ => rfl

theorem ev_field {t : TypeId} {i : Nat} : evOp P mt fr g r { dst := d, op := .field t x i, type := ty, pos := ps, after := af, guard := gd } = (fvO P (ffOf P t i) (r x)).map fun v => .val v none := by
  unfold ffOf
  simp only [evOp]
  cases P.underlying t with
  | none => rfl
  | some dd =>
    cases dd with
    | struct fs =>
      cases r x <;> simp only <;> cases fs[i]? <;> rfl
    | _ => rfl

theorem bv_of {t : TypeId} {z : List V} {ps : List (Nat × Nat)} (hz : zeroCells P t = some z) (hp : plOf P t = some ps) (parts : List (Nat × V)) : buildV P t parts = (fillV (fun i => ps[i]?) z parts).map .agg := by
  unfold plOf at hp
  unfold buildV
  rw [hz]
  split at hp
  case h_2 => cases hp
  rename_i fs hu
  rw [hu]
  simp only [hp]

theorem fa_ptr {off a b o : Nat} : faV off (.ptr a b o) = some (.ptr a b (o + off)) := rfl
theorem fa_iptr {off o : Nat} {cs : List V} : faV off (.iptr cs o) = some (.iptr cs (o + off)) := rfl
theorem fao_some {off : Nat} {t : TypeId} {v : V} : faO (some (off, t)) v = faV off v := rfl
theorem fv_agg {t : TypeId} {off : Nat} {cs : List V} : fvO P (some (off, t)) (.agg cs) = partV P t cs off := rfl
end
end Go.AM
end
section
/- The abstract machine, part 41: loads and stores, with the object asked last. -/
namespace Go.AM

def ldO (P : Program) (t : TypeId) (o : Nat) : Option O → Option V
  | some (.cells xs) => readAt P t xs o
  | _ => none
def ldV (P : Program) (t : TypeId) (g : Get) : V → Option V
  | .ptr f s o => ldO P t o (g f s)
  | .iptr cs o => readAt P t cs o
  | _ => none
def stO (n f s o : Nat) (cs : List V) : Option O → Option Step
  | some (.cells xs) => if cs.length = n ∧ o + n ≤ xs.length then some (.val .bad (some (f, s, .cells (splice xs o cs)))) else none
  | _ => none
def stV (g : Get) : Option Nat → V → Option (List V) → Option Step
  | some n, .ptr f s o, some cs => stO n f s o cs (g f s)
  | _, _, _ => none

section
variable {P : Program} {mt : Nat → Bool} {fr : Nat} {g : Get} {r : Operand → V} {d : Option Nat} {ty u : TypeId} {ps : String} {af : Array Edge} {gd : Option (Nat × Bool)} {x a : Operand}

theorem ev_load {t : TypeId} : evOp P mt fr g r { dst := d, op := .load t a, type := ty, pos := ps, after := af, guard := gd } = (ldV P t g (r a)).map fun v => .val v none := by
  simp only [evOp]
  cases r a with
  | ptr f s o =>
    simp only [ldV]
    cases g f s with
    | none => rfl
    | some q => cases q <;> rfl
  | _ => rfl

theorem ev_store {t : TypeId} : evOp P mt fr g r { dst := d, op := .store t a x, type := ty, pos := ps, after := af, guard := gd } = stV g (sz P t) (r a) (r x).cells := by
  simp only [evOp]
  cases sz P t with
  | none => cases r a <;> first | rfl | (cases (r x).cells <;> rfl)
  | some n =>
    cases r a with
    | ptr f s o =>
      cases (r x).cells with
      | none => rfl
      | some cs =>
        simp only [stV]
        cases g f s with
        | none => rfl
        | some q => cases q <;> rfl
    | _ => rfl

theorem ld_ptr {t : TypeId} {f s o : Nat} : ldV P t g (.ptr f s o) = ldO P t o (g f s) := rfl
theorem ld_iptr {t : TypeId} {o : Nat} {cs : List V} : ldV P t g (.iptr cs o) = readAt P t cs o := rfl
theorem ldO_cells {t : TypeId} {o : Nat} {xs : List V} : ldO P t o (some (.cells xs)) = readAt P t xs o := rfl
theorem st_ptr {n f s o : Nat} {cs : List V} : stV g (some n) (.ptr f s o) (some cs) = stO n f s o cs (g f s) := rfl
theorem stO_cells {n f s o : Nat} {cs xs : List V} : stO n f s o cs (some (.cells xs)) = if cs.length = n ∧ o + n ≤ xs.length then some (.val .bad (some (f, s, .cells (splice xs o cs)))) else none := rfl
theorem ra_of {t : TypeId} {dd : TypeDesc} {n : Nat} (h : P.underlying t = some dd) (hs : sz P t = some n) (ha : aggD dd = true) (cs : List V) (o : Nat) :
    readAt P t cs o = if o + n ≤ cs.length then some (.agg ((cs.drop o).take n)) else none := by
  simp only [readAt, h, hs, ha, if_true]
theorem cells_agg {cs : List V} : (V.agg cs).cells = if cs.all V.scalar then some cs else none := rfl
theorem sc_bool {b : Bool} : (V.bool b).scalar = true := rfl
theorem sc_int {k : IntKind} {n : Int} : (V.int k n).scalar = true := rfl
theorem sc_str {s : List UInt8} : (V.str s).scalar = true := rfl
theorem sc_nilptr : V.nilptr.scalar = true := rfl
theorem sc_ptr {f s o : Nat} : (V.ptr f s o).scalar = true := rfl
theorem sc_iptr {cs : List V} {o : Nat} : (V.iptr cs o).scalar = true := rfl
theorem sc_nilslice : V.nilslice.scalar = true := rfl
theorem sc_islice {cs : List V} {n : Nat} {b : Bool} : (V.islice cs n b).scalar = true := rfl
theorem sc_mslice {f s o n : Nat} {c : Option Nat} {e : Nat} : (V.mslice f s o n c e).scalar = true := rfl
theorem sc_gslice {f s n e : Nat} {cs : List V} : (V.gslice f s cs n e).scalar = true := rfl
theorem sc_nilmap : V.nilmap.scalar = true := rfl
theorem sc_map {f s : Nat} : (V.map f s).scalar = true := rfl
theorem sc_func {f : Fn} {a b : List V} : (V.func f a b).scalar = true := rfl
end
end Go.AM
end
section
/- model: facts on the program's types, by a program of ours (wip/dbg/G.lean). -/
namespace Go.Proofs.YtebbgmeomkjibaaGreat
open Go.AM
theorem sz1 : sz Tryz.prog 1 = some 1 := by kernel_rfl
theorem zc1 : zeroCells Tryz.prog 1 = some [.nilfunc] := by kernel_rfl
theorem rd1 (cs : List V) (o : Nat) : readAt Tryz.prog 1 cs o = cs[o]? := rd_of Tryz.underlying1 sz1 rfl cs o
theorem sz3 : sz Tryz.prog 3 = some 1 := by kernel_rfl
theorem zc3 : zeroCells Tryz.prog 3 = some [.int .i64 0] := by kernel_rfl
theorem rd3 (cs : List V) (o : Nat) : readAt Tryz.prog 3 cs o = cs[o]? := rd_of Tryz.underlying3 sz3 rfl cs o
theorem sz4 : sz Tryz.prog 4 = some 1 := by kernel_rfl
theorem zc4 : zeroCells Tryz.prog 4 = some [.bool false] := by kernel_rfl
theorem rd4 (cs : List V) (o : Nat) : readAt Tryz.prog 4 cs o = cs[o]? := rd_of Tryz.underlying4 sz4 rfl cs o
theorem sz5 : sz Tryz.prog 5 = some 1 := by kernel_rfl
theorem zc5 : zeroCells Tryz.prog 5 = some [.int .u8 0] := by kernel_rfl
theorem rd5 (cs : List V) (o : Nat) : readAt Tryz.prog 5 cs o = cs[o]? := rd_of Tryz.underlying5 sz5 rfl cs o
theorem sz9 : sz Tryz.prog 9 = some 1 := by kernel_rfl
theorem zc9 : zeroCells Tryz.prog 9 = some [.str []] := by kernel_rfl
theorem rd9 (cs : List V) (o : Nat) : readAt Tryz.prog 9 cs o = cs[o]? := rd_of Tryz.underlying9 sz9 rfl cs o
theorem ln9 (g : Get) (s : List UInt8) : lenV Tryz.prog g 9 (.str s) = some (.int .i64 s.length) := ln_str Tryz.underlying9 s
theorem sz20 : sz Tryz.prog 20 = some 1 := by kernel_rfl
theorem zc20 : zeroCells Tryz.prog 20 = some [.nilface] := by kernel_rfl
theorem rd20 (cs : List V) (o : Nat) : readAt Tryz.prog 20 cs o = cs[o]? := rd_of Tryz.underlying20 sz20 rfl cs o
theorem sz22 : sz Tryz.prog 22 = some 1 := by kernel_rfl
theorem zc22 : zeroCells Tryz.prog 22 = some [.nilslice] := by kernel_rfl
theorem rd22 (cs : List V) (o : Nat) : readAt Tryz.prog 22 cs o = cs[o]? := rd_of Tryz.underlying22 sz22 rfl cs o
theorem ln22 (g : Get) (cs : List V) (len : Nat) (full : Bool) : lenV Tryz.prog g 22 (.islice cs len full) = some (.int .i64 len) := ln_islice Tryz.underlying22 cs len full
theorem lnn22 (g : Get) : lenV Tryz.prog g 22 .nilslice = some (.int .i64 0) := ln_nil Tryz.underlying22
theorem sz25 : sz Tryz.prog 25 = some 1 := by kernel_rfl
theorem zc25 : zeroCells Tryz.prog 25 = some [.nilslice] := by kernel_rfl
theorem rd25 (cs : List V) (o : Nat) : readAt Tryz.prog 25 cs o = cs[o]? := rd_of Tryz.underlying25 sz25 rfl cs o
theorem ln25 (g : Get) (cs : List V) (len : Nat) (full : Bool) : lenV Tryz.prog g 25 (.islice cs len full) = some (.int .i64 len) := ln_islice Tryz.underlying25 cs len full
theorem lnn25 (g : Get) : lenV Tryz.prog g 25 .nilslice = some (.int .i64 0) := ln_nil Tryz.underlying25
theorem sz26 : sz Tryz.prog 26 = some 1 := by kernel_rfl
theorem zc26 : zeroCells Tryz.prog 26 = some [.int .i64 0] := by kernel_rfl
theorem rd26 (cs : List V) (o : Nat) : readAt Tryz.prog 26 cs o = cs[o]? := rd_of Tryz.underlying26 sz26 rfl cs o
theorem sz30 : sz Tryz.prog 30 = some 1 := by kernel_rfl
theorem zc30 : zeroCells Tryz.prog 30 = some [.nilslice] := by kernel_rfl
theorem rd30 (cs : List V) (o : Nat) : readAt Tryz.prog 30 cs o = cs[o]? := rd_of Tryz.underlying30 sz30 rfl cs o
theorem ln30 (g : Get) (cs : List V) (len : Nat) (full : Bool) : lenV Tryz.prog g 30 (.islice cs len full) = some (.int .i64 len) := ln_islice Tryz.underlying30 cs len full
theorem lnn30 (g : Get) : lenV Tryz.prog g 30 .nilslice = some (.int .i64 0) := ln_nil Tryz.underlying30
theorem sz32 : sz Tryz.prog 32 = some 8 := by kernel_rfl
theorem zc32 : zeroCells Tryz.prog 32 = some [.int .u8 0, .int .i64 0, .int .i64 0, .int .i64 0, .str [], .str [], .str [], .nilslice] := by kernel_rfl
theorem rd32 (cs : List V) (o : Nat) : readAt Tryz.prog 32 cs o = if o + 8 ≤ cs.length then some (.agg ((cs.drop o).take 8)) else none := ra_of Tryz.underlying32 sz32 rfl cs o
theorem fo32_0 : foOf Tryz.prog 32 0 = some (0, 5) := by kernel_rfl
theorem ff32_0 : ffOf Tryz.prog 32 0 = some (0, 5) := by kernel_rfl
theorem fo32_1 : foOf Tryz.prog 32 1 = some (1, 3) := by kernel_rfl
theorem ff32_1 : ffOf Tryz.prog 32 1 = some (1, 3) := by kernel_rfl
theorem fo32_2 : foOf Tryz.prog 32 2 = some (2, 3) := by kernel_rfl
theorem ff32_2 : ffOf Tryz.prog 32 2 = some (2, 3) := by kernel_rfl
theorem fo32_3 : foOf Tryz.prog 32 3 = some (3, 3) := by kernel_rfl
theorem ff32_3 : ffOf Tryz.prog 32 3 = some (3, 3) := by kernel_rfl
theorem fo32_4 : foOf Tryz.prog 32 4 = some (4, 9) := by kernel_rfl
theorem ff32_4 : ffOf Tryz.prog 32 4 = some (4, 9) := by kernel_rfl
theorem fo32_5 : foOf Tryz.prog 32 5 = some (5, 9) := by kernel_rfl
theorem ff32_5 : ffOf Tryz.prog 32 5 = some (5, 9) := by kernel_rfl
theorem fo32_6 : foOf Tryz.prog 32 6 = some (6, 9) := by kernel_rfl
theorem ff32_6 : ffOf Tryz.prog 32 6 = some (6, 9) := by kernel_rfl
theorem fo32_7 : foOf Tryz.prog 32 7 = some (7, 30) := by kernel_rfl
theorem ff32_7 : ffOf Tryz.prog 32 7 = some (7, 30) := by kernel_rfl
theorem bv32 (parts : List (Nat × V)) : buildV Tryz.prog 32 parts = (fillV (fun i => ([(0, 1), (1, 1), (2, 1), (3, 1), (4, 1), (5, 1), (6, 1), (7, 1)] : List (Nat × Nat))[i]?) [.int .u8 0, .int .i64 0, .int .i64 0, .int .i64 0, .str [], .str [], .str [], .nilslice] parts).map .agg := bv_of zc32 (by kernel_rfl) parts
theorem sz33 : sz Tryz.prog 33 = some 1 := by kernel_rfl
theorem zc33 : zeroCells Tryz.prog 33 = some [.nilslice] := by kernel_rfl
theorem rd33 (cs : List V) (o : Nat) : readAt Tryz.prog 33 cs o = cs[o]? := rd_of Tryz.underlying33 sz33 rfl cs o
theorem ln33 (g : Get) (cs : List V) (len : Nat) (full : Bool) : lenV Tryz.prog g 33 (.islice cs len full) = some (.int .i64 len) := ln_islice Tryz.underlying33 cs len full
theorem lnn33 (g : Get) : lenV Tryz.prog g 33 .nilslice = some (.int .i64 0) := ln_nil Tryz.underlying33
theorem sz35 : sz Tryz.prog 35 = some 5 := by kernel_rfl
theorem zc35 : zeroCells Tryz.prog 35 = some [.int .i64 0, .int .u8 0, .int .i64 0, .int .i64 0, .str []] := by kernel_rfl
theorem rd35 (cs : List V) (o : Nat) : readAt Tryz.prog 35 cs o = if o + 5 ≤ cs.length then some (.agg ((cs.drop o).take 5)) else none := ra_of Tryz.underlying35 sz35 rfl cs o
theorem fo35_0 : foOf Tryz.prog 35 0 = some (0, 3) := by kernel_rfl
theorem ff35_0 : ffOf Tryz.prog 35 0 = some (0, 3) := by kernel_rfl
theorem fo35_1 : foOf Tryz.prog 35 1 = some (1, 5) := by kernel_rfl
theorem ff35_1 : ffOf Tryz.prog 35 1 = some (1, 5) := by kernel_rfl
theorem fo35_2 : foOf Tryz.prog 35 2 = some (2, 3) := by kernel_rfl
theorem ff35_2 : ffOf Tryz.prog 35 2 = some (2, 3) := by kernel_rfl
theorem fo35_3 : foOf Tryz.prog 35 3 = some (3, 3) := by kernel_rfl
theorem ff35_3 : ffOf Tryz.prog 35 3 = some (3, 3) := by kernel_rfl
theorem fo35_4 : foOf Tryz.prog 35 4 = some (4, 9) := by kernel_rfl
theorem ff35_4 : ffOf Tryz.prog 35 4 = some (4, 9) := by kernel_rfl
theorem bv35 (parts : List (Nat × V)) : buildV Tryz.prog 35 parts = (fillV (fun i => ([(0, 1), (1, 1), (2, 1), (3, 1), (4, 1)] : List (Nat × Nat))[i]?) [.int .i64 0, .int .u8 0, .int .i64 0, .int .i64 0, .str []] parts).map .agg := bv_of zc35 (by kernel_rfl) parts
theorem sz36 : sz Tryz.prog 36 = some 1 := by kernel_rfl
theorem zc36 : zeroCells Tryz.prog 36 = some [.nilslice] := by kernel_rfl
theorem rd36 (cs : List V) (o : Nat) : readAt Tryz.prog 36 cs o = cs[o]? := rd_of Tryz.underlying36 sz36 rfl cs o
theorem ln36 (g : Get) (cs : List V) (len : Nat) (full : Bool) : lenV Tryz.prog g 36 (.islice cs len full) = some (.int .i64 len) := ln_islice Tryz.underlying36 cs len full
theorem lnn36 (g : Get) : lenV Tryz.prog g 36 .nilslice = some (.int .i64 0) := ln_nil Tryz.underlying36
theorem sz38 : sz Tryz.prog 38 = some 10 := by kernel_rfl
theorem zc38 : zeroCells Tryz.prog 38 = some [.int .i64 0, .int .i64 0, .nilslice, .nilslice, .int .i64 0, .int .u8 0, .int .i64 0, .int .i64 0, .str [], .nilslice] := by kernel_rfl
theorem rd38 (cs : List V) (o : Nat) : readAt Tryz.prog 38 cs o = if o + 10 ≤ cs.length then some (.agg ((cs.drop o).take 10)) else none := ra_of Tryz.underlying38 sz38 rfl cs o
theorem fo38_0 : foOf Tryz.prog 38 0 = some (0, 26) := by kernel_rfl
theorem ff38_0 : ffOf Tryz.prog 38 0 = some (0, 26) := by kernel_rfl
theorem fo38_1 : foOf Tryz.prog 38 1 = some (1, 3) := by kernel_rfl
theorem ff38_1 : ffOf Tryz.prog 38 1 = some (1, 3) := by kernel_rfl
theorem fo38_2 : foOf Tryz.prog 38 2 = some (2, 30) := by kernel_rfl
theorem ff38_2 : ffOf Tryz.prog 38 2 = some (2, 30) := by kernel_rfl
theorem fo38_3 : foOf Tryz.prog 38 3 = some (3, 33) := by kernel_rfl
theorem ff38_3 : ffOf Tryz.prog 38 3 = some (3, 33) := by kernel_rfl
theorem fo38_4 : foOf Tryz.prog 38 4 = some (4, 35) := by kernel_rfl
theorem ff38_4 : ffOf Tryz.prog 38 4 = some (4, 35) := by kernel_rfl
theorem fo38_5 : foOf Tryz.prog 38 5 = some (9, 36) := by kernel_rfl
theorem ff38_5 : ffOf Tryz.prog 38 5 = some (9, 36) := by kernel_rfl
theorem bv38 (parts : List (Nat × V)) : buildV Tryz.prog 38 parts = (fillV (fun i => ([(0, 1), (1, 1), (2, 1), (3, 1), (4, 5), (9, 1)] : List (Nat × Nat))[i]?) [.int .i64 0, .int .i64 0, .nilslice, .nilslice, .int .i64 0, .int .u8 0, .int .i64 0, .int .i64 0, .str [], .nilslice] parts).map .agg := bv_of zc38 (by kernel_rfl) parts
theorem sz48 : sz Tryz.prog 48 = some 1 := by kernel_rfl
theorem zc48 : zeroCells Tryz.prog 48 = some [.nilptr] := by kernel_rfl
theorem rd48 (cs : List V) (o : Nat) : readAt Tryz.prog 48 cs o = cs[o]? := rd_of Tryz.underlying48 sz48 rfl cs o
theorem sz49 : sz Tryz.prog 49 = some 1 := by kernel_rfl
theorem zc49 : zeroCells Tryz.prog 49 = some [.nilmap] := by kernel_rfl
theorem rd49 (cs : List V) (o : Nat) : readAt Tryz.prog 49 cs o = cs[o]? := rd_of Tryz.underlying49 sz49 rfl cs o
theorem sz51 : sz Tryz.prog 51 = some 2 := by kernel_rfl
theorem zc51 : zeroCells Tryz.prog 51 = some [.int .i64 0, .nilmap] := by kernel_rfl
theorem rd51 (cs : List V) (o : Nat) : readAt Tryz.prog 51 cs o = if o + 2 ≤ cs.length then some (.agg ((cs.drop o).take 2)) else none := ra_of Tryz.underlying51 sz51 rfl cs o
theorem fo51_0 : foOf Tryz.prog 51 0 = some (0, 3) := by kernel_rfl
theorem ff51_0 : ffOf Tryz.prog 51 0 = some (0, 3) := by kernel_rfl
theorem fo51_1 : foOf Tryz.prog 51 1 = some (1, 49) := by kernel_rfl
theorem ff51_1 : ffOf Tryz.prog 51 1 = some (1, 49) := by kernel_rfl
theorem bv51 (parts : List (Nat × V)) : buildV Tryz.prog 51 parts = (fillV (fun i => ([(0, 1), (1, 1)] : List (Nat × Nat))[i]?) [.int .i64 0, .nilmap] parts).map .agg := bv_of zc51 (by kernel_rfl) parts
theorem sz62 : sz Tryz.prog 62 = some 1 := by kernel_rfl
theorem zc62 : zeroCells Tryz.prog 62 = some [.nilfunc] := by kernel_rfl
theorem rd62 (cs : List V) (o : Nat) : readAt Tryz.prog 62 cs o = cs[o]? := rd_of Tryz.underlying62 sz62 rfl cs o
theorem sz64 : sz Tryz.prog 64 = some 1 := by kernel_rfl
theorem zc64 : zeroCells Tryz.prog 64 = some [.nilmap] := by kernel_rfl
theorem rd64 (cs : List V) (o : Nat) : readAt Tryz.prog 64 cs o = cs[o]? := rd_of Tryz.underlying64 sz64 rfl cs o
theorem sz66 : sz Tryz.prog 66 = some 1 := by kernel_rfl
theorem zc66 : zeroCells Tryz.prog 66 = some [.nilfunc] := by kernel_rfl
theorem rd66 (cs : List V) (o : Nat) : readAt Tryz.prog 66 cs o = cs[o]? := rd_of Tryz.underlying66 sz66 rfl cs o
theorem sz68 : sz Tryz.prog 68 = some 1 := by kernel_rfl
theorem zc68 : zeroCells Tryz.prog 68 = some [.nilmap] := by kernel_rfl
theorem rd68 (cs : List V) (o : Nat) : readAt Tryz.prog 68 cs o = cs[o]? := rd_of Tryz.underlying68 sz68 rfl cs o
theorem sz70 : sz Tryz.prog 70 = some 1 := by kernel_rfl
theorem zc70 : zeroCells Tryz.prog 70 = some [.nilptr] := by kernel_rfl
theorem rd70 (cs : List V) (o : Nat) : readAt Tryz.prog 70 cs o = cs[o]? := rd_of Tryz.underlying70 sz70 rfl cs o
theorem sz73 : sz Tryz.prog 73 = some 2 := by kernel_rfl
theorem zc73 : zeroCells Tryz.prog 73 = some [.str [], .bool false] := by kernel_rfl
theorem rd73 (cs : List V) (o : Nat) : readAt Tryz.prog 73 cs o = if o + 2 ≤ cs.length then some (.agg ((cs.drop o).take 2)) else none := ra_of Tryz.underlying73 sz73 rfl cs o
theorem fo73_0 : foOf Tryz.prog 73 0 = some (0, 9) := by kernel_rfl
theorem ff73_0 : ffOf Tryz.prog 73 0 = some (0, 9) := by kernel_rfl
theorem fo73_1 : foOf Tryz.prog 73 1 = some (1, 4) := by kernel_rfl
theorem ff73_1 : ffOf Tryz.prog 73 1 = some (1, 4) := by kernel_rfl
theorem bv73 (parts : List (Nat × V)) : buildV Tryz.prog 73 parts = (fillV (fun i => ([(0, 1), (1, 1)] : List (Nat × Nat))[i]?) [.str [], .bool false] parts).map .agg := bv_of zc73 (by kernel_rfl) parts
theorem sz74 : sz Tryz.prog 74 = some 1 := by kernel_rfl
theorem zc74 : zeroCells Tryz.prog 74 = some [.nilptr] := by kernel_rfl
theorem rd74 (cs : List V) (o : Nat) : readAt Tryz.prog 74 cs o = cs[o]? := rd_of Tryz.underlying74 sz74 rfl cs o
theorem sz75 : sz Tryz.prog 75 = some 1 := by kernel_rfl
theorem zc75 : zeroCells Tryz.prog 75 = some [.nilmap] := by kernel_rfl
theorem rd75 (cs : List V) (o : Nat) : readAt Tryz.prog 75 cs o = cs[o]? := rd_of Tryz.underlying75 sz75 rfl cs o
theorem sz77 : sz Tryz.prog 77 = some 3 := by kernel_rfl
theorem zc77 : zeroCells Tryz.prog 77 = some [.int .u8 0, .int .i64 0, .nilslice] := by kernel_rfl
theorem rd77 (cs : List V) (o : Nat) : readAt Tryz.prog 77 cs o = if o + 3 ≤ cs.length then some (.agg ((cs.drop o).take 3)) else none := ra_of Tryz.underlying77 sz77 rfl cs o
theorem fo77_0 : foOf Tryz.prog 77 0 = some (0, 5) := by kernel_rfl
theorem ff77_0 : ffOf Tryz.prog 77 0 = some (0, 5) := by kernel_rfl
theorem fo77_1 : foOf Tryz.prog 77 1 = some (1, 3) := by kernel_rfl
theorem ff77_1 : ffOf Tryz.prog 77 1 = some (1, 3) := by kernel_rfl
theorem fo77_2 : foOf Tryz.prog 77 2 = some (2, 30) := by kernel_rfl
theorem ff77_2 : ffOf Tryz.prog 77 2 = some (2, 30) := by kernel_rfl
theorem bv77 (parts : List (Nat × V)) : buildV Tryz.prog 77 parts = (fillV (fun i => ([(0, 1), (1, 1), (2, 1)] : List (Nat × Nat))[i]?) [.int .u8 0, .int .i64 0, .nilslice] parts).map .agg := bv_of zc77 (by kernel_rfl) parts
theorem sz78 : sz Tryz.prog 78 = some 48 := by kernel_rfl
theorem zc78 : zeroCells Tryz.prog 78 = some [.int .u8 0, .int .i64 0, .nilslice, .int .u8 0, .int .i64 0, .nilslice, .int .u8 0, .int .i64 0, .nilslice, .int .u8 0, .int .i64 0, .nilslice, .int .u8 0, .int .i64 0, .nilslice, .int .u8 0, .int .i64 0, .nilslice, .int .u8 0, .int .i64 0, .nilslice, .int .u8 0, .int .i64 0, .nilslice, .int .u8 0, .int .i64 0, .nilslice, .int .u8 0, .int .i64 0, .nilslice, .int .u8 0, .int .i64 0, .nilslice, .int .u8 0, .int .i64 0, .nilslice, .int .u8 0, .int .i64 0, .nilslice, .int .u8 0, .int .i64 0, .nilslice, .int .u8 0, .int .i64 0, .nilslice, .int .u8 0, .int .i64 0, .nilslice] := by kernel_rfl
theorem rd78 (cs : List V) (o : Nat) : readAt Tryz.prog 78 cs o = if o + 48 ≤ cs.length then some (.agg ((cs.drop o).take 48)) else none := ra_of Tryz.underlying78 sz78 rfl cs o
theorem sz80 : sz Tryz.prog 80 = some 53 := by kernel_rfl
theorem zc80 : zeroCells Tryz.prog 80 = some [.bool false, .int .i64 0, .int .i64 0, .nilptr, .nilmap, .int .u8 0, .int .i64 0, .nilslice, .int .u8 0, .int .i64 0, .nilslice, .int .u8 0, .int .i64 0, .nilslice, .int .u8 0, .int .i64 0, .nilslice, .int .u8 0, .int .i64 0, .nilslice, .int .u8 0, .int .i64 0, .nilslice, .int .u8 0, .int .i64 0, .nilslice, .int .u8 0, .int .i64 0, .nilslice, .int .u8 0, .int .i64 0, .nilslice, .int .u8 0, .int .i64 0, .nilslice, .int .u8 0, .int .i64 0, .nilslice, .int .u8 0, .int .i64 0, .nilslice, .int .u8 0, .int .i64 0, .nilslice, .int .u8 0, .int .i64 0, .nilslice, .int .u8 0, .int .i64 0, .nilslice, .int .u8 0, .int .i64 0, .nilslice] := by kernel_rfl
theorem rd80 (cs : List V) (o : Nat) : readAt Tryz.prog 80 cs o = if o + 53 ≤ cs.length then some (.agg ((cs.drop o).take 53)) else none := ra_of Tryz.underlying80 sz80 rfl cs o
theorem fo80_0 : foOf Tryz.prog 80 0 = some (0, 4) := by kernel_rfl
theorem ff80_0 : ffOf Tryz.prog 80 0 = some (0, 4) := by kernel_rfl
theorem fo80_1 : foOf Tryz.prog 80 1 = some (1, 3) := by kernel_rfl
theorem ff80_1 : ffOf Tryz.prog 80 1 = some (1, 3) := by kernel_rfl
theorem fo80_2 : foOf Tryz.prog 80 2 = some (2, 3) := by kernel_rfl
theorem ff80_2 : ffOf Tryz.prog 80 2 = some (2, 3) := by kernel_rfl
theorem fo80_3 : foOf Tryz.prog 80 3 = some (3, 74) := by kernel_rfl
theorem ff80_3 : ffOf Tryz.prog 80 3 = some (3, 74) := by kernel_rfl
theorem fo80_4 : foOf Tryz.prog 80 4 = some (4, 75) := by kernel_rfl
theorem ff80_4 : ffOf Tryz.prog 80 4 = some (4, 75) := by kernel_rfl
theorem fo80_5 : foOf Tryz.prog 80 5 = some (5, 78) := by kernel_rfl
theorem ff80_5 : ffOf Tryz.prog 80 5 = some (5, 78) := by kernel_rfl
theorem bv80 (parts : List (Nat × V)) : buildV Tryz.prog 80 parts = (fillV (fun i => ([(0, 1), (1, 1), (2, 1), (3, 1), (4, 1), (5, 48)] : List (Nat × Nat))[i]?) [.bool false, .int .i64 0, .int .i64 0, .nilptr, .nilmap, .int .u8 0, .int .i64 0, .nilslice, .int .u8 0, .int .i64 0, .nilslice, .int .u8 0, .int .i64 0, .nilslice, .int .u8 0, .int .i64 0, .nilslice, .int .u8 0, .int .i64 0, .nilslice, .int .u8 0, .int .i64 0, .nilslice, .int .u8 0, .int .i64 0, .nilslice, .int .u8 0, .int .i64 0, .nilslice, .int .u8 0, .int .i64 0, .nilslice, .int .u8 0, .int .i64 0, .nilslice, .int .u8 0, .int .i64 0, .nilslice, .int .u8 0, .int .i64 0, .nilslice, .int .u8 0, .int .i64 0, .nilslice, .int .u8 0, .int .i64 0, .nilslice, .int .u8 0, .int .i64 0, .nilslice, .int .u8 0, .int .i64 0, .nilslice] parts).map .agg := bv_of zc80 (by kernel_rfl) parts
theorem sz111 : sz Tryz.prog 111 = some 1 := by kernel_rfl
theorem zc111 : zeroCells Tryz.prog 111 = some [.nilfunc] := by kernel_rfl
theorem rd111 (cs : List V) (o : Nat) : readAt Tryz.prog 111 cs o = cs[o]? := rd_of Tryz.underlying111 sz111 rfl cs o
theorem sz125 : sz Tryz.prog 125 = some 1 := by kernel_rfl
theorem zc125 : zeroCells Tryz.prog 125 = some [.nilfunc] := by kernel_rfl
theorem rd125 (cs : List V) (o : Nat) : readAt Tryz.prog 125 cs o = cs[o]? := rd_of Tryz.underlying125 sz125 rfl cs o
end Go.Proofs.YtebbgmeomkjibaaGreat
end
