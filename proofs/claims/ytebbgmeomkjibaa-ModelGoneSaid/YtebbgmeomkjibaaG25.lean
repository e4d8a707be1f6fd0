/- This file holds in one the texts O1, OK, Am40, Am41, OF; each says at its head what it proves. -/
import Derived.Test.YtebbgmeomkjibaaG1
import Derived.Test.YtebbgmeomkjibaaG2
import Derived.Test.YtebbgmeomkjibaaG22
import Derived.Test.YtebbgmeomkjibaaG24
import Derived.Test.YtebbgmeomkjibaaChecked
set_option linter.unusedSimpArgs false
set_option linter.unusedVariables false
section
/- model: the policy, and what is taken of the program. -/
namespace Go.Proofs.Ytebbgmeomkjibaa
open Go.AM

def inl : List Nat := [12, 18, 19, 20, 21, 22, 23, 24, 25, 26, 27, 28, 41, 29, 30, 31, 32, 33, 34, 35, 36, 37, 38, 42, 46, 47, 48, 45, 53, 49, 50, 51, 55, 57, 61, 59, 44, 14, 15, 54]

def pol : Pol where
  pure := fun f g => !inl.contains g && !(f == 55 && g == 56)
  mt := fun f s => [(9, 6), (54, 5), (54, 7)].contains (f, s)
  keep := fun f r =>
    if f = 5 then if r = 15 then some ([1, 8, 12, 13, 14], []) else none else
    if f = 6 then if r = 12 then some ([0, 5, 7, 8, 9], [29, 34]) else if r = 22 then some ([0, 5, 7, 8, 9, 10, 11], []) else if r = 31 then some ([8, 12, 13], []) else none else
    if f = 7 then if r = 6 then some ([4, 5, 14, 15, 16], [7]) else none else
    if f = 10 then if r = 3 then some ([0, 1, 5, 6], []) else none else
    if f = 11 then if r = 4 then some ([0, 1, 5], []) else none else
    if f = 13 then if r = 4 then some ([2, 3, 5], []) else if r = 9 then some ([2, 3, 6], []) else none else
    if f = 21 then if r = 11 then some ([0, 3, 4, 6, 7], []) else none else
    if f = 23 then if r = 6 then some ([0, 3, 4, 5, 6, 7, 26], []) else if r = 15 then some ([0, 3, 4, 5, 79], []) else none else
    if f = 42 then if r = 4 then some ([0, 3, 14], []) else none else
    if f = 46 then if r = 3 then some ([0, 1, 5, 6, 7, 8], []) else none else
    if f = 53 then if r = 2 then some ([0, 1, 8], []) else none else
    if f = 60 then if r = 2 then some ([0, 1, 7, 8], []) else none else
    none
  move := fun f r => if f = 6 then (if r = 12 then some ([65, 102], 200) else none) else none
  lift := fun _ g => g == 14 || g == 15
  look := fun _ g => g == 54
  settle := fun f => if f = 55 then [32] else []
  prim := fun f => if f = 68 then some primClone else if f = 58 then some (primSortStr 67) else if f = 43 then some (primSortInt 64) else none
end Go.Proofs.Ytebbgmeomkjibaa
end
section
/- model: what the library promises of slices.Sorted(maps.Keys(m)). -/
namespace Go.Proofs.Ytebbgmeomkjibaa
open Go.AM Go.RowKit Go.Maps Go.Sort Go.Shelf

theorem sorts_str (m : Nat) : AnyZ.SortsIn Try.prog Try.sorted58_ren Fence.wide m :=
  ⟨fun blk off cap ss W hH hblk hsz => callsIn_wide.2 (AnyM.slices_Sort_string Try.sort66 blk off cap ss W hH hblk hsz),
   fun p cap W => callsIn_wide.2 (AnyM.slices_Sort_string_none Try.sort66 p cap W)⟩

set_option maxHeartbeats 1000000 in
theorem sortsKeys_str : SortsKeys Try.prog 58 67 9 := by
  intro Bm b w es clk hBm hcell hb hst hkeys hsz
  have hown := ownsMap_str (P := Try.prog) (k := 9) Try.underlying9 hb hst hkeys hsz
  have hseq : SeqGives Fence.wide 2 Try.prog 67 #[.pointer (some ⟨Bm, 0, none⟩)] encStr (fun ss => ss.Perm (strKeys (datumOf Try.prog 9 es))) (Maps.size (datumOf Try.prog 9 es)) w :=
    AnyZ.keys_gives (ρ := Try.keys59_ren) { Try.keys59 with } Fence.wide _ trivial rfl (by omega) Bm b 1048576 _ w hBm hcell hown
  have hs : Maps.size (datumOf Try.prog 9 es) ≤ 1048576 := by rw [size_datum]; exact hsz
  have hc := AnyZ.sorted_in Try.sorted58 Fence.wide 5 trivial trivial trivial trivial rfl (by omega) (sorts_str _) (enters_of Try.func66 (by kernel_rfl) rfl) 67 #[.pointer (some ⟨Bm, 0, none⟩)] trivial (enters_of Try.func67 (by kernel_rfl) rfl) _ _ (Nat.le_trans hs (by decide)) (by omega) w hseq
  change CallsIn _ _ Try.prog 58 _ _ _ at hc
  refine .inr ⟨58, enters_of Try.func58 (by kernel_rfl) rfl _ _, (callsIn_wide.1 hc).mono ?_⟩
  rintro e w' ⟨v, ss, rfl, hp, hrow, hnil, hbelow⟩
  exact ⟨v, ss, rfl, (hp.map encStr).trans (strKeys_datum Try.underlying9 hkeys), hrow, hnil, hbelow⟩

theorem sorts_int (m : Nat) : AnyZI.SortsIn Try.prog Try.sorted43_ren Fence.wide m :=
  ⟨fun blk off cap ss W hH hblk hsz => callsIn_wide.2 (AnyM.slices_Sort_int Try.sort63 blk off cap ss W hH hblk hsz),
   fun p cap W => callsIn_wide.2 (AnyM.slices_Sort_int_none Try.sort63 p cap W)⟩

set_option maxHeartbeats 1000000 in
theorem sortsKeys_int : SortsKeysI Try.prog 43 64 3 := by
  intro Bm b w es clk hBm hcell hb hst hkeys hsz
  have hown := ownsMap_int (P := Try.prog) (k := 3) Try.underlying3 hb hst hkeys hsz
  have hseq : SeqGives Fence.wide 2 Try.prog 64 #[.pointer (some ⟨Bm, 0, none⟩)] encZ (fun ss => ss.Perm (intKeys (datumOf Try.prog 3 es))) (Maps.size (datumOf Try.prog 3 es)) w :=
    AnyZI.keys_gives (ρ := Try.keys44_ren) { Try.keys44 with } Fence.wide _ trivial rfl (by omega) Bm b 1048576 _ w hBm hcell hown
  have hs : Maps.size (datumOf Try.prog 3 es) ≤ 1048576 := by rw [size_datum]; exact hsz
  have hc := AnyZI.sorted_in Try.sorted43 Fence.wide 5 trivial trivial trivial trivial rfl (by omega) (sorts_int _) (enters_of Try.func63 (by kernel_rfl) rfl) 64 #[.pointer (some ⟨Bm, 0, none⟩)] trivial (enters_of Try.func64 (by kernel_rfl) rfl) _ _ (Nat.le_trans hs (by decide)) (by omega) w hseq
  change CallsIn _ _ Try.prog 43 _ _ _ at hc
  refine .inr ⟨43, enters_of Try.func43 (by kernel_rfl) rfl _ _, (callsIn_wide.1 hc).mono ?_⟩
  rintro e w' ⟨v, ss, rfl, hp, hrow, hnil, hbelow⟩
  exact ⟨v, ss, rfl, (hp.map encZ).trans (intKeys_datum Try.underlying3 hkeys), hrow, hnil, hbelow⟩

theorem xClone : IsExtern Try.prog 68 Extern.MapsClone.clone := ⟨Try.f68, Try.func68, by kernel_rfl, by kernel_rfl, by kernel_rfl, by kernel_rfl⟩
theorem draws_all : (Try.prog.funcs.all fun F => match F.body with | some c => drawsC c | none => true) = true := by kernel_rfl
theorem num_all : (Try.prog.funcs.all fun F => F.body.isNone || !(F.name == "runtime.NumGoroutine")) = true := by kernel_rfl

theorem ok : Okay Try.prog pol where
  mixed := Try.checked.mixed
  draws := fun f F c hF hc => by
    have := Array.all_eq_true_iff_forall_mem.1 draws_all F (Array.mem_of_getElem? hF)
    rwa [hc] at this
  num := fun f F hF hb => by
    have := Array.all_eq_true_iff_forall_mem.1 num_all F (Array.mem_of_getElem? hF)
    cases hn : F.body with
    | none => rw [hn] at hb; cases hb
    | some c => rw [hn] at this; simpa using this
  prim := fun f g hg B F H E fr dst args cargs v x S hlt hr h => by
    simp only [pol] at hg
    split at hg
    · rename_i hf; subst hf; cases hg
      exact sound_clone xClone S hlt hr h
    · split at hg
      · rename_i hf; subst hf; cases hg
        exact sound_sortStr sortsKeys_str S hr h
      · split at hg
        · rename_i hf; subst hf; cases hg
          exact sound_sortInt sortsKeys_int S hr h
        · cases hg

end Go.Proofs.Ytebbgmeomkjibaa
end
section
/- The abstract machine, part 40: structs: fields' places, fields, structs built, in one rewrite each. -/
namespace Go.AM

def foOf (P : Program) (t : TypeId) (i : Nat) : Option (Nat × TypeId) :=
  match P.underlying t with
  | some (.struct fs) => (match fs[i]? with
    | some f => (match sz P f.type with
      | some n => if n = 0 then none else some (f.offset, f.type)
      | none => none)
    | none => none)
  | _ => none
def plOf (P : Program) (t : TypeId) : Option (List (Nat × Nat)) :=
  match P.underlying t with
  | some (.struct fs) => places P fs.toList
  | _ => none
def ffOf (P : Program) (t : TypeId) (i : Nat) : Option (Nat × TypeId) :=
  match P.underlying t with
  | some (.struct fs) => (match fs[i]? with
    | some f => some (f.offset, f.type)
    | none => none)
  | _ => none
def faV (off : Nat) : V → Option V
  | .ptr a b o => some (.ptr a b (o + off))
  | .iptr cs o => some (.iptr cs (o + off))
  | _ => none
def faO : Option (Nat × TypeId) → V → Option V
  | some x, v => faV x.1 v
  | none, _ => none
def fvO (P : Program) : Option (Nat × TypeId) → V → Option V
  | some x, .agg cs => partV P x.2 cs x.1
  | _, _ => none

section
variable {P : Program} {mt : Nat → Bool} {fr : Nat} {g : Get} {r : Operand → V} {d : Option Nat} {ty u : TypeId} {ps : String} {af : Array Edge} {gd : Option (Nat × Bool)} {x : Operand}

theorem ev_fa {t : TypeId} {i : Nat} : evOp P mt fr g r { dst := d, op := .fieldAddr t x i, type := ty, pos := ps, after := af, guard := gd } = (faO (foOf P t i) (r x)).map fun v => .val v none := by
  unfold foOf
  simp only [evOp]
  cases P.underlying t with
  | none => rfl
  | some dd =>
    cases dd with
    | struct fs =>
      simp only
      cases fs[i]? with
      | none => rfl
      | some f =>
        simp only
        cases sz P f.type with
        | none => rfl
        | some n =>
          simp only
          by_cases h0 : n = 0
          · simp only [h0, if_true]; rfl
          · simp only [h0, if_false]
            cases r x <;> rfl
    | _ => rfl

theorem ev_field {t : TypeId} {i : Nat} : evOp P mt fr g r { dst := d, op := .field t x i, type := ty, pos := ps, after := af, guard := gd } = (fvO P (ffOf P t i) (r x)).map fun v => .val v none := by
  unfold ffOf
  simp only [evOp]
  cases P.underlying t with
  | none => rfl
  | some dd =>
    cases dd with
    | struct fs =>
      cases r x <;> simp only <;> cases fs[i]? <;> rfl
    | _ => rfl

theorem bv_of {t : TypeId} {z : List V} {ps : List (Nat × Nat)} (hz : zeroCells P t = some z) (hp : plOf P t = some ps) (parts : List (Nat × V)) : buildV P t parts = (fillV (fun i => ps[i]?) z parts).map .agg := by
  unfold plOf at hp
  unfold buildV
  rw [hz]
  split at hp
  case h_2 => cases hp
  rename_i fs hu
  rw [hu]
  simp only [hp]

theorem fa_ptr {off a b o : Nat} : faV off (.ptr a b o) = some (.ptr a b (o + off)) := rfl
theorem fa_iptr {off o : Nat} {cs : List V} : faV off (.iptr cs o) = some (.iptr cs (o + off)) := rfl
theorem fao_some {off : Nat} {t : TypeId} {v : V} : faO (some (off, t)) v = faV off v := rfl
theorem fv_agg {t : TypeId} {off : Nat} {cs : List V} : fvO P (some (off, t)) (.agg cs) = partV P t cs off := rfl
end
end Go.AM
end
section
/- The abstract machine, part 41: loads and stores, with the object asked last. -/
namespace Go.AM

def ldO (P : Program) (t : TypeId) (o : Nat) : Option O → Option V
  | some (.cells xs) => readAt P t xs o
  | _ => none
def ldV (P : Program) (t : TypeId) (g : Get) : V → Option V
  | .ptr f s o => ldO P t o (g f s)
  | .iptr cs o => readAt P t cs o
  | _ => none
def stO (n f s o : Nat) (cs : List V) : Option O → Option Step
  | some (.cells xs) => if cs.length = n ∧ o + n ≤ xs.length then some (.val .bad (some (f, s, .cells (splice xs o cs)))) else none
  | _ => none
def stV (g : Get) : Option Nat → V → Option (List V) → Option Step
  | some n, .ptr f s o, some cs => stO n f s o cs (g f s)
  | _, _, _ => none

section
variable {P : Program} {mt : Nat → Bool} {fr : Nat} {g : Get} {r : Operand → V} {d : Option Nat} {ty u : TypeId} {ps : String} {af : Array Edge} {gd : Option (Nat × Bool)} {x a : Operand}

theorem ev_load {t : TypeId} : evOp P mt fr g r { dst := d, op := .load t a, type := ty, pos := ps, after := af, guard := gd } = (ldV P t g (r a)).map fun v => .val v none := by
  simp only [evOp]
  cases r a with
  | ptr f s o =>
    simp only [ldV]
    cases g f s with
    | none => rfl
    | some q => cases q <;> rfl
  | _ => rfl

theorem ev_store {t : TypeId} : evOp P mt fr g r { dst := d, op := .store t a x, type := ty, pos := ps, after := af, guard := gd } = stV g (sz P t) (r a) (r x).cells := by
  simp only [evOp]
  cases sz P t with
  | none => cases r a <;> first | rfl | (cases (r x).cells <;> rfl)
  | some n =>
    cases r a with
    | ptr f s o =>
      cases (r x).cells with
      | none => rfl
      | some cs =>
        simp only [stV]
        cases g f s with
        | none => rfl
        | some q => cases q <;> rfl
    | _ => rfl

theorem ld_ptr {t : TypeId} {f s o : Nat} : ldV P t g (.ptr f s o) = ldO P t o (g f s) := rfl
theorem ld_iptr {t : TypeId} {o : Nat} {cs : List V} : ldV P t g (.iptr cs o) = readAt P t cs o := rfl
theorem ldO_cells {t : TypeId} {o : Nat} {xs : List V} : ldO P t o (some (.cells xs)) = readAt P t xs o := rfl
theorem st_ptr {n f s o : Nat} {cs : List V} : stV g (some n) (.ptr f s o) (some cs) = stO n f s o cs (g f s) := rfl
theorem stO_cells {n f s o : Nat} {cs xs : List V} : stO n f s o cs (some (.cells xs)) = if cs.length = n ∧ o + n ≤ xs.length then some (.val .bad (some (f, s, .cells (splice xs o cs)))) else none := rfl
theorem ra_of {t : TypeId} {dd : TypeDesc} {n : Nat} (h : P.underlying t = some dd) (hs : sz P t = some n) (ha : aggD dd = true) (cs : List V) (o : Nat) :
    readAt P t cs o = if o + n ≤ cs.length then some (.agg ((cs.drop o).take n)) else none := by
  simp only [readAt, h, hs, ha, if_true]
theorem cells_agg {cs : List V} : (V.agg cs).cells = if cs.all V.scalar then some cs else none := rfl
theorem sc_bool {b : Bool} : (V.bool b).scalar = true := rfl
theorem sc_int {k : IntKind} {n : Int} : (V.int k n).scalar = true := rfl
theorem sc_str {s : List UInt8} : (V.str s).scalar = true := rfl
theorem sc_nilptr : V.nilptr.scalar = true := rfl
theorem sc_ptr {f s o : Nat} : (V.ptr f s o).scalar = true := rfl
theorem sc_iptr {cs : List V} {o : Nat} : (V.iptr cs o).scalar = true := rfl
theorem sc_nilslice : V.nilslice.scalar = true := rfl
theorem sc_islice {cs : List V} {n : Nat} {b : Bool} : (V.islice cs n b).scalar = true := rfl
theorem sc_mslice {f s o n : Nat} {c : Option Nat} {e : Nat} : (V.mslice f s o n c e).scalar = true := rfl
theorem sc_gslice {f s n e : Nat} {cs : List V} : (V.gslice f s cs n e).scalar = true := rfl
theorem sc_nilmap : V.nilmap.scalar = true := rfl
theorem sc_map {f s : Nat} : (V.map f s).scalar = true := rfl
theorem sc_func {f : Fn} {a b : List V} : (V.func f a b).scalar = true := rfl
end
end Go.AM
end
section
/- model: facts on the program's types, by a program of ours (wip/dbg/G.lean). -/
namespace Go.Proofs.Ytebbgmeomkjibaa
open Go.AM
theorem sz1 : sz Try.prog 1 = some 1 := by kernel_rfl
theorem zc1 : zeroCells Try.prog 1 = some [.nilfunc] := by kernel_rfl
theorem rd1 (cs : List V) (o : Nat) : readAt Try.prog 1 cs o = cs[o]? := rd_of Try.underlying1 sz1 rfl cs o
theorem sz3 : sz Try.prog 3 = some 1 := by kernel_rfl
theorem zc3 : zeroCells Try.prog 3 = some [.int .i64 0] := by kernel_rfl
theorem rd3 (cs : List V) (o : Nat) : readAt Try.prog 3 cs o = cs[o]? := rd_of Try.underlying3 sz3 rfl cs o
theorem sz4 : sz Try.prog 4 = some 1 := by kernel_rfl
theorem zc4 : zeroCells Try.prog 4 = some [.bool false] := by kernel_rfl
theorem rd4 (cs : List V) (o : Nat) : readAt Try.prog 4 cs o = cs[o]? := rd_of Try.underlying4 sz4 rfl cs o
theorem sz5 : sz Try.prog 5 = some 1 := by kernel_rfl
theorem zc5 : zeroCells Try.prog 5 = some [.int .u8 0] := by kernel_rfl
theorem rd5 (cs : List V) (o : Nat) : readAt Try.prog 5 cs o = cs[o]? := rd_of Try.underlying5 sz5 rfl cs o
theorem sz9 : sz Try.prog 9 = some 1 := by kernel_rfl
theorem zc9 : zeroCells Try.prog 9 = some [.str []] := by kernel_rfl
theorem rd9 (cs : List V) (o : Nat) : readAt Try.prog 9 cs o = cs[o]? := rd_of Try.underlying9 sz9 rfl cs o
theorem ln9 (g : Get) (s : List UInt8) : lenV Try.prog g 9 (.str s) = some (.int .i64 s.length) := ln_str Try.underlying9 s
theorem sz20 : sz Try.prog 20 = some 1 := by kernel_rfl
theorem zc20 : zeroCells Try.prog 20 = some [.nilface] := by kernel_rfl
theorem rd20 (cs : List V) (o : Nat) : readAt Try.prog 20 cs o = cs[o]? := rd_of Try.underlying20 sz20 rfl cs o
theorem sz22 : sz Try.prog 22 = some 1 := by kernel_rfl
theorem zc22 : zeroCells Try.prog 22 = some [.nilslice] := by kernel_rfl
theorem rd22 (cs : List V) (o : Nat) : readAt Try.prog 22 cs o = cs[o]? := rd_of Try.underlying22 sz22 rfl cs o
theorem ln22 (g : Get) (cs : List V) (len : Nat) (full : Bool) : lenV Try.prog g 22 (.islice cs len full) = some (.int .i64 len) := ln_islice Try.underlying22 cs len full
theorem lnn22 (g : Get) : lenV Try.prog g 22 .nilslice = some (.int .i64 0) := ln_nil Try.underlying22
theorem sz23 : sz Try.prog 23 = some 1 := by kernel_rfl
theorem zc23 : zeroCells Try.prog 23 = some [.int .i64 0] := by kernel_rfl
theorem rd23 (cs : List V) (o : Nat) : readAt Try.prog 23 cs o = cs[o]? := rd_of Try.underlying23 sz23 rfl cs o
theorem sz26 : sz Try.prog 26 = some 1 := by kernel_rfl
theorem zc26 : zeroCells Try.prog 26 = some [.nilslice] := by kernel_rfl
theorem rd26 (cs : List V) (o : Nat) : readAt Try.prog 26 cs o = cs[o]? := rd_of Try.underlying26 sz26 rfl cs o
theorem ln26 (g : Get) (cs : List V) (len : Nat) (full : Bool) : lenV Try.prog g 26 (.islice cs len full) = some (.int .i64 len) := ln_islice Try.underlying26 cs len full
theorem lnn26 (g : Get) : lenV Try.prog g 26 .nilslice = some (.int .i64 0) := ln_nil Try.underlying26
theorem sz28 : sz Try.prog 28 = some 8 := by kernel_rfl
theorem zc28 : zeroCells Try.prog 28 = some [.int .u8 0, .int .i64 0, .int .i64 0, .int .i64 0, .str [], .str [], .str [], .nilslice] := by kernel_rfl
theorem rd28 (cs : List V) (o : Nat) : readAt Try.prog 28 cs o = if o + 8 ≤ cs.length then some (.agg ((cs.drop o).take 8)) else none := ra_of Try.underlying28 sz28 rfl cs o
theorem fo28_0 : foOf Try.prog 28 0 = some (0, 5) := by kernel_rfl
theorem ff28_0 : ffOf Try.prog 28 0 = some (0, 5) := by kernel_rfl
theorem fo28_1 : foOf Try.prog 28 1 = some (1, 3) := by kernel_rfl
theorem ff28_1 : ffOf Try.prog 28 1 = some (1, 3) := by kernel_rfl
theorem fo28_2 : foOf Try.prog 28 2 = some (2, 3) := by kernel_rfl
theorem ff28_2 : ffOf Try.prog 28 2 = some (2, 3) := by kernel_rfl
theorem fo28_3 : foOf Try.prog 28 3 = some (3, 3) := by kernel_rfl
theorem ff28_3 : ffOf Try.prog 28 3 = some (3, 3) := by kernel_rfl
theorem fo28_4 : foOf Try.prog 28 4 = some (4, 9) := by kernel_rfl
theorem ff28_4 : ffOf Try.prog 28 4 = some (4, 9) := by kernel_rfl
theorem fo28_5 : foOf Try.prog 28 5 = some (5, 9) := by kernel_rfl
theorem ff28_5 : ffOf Try.prog 28 5 = some (5, 9) := by kernel_rfl
theorem fo28_6 : foOf Try.prog 28 6 = some (6, 9) := by kernel_rfl
theorem ff28_6 : ffOf Try.prog 28 6 = some (6, 9) := by kernel_rfl
theorem fo28_7 : foOf Try.prog 28 7 = some (7, 26) := by kernel_rfl
theorem ff28_7 : ffOf Try.prog 28 7 = some (7, 26) := by kernel_rfl
theorem bv28 (parts : List (Nat × V)) : buildV Try.prog 28 parts = (fillV (fun i => ([(0, 1), (1, 1), (2, 1), (3, 1), (4, 1), (5, 1), (6, 1), (7, 1)] : List (Nat × Nat))[i]?) [.int .u8 0, .int .i64 0, .int .i64 0, .int .i64 0, .str [], .str [], .str [], .nilslice] parts).map .agg := bv_of zc28 (by kernel_rfl) parts
theorem sz30 : sz Try.prog 30 = some 1 := by kernel_rfl
theorem zc30 : zeroCells Try.prog 30 = some [.nilslice] := by kernel_rfl
theorem rd30 (cs : List V) (o : Nat) : readAt Try.prog 30 cs o = cs[o]? := rd_of Try.underlying30 sz30 rfl cs o
theorem ln30 (g : Get) (cs : List V) (len : Nat) (full : Bool) : lenV Try.prog g 30 (.islice cs len full) = some (.int .i64 len) := ln_islice Try.underlying30 cs len full
theorem lnn30 (g : Get) : lenV Try.prog g 30 .nilslice = some (.int .i64 0) := ln_nil Try.underlying30
theorem sz31 : sz Try.prog 31 = some 1 := by kernel_rfl
theorem zc31 : zeroCells Try.prog 31 = some [.nilslice] := by kernel_rfl
theorem rd31 (cs : List V) (o : Nat) : readAt Try.prog 31 cs o = cs[o]? := rd_of Try.underlying31 sz31 rfl cs o
theorem ln31 (g : Get) (cs : List V) (len : Nat) (full : Bool) : lenV Try.prog g 31 (.islice cs len full) = some (.int .i64 len) := ln_islice Try.underlying31 cs len full
theorem lnn31 (g : Get) : lenV Try.prog g 31 .nilslice = some (.int .i64 0) := ln_nil Try.underlying31
theorem sz33 : sz Try.prog 33 = some 5 := by kernel_rfl
theorem zc33 : zeroCells Try.prog 33 = some [.int .i64 0, .int .u8 0, .int .i64 0, .int .i64 0, .str []] := by kernel_rfl
theorem rd33 (cs : List V) (o : Nat) : readAt Try.prog 33 cs o = if o + 5 ≤ cs.length then some (.agg ((cs.drop o).take 5)) else none := ra_of Try.underlying33 sz33 rfl cs o
theorem fo33_0 : foOf Try.prog 33 0 = some (0, 3) := by kernel_rfl
theorem ff33_0 : ffOf Try.prog 33 0 = some (0, 3) := by kernel_rfl
theorem fo33_1 : foOf Try.prog 33 1 = some (1, 5) := by kernel_rfl
theorem ff33_1 : ffOf Try.prog 33 1 = some (1, 5) := by kernel_rfl
theorem fo33_2 : foOf Try.prog 33 2 = some (2, 3) := by kernel_rfl
theorem ff33_2 : ffOf Try.prog 33 2 = some (2, 3) := by kernel_rfl
theorem fo33_3 : foOf Try.prog 33 3 = some (3, 3) := by kernel_rfl
theorem ff33_3 : ffOf Try.prog 33 3 = some (3, 3) := by kernel_rfl
theorem fo33_4 : foOf Try.prog 33 4 = some (4, 9) := by kernel_rfl
theorem ff33_4 : ffOf Try.prog 33 4 = some (4, 9) := by kernel_rfl
theorem bv33 (parts : List (Nat × V)) : buildV Try.prog 33 parts = (fillV (fun i => ([(0, 1), (1, 1), (2, 1), (3, 1), (4, 1)] : List (Nat × Nat))[i]?) [.int .i64 0, .int .u8 0, .int .i64 0, .int .i64 0, .str []] parts).map .agg := bv_of zc33 (by kernel_rfl) parts
theorem sz34 : sz Try.prog 34 = some 1 := by kernel_rfl
theorem zc34 : zeroCells Try.prog 34 = some [.nilslice] := by kernel_rfl
theorem rd34 (cs : List V) (o : Nat) : readAt Try.prog 34 cs o = cs[o]? := rd_of Try.underlying34 sz34 rfl cs o
theorem ln34 (g : Get) (cs : List V) (len : Nat) (full : Bool) : lenV Try.prog g 34 (.islice cs len full) = some (.int .i64 len) := ln_islice Try.underlying34 cs len full
theorem lnn34 (g : Get) : lenV Try.prog g 34 .nilslice = some (.int .i64 0) := ln_nil Try.underlying34
theorem sz36 : sz Try.prog 36 = some 10 := by kernel_rfl
theorem zc36 : zeroCells Try.prog 36 = some [.int .i64 0, .int .i64 0, .nilslice, .nilslice, .int .i64 0, .int .u8 0, .int .i64 0, .int .i64 0, .str [], .nilslice] := by kernel_rfl
theorem rd36 (cs : List V) (o : Nat) : readAt Try.prog 36 cs o = if o + 10 ≤ cs.length then some (.agg ((cs.drop o).take 10)) else none := ra_of Try.underlying36 sz36 rfl cs o
theorem fo36_0 : foOf Try.prog 36 0 = some (0, 23) := by kernel_rfl
theorem ff36_0 : ffOf Try.prog 36 0 = some (0, 23) := by kernel_rfl
theorem fo36_1 : foOf Try.prog 36 1 = some (1, 3) := by kernel_rfl
theorem ff36_1 : ffOf Try.prog 36 1 = some (1, 3) := by kernel_rfl
theorem fo36_2 : foOf Try.prog 36 2 = some (2, 26) := by kernel_rfl
theorem ff36_2 : ffOf Try.prog 36 2 = some (2, 26) := by kernel_rfl
theorem fo36_3 : foOf Try.prog 36 3 = some (3, 31) := by kernel_rfl
theorem ff36_3 : ffOf Try.prog 36 3 = some (3, 31) := by kernel_rfl
theorem fo36_4 : foOf Try.prog 36 4 = some (4, 33) := by kernel_rfl
theorem ff36_4 : ffOf Try.prog 36 4 = some (4, 33) := by kernel_rfl
theorem fo36_5 : foOf Try.prog 36 5 = some (9, 34) := by kernel_rfl
theorem ff36_5 : ffOf Try.prog 36 5 = some (9, 34) := by kernel_rfl
theorem bv36 (parts : List (Nat × V)) : buildV Try.prog 36 parts = (fillV (fun i => ([(0, 1), (1, 1), (2, 1), (3, 1), (4, 5), (9, 1)] : List (Nat × Nat))[i]?) [.int .i64 0, .int .i64 0, .nilslice, .nilslice, .int .i64 0, .int .u8 0, .int .i64 0, .int .i64 0, .str [], .nilslice] parts).map .agg := bv_of zc36 (by kernel_rfl) parts
theorem sz43 : sz Try.prog 43 = some 1 := by kernel_rfl
theorem zc43 : zeroCells Try.prog 43 = some [.nilptr] := by kernel_rfl
theorem rd43 (cs : List V) (o : Nat) : readAt Try.prog 43 cs o = cs[o]? := rd_of Try.underlying43 sz43 rfl cs o
theorem sz44 : sz Try.prog 44 = some 1 := by kernel_rfl
theorem zc44 : zeroCells Try.prog 44 = some [.nilmap] := by kernel_rfl
theorem rd44 (cs : List V) (o : Nat) : readAt Try.prog 44 cs o = cs[o]? := rd_of Try.underlying44 sz44 rfl cs o
theorem sz46 : sz Try.prog 46 = some 2 := by kernel_rfl
theorem zc46 : zeroCells Try.prog 46 = some [.int .i64 0, .nilmap] := by kernel_rfl
theorem rd46 (cs : List V) (o : Nat) : readAt Try.prog 46 cs o = if o + 2 ≤ cs.length then some (.agg ((cs.drop o).take 2)) else none := ra_of Try.underlying46 sz46 rfl cs o
theorem fo46_0 : foOf Try.prog 46 0 = some (0, 3) := by kernel_rfl
theorem ff46_0 : ffOf Try.prog 46 0 = some (0, 3) := by kernel_rfl
theorem fo46_1 : foOf Try.prog 46 1 = some (1, 44) := by kernel_rfl
theorem ff46_1 : ffOf Try.prog 46 1 = some (1, 44) := by kernel_rfl
theorem bv46 (parts : List (Nat × V)) : buildV Try.prog 46 parts = (fillV (fun i => ([(0, 1), (1, 1)] : List (Nat × Nat))[i]?) [.int .i64 0, .nilmap] parts).map .agg := bv_of zc46 (by kernel_rfl) parts
theorem sz49 : sz Try.prog 49 = some 1 := by kernel_rfl
theorem zc49 : zeroCells Try.prog 49 = some [.nilfunc] := by kernel_rfl
theorem rd49 (cs : List V) (o : Nat) : readAt Try.prog 49 cs o = cs[o]? := rd_of Try.underlying49 sz49 rfl cs o
theorem sz51 : sz Try.prog 51 = some 1 := by kernel_rfl
theorem zc51 : zeroCells Try.prog 51 = some [.nilmap] := by kernel_rfl
theorem rd51 (cs : List V) (o : Nat) : readAt Try.prog 51 cs o = cs[o]? := rd_of Try.underlying51 sz51 rfl cs o
theorem sz53 : sz Try.prog 53 = some 1 := by kernel_rfl
theorem zc53 : zeroCells Try.prog 53 = some [.nilfunc] := by kernel_rfl
theorem rd53 (cs : List V) (o : Nat) : readAt Try.prog 53 cs o = cs[o]? := rd_of Try.underlying53 sz53 rfl cs o
theorem sz55 : sz Try.prog 55 = some 1 := by kernel_rfl
theorem zc55 : zeroCells Try.prog 55 = some [.nilmap] := by kernel_rfl
theorem rd55 (cs : List V) (o : Nat) : readAt Try.prog 55 cs o = cs[o]? := rd_of Try.underlying55 sz55 rfl cs o
theorem sz57 : sz Try.prog 57 = some 1 := by kernel_rfl
theorem zc57 : zeroCells Try.prog 57 = some [.nilptr] := by kernel_rfl
theorem rd57 (cs : List V) (o : Nat) : readAt Try.prog 57 cs o = cs[o]? := rd_of Try.underlying57 sz57 rfl cs o
theorem sz60 : sz Try.prog 60 = some 2 := by kernel_rfl
theorem zc60 : zeroCells Try.prog 60 = some [.str [], .bool false] := by kernel_rfl
theorem rd60 (cs : List V) (o : Nat) : readAt Try.prog 60 cs o = if o + 2 ≤ cs.length then some (.agg ((cs.drop o).take 2)) else none := ra_of Try.underlying60 sz60 rfl cs o
theorem fo60_0 : foOf Try.prog 60 0 = some (0, 9) := by kernel_rfl
theorem ff60_0 : ffOf Try.prog 60 0 = some (0, 9) := by kernel_rfl
theorem fo60_1 : foOf Try.prog 60 1 = some (1, 4) := by kernel_rfl
theorem ff60_1 : ffOf Try.prog 60 1 = some (1, 4) := by kernel_rfl
theorem bv60 (parts : List (Nat × V)) : buildV Try.prog 60 parts = (fillV (fun i => ([(0, 1), (1, 1)] : List (Nat × Nat))[i]?) [.str [], .bool false] parts).map .agg := bv_of zc60 (by kernel_rfl) parts
theorem sz61 : sz Try.prog 61 = some 1 := by kernel_rfl
theorem zc61 : zeroCells Try.prog 61 = some [.nilptr] := by kernel_rfl
theorem rd61 (cs : List V) (o : Nat) : readAt Try.prog 61 cs o = cs[o]? := rd_of Try.underlying61 sz61 rfl cs o
theorem sz62 : sz Try.prog 62 = some 1 := by kernel_rfl
theorem zc62 : zeroCells Try.prog 62 = some [.nilmap] := by kernel_rfl
theorem rd62 (cs : List V) (o : Nat) : readAt Try.prog 62 cs o = cs[o]? := rd_of Try.underlying62 sz62 rfl cs o
theorem sz64 : sz Try.prog 64 = some 3 := by kernel_rfl
theorem zc64 : zeroCells Try.prog 64 = some [.int .u8 0, .int .i64 0, .nilslice] := by kernel_rfl
theorem rd64 (cs : List V) (o : Nat) : readAt Try.prog 64 cs o = if o + 3 ≤ cs.length then some (.agg ((cs.drop o).take 3)) else none := ra_of Try.underlying64 sz64 rfl cs o
theorem fo64_0 : foOf Try.prog 64 0 = some (0, 5) := by kernel_rfl
theorem ff64_0 : ffOf Try.prog 64 0 = some (0, 5) := by kernel_rfl
theorem fo64_1 : foOf Try.prog 64 1 = some (1, 3) := by kernel_rfl
theorem ff64_1 : ffOf Try.prog 64 1 = some (1, 3) := by kernel_rfl
theorem fo64_2 : foOf Try.prog 64 2 = some (2, 26) := by kernel_rfl
theorem ff64_2 : ffOf Try.prog 64 2 = some (2, 26) := by kernel_rfl
theorem bv64 (parts : List (Nat × V)) : buildV Try.prog 64 parts = (fillV (fun i => ([(0, 1), (1, 1), (2, 1)] : List (Nat × Nat))[i]?) [.int .u8 0, .int .i64 0, .nilslice] parts).map .agg := bv_of zc64 (by kernel_rfl) parts
theorem sz65 : sz Try.prog 65 = some 48 := by kernel_rfl
theorem zc65 : zeroCells Try.prog 65 = some [.int .u8 0, .int .i64 0, .nilslice, .int .u8 0, .int .i64 0, .nilslice, .int .u8 0, .int .i64 0, .nilslice, .int .u8 0, .int .i64 0, .nilslice, .int .u8 0, .int .i64 0, .nilslice, .int .u8 0, .int .i64 0, .nilslice, .int .u8 0, .int .i64 0, .nilslice, .int .u8 0, .int .i64 0, .nilslice, .int .u8 0, .int .i64 0, .nilslice, .int .u8 0, .int .i64 0, .nilslice, .int .u8 0, .int .i64 0, .nilslice, .int .u8 0, .int .i64 0, .nilslice, .int .u8 0, .int .i64 0, .nilslice, .int .u8 0, .int .i64 0, .nilslice, .int .u8 0, .int .i64 0, .nilslice, .int .u8 0, .int .i64 0, .nilslice] := by kernel_rfl
theorem rd65 (cs : List V) (o : Nat) : readAt Try.prog 65 cs o = if o + 48 ≤ cs.length then some (.agg ((cs.drop o).take 48)) else none := ra_of Try.underlying65 sz65 rfl cs o
theorem sz67 : sz Try.prog 67 = some 53 := by kernel_rfl
theorem zc67 : zeroCells Try.prog 67 = some [.bool false, .int .i64 0, .int .i64 0, .nilptr, .nilmap, .int .u8 0, .int .i64 0, .nilslice, .int .u8 0, .int .i64 0, .nilslice, .int .u8 0, .int .i64 0, .nilslice, .int .u8 0, .int .i64 0, .nilslice, .int .u8 0, .int .i64 0, .nilslice, .int .u8 0, .int .i64 0, .nilslice, .int .u8 0, .int .i64 0, .nilslice, .int .u8 0, .int .i64 0, .nilslice, .int .u8 0, .int .i64 0, .nilslice, .int .u8 0, .int .i64 0, .nilslice, .int .u8 0, .int .i64 0, .nilslice, .int .u8 0, .int .i64 0, .nilslice, .int .u8 0, .int .i64 0, .nilslice, .int .u8 0, .int .i64 0, .nilslice, .int .u8 0, .int .i64 0, .nilslice, .int .u8 0, .int .i64 0, .nilslice] := by kernel_rfl
theorem rd67 (cs : List V) (o : Nat) : readAt Try.prog 67 cs o = if o + 53 ≤ cs.length then some (.agg ((cs.drop o).take 53)) else none := ra_of Try.underlying67 sz67 rfl cs o
theorem fo67_0 : foOf Try.prog 67 0 = some (0, 4) := by kernel_rfl
theorem ff67_0 : ffOf Try.prog 67 0 = some (0, 4) := by kernel_rfl
theorem fo67_1 : foOf Try.prog 67 1 = some (1, 3) := by kernel_rfl
theorem ff67_1 : ffOf Try.prog 67 1 = some (1, 3) := by kernel_rfl
theorem fo67_2 : foOf Try.prog 67 2 = some (2, 3) := by kernel_rfl
theorem ff67_2 : ffOf Try.prog 67 2 = some (2, 3) := by kernel_rfl
theorem fo67_3 : foOf Try.prog 67 3 = some (3, 61) := by kernel_rfl
theorem ff67_3 : ffOf Try.prog 67 3 = some (3, 61) := by kernel_rfl
theorem fo67_4 : foOf Try.prog 67 4 = some (4, 62) := by kernel_rfl
theorem ff67_4 : ffOf Try.prog 67 4 = some (4, 62) := by kernel_rfl
theorem fo67_5 : foOf Try.prog 67 5 = some (5, 65) := by kernel_rfl
theorem ff67_5 : ffOf Try.prog 67 5 = some (5, 65) := by kernel_rfl
theorem bv67 (parts : List (Nat × V)) : buildV Try.prog 67 parts = (fillV (fun i => ([(0, 1), (1, 1), (2, 1), (3, 1), (4, 1), (5, 48)] : List (Nat × Nat))[i]?) [.bool false, .int .i64 0, .int .i64 0, .nilptr, .nilmap, .int .u8 0, .int .i64 0, .nilslice, .int .u8 0, .int .i64 0, .nilslice, .int .u8 0, .int .i64 0, .nilslice, .int .u8 0, .int .i64 0, .nilslice, .int .u8 0, .int .i64 0, .nilslice, .int .u8 0, .int .i64 0, .nilslice, .int .u8 0, .int .i64 0, .nilslice, .int .u8 0, .int .i64 0, .nilslice, .int .u8 0, .int .i64 0, .nilslice, .int .u8 0, .int .i64 0, .nilslice, .int .u8 0, .int .i64 0, .nilslice, .int .u8 0, .int .i64 0, .nilslice, .int .u8 0, .int .i64 0, .nilslice, .int .u8 0, .int .i64 0, .nilslice, .int .u8 0, .int .i64 0, .nilslice, .int .u8 0, .int .i64 0, .nilslice] parts).map .agg := bv_of zc67 (by kernel_rfl) parts
theorem sz75 : sz Try.prog 75 = some 1 := by kernel_rfl
theorem zc75 : zeroCells Try.prog 75 = some [.nilfunc] := by kernel_rfl
theorem rd75 (cs : List V) (o : Nat) : readAt Try.prog 75 cs o = cs[o]? := rd_of Try.underlying75 sz75 rfl cs o
theorem sz89 : sz Try.prog 89 = some 1 := by kernel_rfl
theorem zc89 : zeroCells Try.prog 89 = some [.nilfunc] := by kernel_rfl
theorem rd89 (cs : List V) (o : Nat) : readAt Try.prog 89 cs o = cs[o]? := rd_of Try.underlying89 sz89 rfl cs o
end Go.Proofs.Ytebbgmeomkjibaa
end
