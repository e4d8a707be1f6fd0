/- space: the program's policy, and what is taken of the program. -/
import Derived.Test.YtpbhldhmjmfigaaDoorTie
import Derived.Test.YtpbhldhmjmfigaaDoorAm26
set_option linter.unusedSimpArgs false
set_option linter.unusedVariables false
namespace Go.Proofs.YtpbhldhmjmfigaaDoor
open Go.AM

def pol : Pol where
  pure := fun f g => g ∉ [22, 24, 25, 26, 27, 34, 37] && !(f == 4 && [10, 11, 12].contains g)
  mt := fun f s => [(26, 7), (32, 9), (33, 6), (37, 25)].contains (f, s)
  keep := fun f r => match f, r with
    | 5, 9 => some ([0, 1, 2, 7, 8, 9, 11], [])
    | 5, 18 => some ([0, 1, 2, 7, 14, 15], [])
    | 5, 29 => some ([0, 1, 7, 19, 20, 21, 22, 23, 24], [])
    | 7, 10 => some ([0, 1, 5, 10, 12], [])
    | 8, 6 => some ([2, 5, 6], [])
    | 19, 4 => some ([0, 1, 5], [])
    | 21, 3 => some ([1, 2], [])
    | 22, 1 => some ([0, 2], [])
    | 23, 3 => some ([0, 2, 3, 4], [])
    | 25, 18 => some ([7, 8, 9, 10], [])
    | 28, 5 => some ([0, 3, 4], [])
    | 29, 6 => some ([0, 1, 5], [])
    | 30, 4 => some ([0, 3], [])
    | 31, 3 => some ([0, 3, 4], [])
    | 33, 3 => some ([3, 4], [])
    | 34, 2 => some ([0, 1], [])
    | 37, 13 => some ([0, 1, 2, 10, 11, 12, 48, 49], [])
    | 37, 21 => some ([0, 2, 10, 11, 12, 88, 89], [])
    | 38, 3 => some ([0, 3, 4], [])
    | 40, 20 => some ([0, 1, 5, 6, 7, 8, 9, 10], [])
    | 40, 41 => some ([0, 1, 5, 13, 14, 15, 16, 17], [])
    | 43, 2 => some ([0, 6, 7, 8], [])
    | 44, 2 => some ([2, 4], [])
    | 49, 5 => some ([0, 1, 5, 6, 7, 8, 9], [])
    | 49, 11 => some ([0, 1, 5, 6, 7, 8, 10], [])
    | 52, 3 => some ([0, 4, 5], [])
    | 52, 8 => some ([4, 6, 7, 8], [])
    | _, _ => none
  thin := fun f g => f == 4 && [10, 11, 12].contains g
  prim := fun f => if f = 36 then some primMake else if f = 39 then some primCount else if f = 51 then some primIndexByte else none

theorem x36 : IsExtern Tryd.prog 36 (Extern.BytealgMakeNoZero.makeNoZero Tryd.f36.params Tryd.f36.resultTypes) := ⟨Tryd.f36, Tryd.func36, by kernel_rfl, by kernel_rfl, by kernel_rfl, by kernel_rfl⟩
theorem x39 : IsExtern Tryd.prog 39 Extern.BytealgCount.count := ⟨Tryd.f39, Tryd.func39, by kernel_rfl, by kernel_rfl, by kernel_rfl, by kernel_rfl⟩

theorem x51 : IsExtern Tryd.prog 51 Extern.BytealgIndexByte.indexByte := ⟨Tryd.f51, Tryd.func51, by kernel_rfl, by kernel_rfl, by kernel_rfl, by kernel_rfl⟩

theorem draws_all : (Tryd.prog.funcs.all fun F => match F.body with | some c => drawsC c | none => true) = true := by kernel_rfl
theorem num_all : (Tryd.prog.funcs.all fun F => F.body.isNone || !(F.name == "runtime.NumGoroutine")) = true := by kernel_rfl

theorem ok : Okay Tryd.prog pol where
  mixed := Tryd.checked.mixed
  draws := fun f F c hF hc => by
    have := Array.all_eq_true_iff_forall_mem.1 draws_all F (Array.mem_of_getElem? hF)
    rwa [hc] at this
  num := fun f F hF hb => by
    have := Array.all_eq_true_iff_forall_mem.1 num_all F (Array.mem_of_getElem? hF)
    cases hn : F.body with
    | none => rw [hn] at hb; cases hb
    | some c => rw [hn] at this; simpa using this
  prim := fun f g hg B F H E fr dst args cargs v x S hlt hr h => by
    simp only [pol] at hg
    split at hg
    · rename_i hf; subst hf; cases hg
      exact sound_make x36 (e := 5) (by kernel_rfl) S hlt hr h
    · split at hg
      · rename_i hf; subst hf; cases hg
        exact sound_count x39 S hr h
      · split at hg
        · rename_i hf; subst hf; cases hg
          exact sound_indexByte x51 S hr h
        · cases hg

end Go.Proofs.YtpbhldhmjmfigaaDoor
