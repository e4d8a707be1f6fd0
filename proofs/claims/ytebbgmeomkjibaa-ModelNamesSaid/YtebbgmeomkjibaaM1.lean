/- model: the policy for closed runs, and what is taken of the program. -/
import Derived.Test.YtebbgmeomkjibaaChecked
import Derived.Test.YtebbgmeomkjibaaAm26
import Derived.Test.YtebbgmeomkjibaaAm36
set_option linter.unusedSimpArgs false
set_option linter.unusedVariables false
namespace Go.Proofs.Ytebbgmeomkjibaa
open Go.AM

def polN : Pol where
  pure := fun _ _ => false
  mt := fun f s => [(3, 12), (9, 6), (54, 7)].contains (f, s)
  keep := fun f r => if f = 7 then (if r = 6 then some ([4, 5, 14, 15, 16], [7]) else none)
    else if f = 42 then (if r = 4 then some ([0, 3, 14], []) else none)
    else if f = 46 then (if r = 3 then some ([0, 1, 5, 6, 7, 8], []) else none)
    else if f = 53 then (if r = 2 then some ([0, 1, 8], []) else none)
    else if f = 60 then (if r = 2 then some ([0, 1, 7, 8], []) else none)
    else none
  lift := fun _ g => g == 14 || g == 15
  look := fun _ g => g == 54
  prim := fun f => if f = 68 then some primClone else none

theorem xClone : IsExtern Try.prog 68 Extern.MapsClone.clone := ⟨Try.f68, Try.func68, by kernel_rfl, by kernel_rfl, by kernel_rfl, by kernel_rfl⟩
theorem draws_all : (Try.prog.funcs.all fun F => match F.body with | some c => drawsC c | none => true) = true := by kernel_rfl
theorem num_all : (Try.prog.funcs.all fun F => F.body.isNone || !(F.name == "runtime.NumGoroutine")) = true := by kernel_rfl

theorem okN : Okay Try.prog polN where
  mixed := Try.checked.mixed
  draws := fun f F c hF hc => by
    have := Array.all_eq_true_iff_forall_mem.1 draws_all F (Array.mem_of_getElem? hF)
    rwa [hc] at this
  num := fun f F hF hb => by
    have := Array.all_eq_true_iff_forall_mem.1 num_all F (Array.mem_of_getElem? hF)
    cases hn : F.body with
    | none => rw [hn] at hb; cases hb
    | some c => rw [hn] at this; simpa using this
  prim := fun f g hg B F H E fr dst args cargs v x S hlt hr h => by
    simp only [polN] at hg
    split at hg
    · rename_i hf; subst hf; cases hg
      exact sound_clone xClone S hlt hr h
    · cases hg

end Go.Proofs.Ytebbgmeomkjibaa
