/- This file holds in one the texts DYd; each says at its head what it proves. -/
import Derived.Test.YtafhcdagifopeaaGreatDoorT46
set_option linter.unusedSimpArgs false
set_option linter.unusedVariables false
section
/- DirNames: the law comes to true. -/
namespace Go.Proofs.YtafhcdagifopeaaGreatDoor
open Go.AM Go.AM.BM
set_option maxRecDepth 1000000

noncomputable def K2 : FuncId → Option PrimL := fun f => match f with
  | 5 => some (memoL (constK rone))
  | 10 => some (memoL (constK ralive))
  | _ => none
theorem K2_ok : ∀ f g, K2 f = some g → PrimOk Tryz.prog f g := by
  intro f g h
  simp only [K2] at h
  split at h <;> cases h
  · exact const_ok ans_one
  · exact const_ok ans_alive
noncomputable abbrev polL : BM.Pol := polC K2
theorem okL : BM.Okay Tryz.prog polL := okC K2_ok
theorem names_run : isTrue (fcall Tryz.prog polL 1000 (some 3) [] F0) = true := by kernel_rfl
end Go.Proofs.YtafhcdagifopeaaGreatDoor
end
