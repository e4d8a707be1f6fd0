/- This file holds in one the texts DYdb; each says at its head what it proves. -/
import Derived.Test.YtafhcdagifopeaaGreatDoorT45
set_option linter.unusedSimpArgs false
set_option linter.unusedVariables false
section
/- DirNames: what is reckoned ahead: alive. -/
namespace Go.Proofs.YtafhcdagifopeaaGreatDoor
open Go.AM Go.AM.BM
set_option maxRecDepth 1000000
noncomputable def ralive_0 : V := (.bool true)
noncomputable abbrev ralive : V := ralive_0
noncomputable def aalive : List V := []
noncomputable def K1 : FuncId → Option PrimL := fun f => match f with
  | 5 => some (memoL (constK rone))
  | _ => none
theorem K1_ok : ∀ f g, K1 f = some g → PrimOk Tryz.prog f g := by
  intro f g h
  simp only [K1] at h
  split at h <;> cases h
  · exact const_ok ans_one
theorem run_alive : ansF (fcall Tryz.prog (polC K1) 1000 (some 10) aalive F0) = some ralive := by kernel_rfl
theorem ans_alive : Ans Tryz.prog 10 aalive ralive := ans_of_run (okC K1_ok) (nlC _) run_alive (by kernel_rfl)
end Go.Proofs.YtafhcdagifopeaaGreatDoor
end
