/- This file holds in one the texts DYf; each says at its head what it proves. -/
import Derived.Test.YtafhcdagifopeaaGreatDoorT28
import Derived.Test.YtafhcdagifopeaaGreatDoorT40
set_option linter.unusedSimpArgs false
set_option linter.unusedVariables false
namespace Go.Proofs.YtafhcdagifopeaaGreatDoor
section
open Go.AM Go.AM.BM
set_option maxRecDepth 1000000
noncomputable def K6 : FuncId -> Option Qa8 := fun f => match f with
 | 12 => some (Xc (Qa5 Qvt))
 | 18 => some (Xc (Qa5 Qha))
 | 13 => some (Xc (Qen [(apt, rpt), (all, rll)]))
 | 16 => some (Xc (Qen [(alk, rlk)]))
 | 17 => some (Xc (Qen [(aul, rul)]))
 | _ => none
theorem K6_ok : ∀ f g, K6 f = some g -> B5 Tryz.prog f g := by
 intro f g h
 simp only [K6] at h
 split at h <;> cases h
 . exact K7 Qf2
 . exact K7 Qdd
 . refine Qdy (fun e he => ?_)
   simp only [Zjf, Zka, or_false] at he
   rcases he with rfl | rfl
   . exact ⟨Qsz, Qqo⟩
   . exact ⟨Qxa, Qxp⟩
 . refine Qdy (fun e he => ?_)
   simp only [Zjf, Zka, or_false] at he
   rcases he with rfl
   . exact ⟨Q2b, Q4n⟩
 . refine Qdy (fun e he => ?_)
   simp only [Zjf, Zka, or_false] at he
   rcases he with rfl
   . exact ⟨pur_ul, ans_ul⟩
noncomputable abbrev polL : BM.Pol := Qi6 K6
theorem okL : BM.Okay Tryz.prog polL := okC K6_ok
theorem names_run : isTrue (Qcf Tryz.prog polL 1000 (some 4) [] F0) = true := by kernel_rfl
end
end Go.Proofs.YtafhcdagifopeaaGreatDoor
