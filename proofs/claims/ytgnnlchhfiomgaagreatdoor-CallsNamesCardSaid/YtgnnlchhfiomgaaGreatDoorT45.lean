/- This file holds closed facts of the card of CallsNames, one by one. -/
import Derived.Test.YtgnnlchhfiomgaaGreatDoorCards
import Derived.Test.YtgnnlchhfiomgaaGreatDoorTie
import Derived.KernelRfl
namespace Go.Proofs.YtgnnlchhfiomgaaGreatDoor
def gG (F : Func) : Bool := !F.goes
theorem goes_by {P : Program} {c : OpenClaim} (h : P.funcs.all gG = true) (hs : c.start = .entering) : false = c.goesBy P := by
  have e1 : ∀ F ∈ P.funcs, F.goes = false := fun F hF => by
    have := Array.all_eq_true_iff_forall_mem.1 h F hF
    simpa [gG] using this
  have g0 : ∀ f, P.goes f = false := fun f => by
    unfold Program.goes
    rw [Bool.or_eq_false_iff]
    constructor
    · rw [List.any_eq_false]
      intro g _ hg
      cases hF : P.funcs[g]? with
      | none => rw [hF] at hg; cases hg
      | some F =>
        rw [hF] at hg
        have := e1 F (Array.mem_of_getElem? hF)
        simp only [Option.any_some] at hg
        rw [this] at hg; cases hg
    · rw [Bool.and_eq_false_iff]
      refine .inr ?_
      rw [← Array.any_toList, List.any_eq_false]
      intro F hF
      simp [e1 F (Array.mem_toList_iff.1 hF)]
  unfold OpenClaim.goesBy Program.goesAt Program.goesFrom
  rw [hs]
  cases P.funcNamed c.func with
  | none => rfl
  | some f => simp [g0]
theorem goes_all : Tryz.prog.funcs.all gG = true := by kernel_rfl
theorem callsNames_k1 : Rows.callsNamesRow.wfByText (OpenSpec.ofChange Rows.callsNamesSpec) = true := by kernel_rfl
theorem callsNames_k2 : Tryz.prog.mainIs = some (true, "3a385ab0e0decc68f70a81995295ba061ed894ac36a5b6a070e06cba5732618a".toList) := by kernel_rfl
theorem callsNames_k3 : Tryz.prog.funcNamed "charterhouse/charterhouselaw27.CallsNames" = some 3 := by kernel_rfl
theorem callsNames_k4 : true = Tryz.prog.looks [] := by kernel_rfl
theorem callsNames_k5 : false = Rows.callsNamesRow.goesBy Tryz.prog := goes_by goes_all rfl
end Go.Proofs.YtgnnlchhfiomgaaGreatDoor
