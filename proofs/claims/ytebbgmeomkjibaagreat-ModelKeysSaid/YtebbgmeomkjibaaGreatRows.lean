/-
  No cell of these rows narrows 'for every input' (looked for: loops, veiled, ifaces, maps, wideKeys, modest, calm, conditions, laid).
  DERIVED. THE GIVEN ROWS OF THIS SEAT. 4 by the template 'for every input the law returns true; each argument reads behind the call as it read before'; 0 by the template 'total and deterministic' (their statements: YtebbgmeomkjibaaGreatTotals.lean).
  GIVEN WITH THE SEED: the statements are not yours to turn. If you find one false, say at which input.
  Laid BY PROGRAM, IN A SANDBOX (cutbox-rows.mjs): the forced cells as the released guide's own fill.sh prints them over the translation 1f6cf40e6b5a7900… (all of the seat's roots in one cut). By AI agents, Wed Nov 11 2026. No macro, syntax, notation, axiom, sorry.
-/
import Derived.Test.YtebbgmeomkjibaaGreatChecked
import GoSem.Claim
import GoSem.ClaimJoined
import GoSem.ClaimMapViews
import Derived.JoinedTies
import Derived.KernelRfl
namespace Go.Proofs.YtebbgmeomkjibaaGreat
/- THE CELL 'sum', in the pinned program and in every row, IS THE sha256 OF THE DUMP (.gsa) THAT YtebbgmeomkjibaaGreatProg.lean LOADS. Nothing in Lean hashes anything: it is a label: what it is worth is what the hold of that sum in a sandbox is worth. -/
noncomputable def Tryz.pinned : Pinned := { name := "ytebbgmeomkjibaagreat", sum := "1f6cf40e6b5a7900bf3a3e7802f35e5d13afd24404f9f1c5486612e39b4603bf", checked := Tryz.checked }
namespace Rows
def none {H : Type} : Left H := { results := [], args := [] }

/-- 'charterhouselaw26.ModelIdle': WHATEVER THE INPUT: true; the input reads as it did. -/
def modelIdleSpec : ChangeSpec := { name := "modelIdle", fn := fun _ => fun
  | [d] => { results := [.lit (.bool true)], args := [d] }
  | _ => none }
def modelIdleRow : OpenClaim := { program := "ytebbgmeomkjibaagreat", sum := "1f6cf40e6b5a7900bf3a3e7802f35e5d13afd24404f9f1c5486612e39b4603bf", func := "charterhouse/charterhouselaw26.ModelIdle", spec := "modelIdle", inPlace := ["maps.clone"], unfollowed := true, recurses := true, apart := false }
def ModelIdleSaid : Prop := modelIdleRow.holds Tryz.pinned (OpenSpec.ofChange modelIdleSpec)

/-- ITS FALSE NEIGHBOUR: 'it returns false'. Refute it at one input. -/
def modelIdleWrong : ChangeSpec := { name := "modelIdle", fn := fun _ => fun
  | [d] => { results := [.lit (.bool false)], args := [d] }
  | _ => none }
def ModelIdleWrongFalsely : Prop := modelIdleRow.holds Tryz.pinned (OpenSpec.ofChange modelIdleWrong)

/-- 'charterhouselaw26.ModelCopies': WHATEVER THE INPUT: true; the input reads as it did. -/
def modelCopiesSpec : ChangeSpec := { name := "modelCopies", fn := fun _ => fun
  | [d1, d2, d3] => { results := [.lit (.bool true)], args := [d1, d2, d3] }
  | _ => none }
def modelCopiesRow : OpenClaim := { program := "ytebbgmeomkjibaagreat", sum := "1f6cf40e6b5a7900bf3a3e7802f35e5d13afd24404f9f1c5486612e39b4603bf", func := "charterhouse/charterhouselaw26.ModelCopies", spec := "modelCopies", inPlace := ["maps.clone"], unfollowed := true, recurses := true, apart := false }
def ModelCopiesSaid : Prop := modelCopiesRow.holds Tryz.pinned (OpenSpec.ofChange modelCopiesSpec)

/-- ITS FALSE NEIGHBOUR: 'it returns false'. Refute it at one input. -/
def modelCopiesWrong : ChangeSpec := { name := "modelCopies", fn := fun _ => fun
  | [d1, d2, d3] => { results := [.lit (.bool false)], args := [d1, d2, d3] }
  | _ => none }
def ModelCopiesWrongFalsely : Prop := modelCopiesRow.holds Tryz.pinned (OpenSpec.ofChange modelCopiesWrong)

/-- 'charterhouselaw26.ModelKeys': WHATEVER THE INPUT: true; the input reads as it did. -/
def modelKeysSpec : ChangeSpec := { name := "modelKeys", fn := fun _ => fun
  | [d1, d2, d3] => { results := [.lit (.bool true)], args := [d1, d2, d3] }
  | _ => none }
def modelKeysRow : OpenClaim := { program := "ytebbgmeomkjibaagreat", sum := "1f6cf40e6b5a7900bf3a3e7802f35e5d13afd24404f9f1c5486612e39b4603bf", func := "charterhouse/charterhouselaw26.ModelKeys", spec := "modelKeys", inPlace := ["maps.clone"], unfollowed := true, recurses := true, apart := false }
def ModelKeysSaid : Prop := modelKeysRow.holds Tryz.pinned (OpenSpec.ofChange modelKeysSpec)

/-- ITS FALSE NEIGHBOUR: 'it returns false'. Refute it at one input. -/
def modelKeysWrong : ChangeSpec := { name := "modelKeys", fn := fun _ => fun
  | [d1, d2, d3] => { results := [.lit (.bool false)], args := [d1, d2, d3] }
  | _ => none }
def ModelKeysWrongFalsely : Prop := modelKeysRow.holds Tryz.pinned (OpenSpec.ofChange modelKeysWrong)

/-- 'charterhouselaw26.ModelPlays': WHATEVER THE INPUT: true; the input reads as it did. -/
def modelPlaysSpec : ChangeSpec := { name := "modelPlays", fn := fun _ => fun
  | [d1, d2] => { results := [.lit (.bool true)], args := [d1, d2] }
  | _ => none }
def modelPlaysRow : OpenClaim := { program := "ytebbgmeomkjibaagreat", sum := "1f6cf40e6b5a7900bf3a3e7802f35e5d13afd24404f9f1c5486612e39b4603bf", func := "charterhouse/charterhouselaw26.ModelPlays", spec := "modelPlays", inPlace := ["maps.clone"], unfollowed := true, recurses := true, apart := false }
def ModelPlaysSaid : Prop := modelPlaysRow.holds Tryz.pinned (OpenSpec.ofChange modelPlaysSpec)

/-- ITS FALSE NEIGHBOUR: 'it returns false'. Refute it at one input. -/
def modelPlaysWrong : ChangeSpec := { name := "modelPlays", fn := fun _ => fun
  | [d1, d2] => { results := [.lit (.bool false)], args := [d1, d2] }
  | _ => none }
def ModelPlaysWrongFalsely : Prop := modelPlaysRow.holds Tryz.pinned (OpenSpec.ofChange modelPlaysWrong)

/- THE SECOND FORM. 'bulk': how many values and letters a reading holds, each counted each time it is reached (what is shared counts as often as it is met; a slice's spare places count too). A statement '..UptoSaid' is the law's where the arguments, and the package variables that the reading takes, are together of bulk at most 1048576: NARROWER than '..Said'. Prove '..Said' where nothing that the law and all that it calls make is longer than what came in: it says more and counts as full. Else prove '..UptoSaid'. A law counts once. -/
mutual
def uptoBulk {H : Type} : DataW H → Nat
  | .lit (.string bytes) => bytes.length + 1
  | .lit _ => 1
  | .nil => 1
  | .ptr d => uptoBulk d + 1
  | .slice elems spare => uptoBulkAll elems + uptoBulkAll spare + 1
  | .agg parts => uptoBulkAll parts + 1
  | .iface _ d => uptoBulk d + 1
  | .map entries => uptoBulkEntries entries + 1
  | .held _ => 1
def uptoBulkAll {H : Type} : List (DataW H) → Nat
  | [] => 0
  | d :: r => uptoBulk d + uptoBulkAll r
def uptoBulkEntries {H : Type} : List (Lit × DataW H) → Nat
  | [] => 0
  | x :: r => uptoBulkEntry x + uptoBulkEntries r
def uptoBulkEntry {H : Type} : Lit × DataW H → Nat
  | (.string bytes, d) => bytes.length + uptoBulk d + 1
  | (_, d) => uptoBulk d + 1
 end
def uptoSmall : (H : Type) → List (DataW H) → Bool := fun _ ds => decide (uptoBulkAll ds ≤ 1048576)
def OpenSpec.upto (s : _root_.Go.ChangeSpec) : _root_.Go.OpenSpec := { _root_.Go.OpenSpec.ofChange s with cond := some uptoSmall }

/-- 'charterhouselaw26.ModelIdle', WHERE WHAT IT READS IS OF BULK AT MOST 1048576: true; the input reads as it did. -/
def modelIdleUptoRow : OpenClaim := { program := "ytebbgmeomkjibaagreat", sum := "1f6cf40e6b5a7900bf3a3e7802f35e5d13afd24404f9f1c5486612e39b4603bf", func := "charterhouse/charterhouselaw26.ModelIdle", spec := "modelIdle", inPlace := ["maps.clone"], unfollowed := true, recurses := true, apart := false, narrowed := true }
def ModelIdleUptoSaid : Prop := modelIdleUptoRow.holds Tryz.pinned (OpenSpec.upto modelIdleSpec)

/-- 'charterhouselaw26.ModelCopies', WHERE WHAT IT READS IS OF BULK AT MOST 1048576: true; the input reads as it did. -/
def modelCopiesUptoRow : OpenClaim := { program := "ytebbgmeomkjibaagreat", sum := "1f6cf40e6b5a7900bf3a3e7802f35e5d13afd24404f9f1c5486612e39b4603bf", func := "charterhouse/charterhouselaw26.ModelCopies", spec := "modelCopies", inPlace := ["maps.clone"], unfollowed := true, recurses := true, apart := false, narrowed := true }
def ModelCopiesUptoSaid : Prop := modelCopiesUptoRow.holds Tryz.pinned (OpenSpec.upto modelCopiesSpec)

/-- 'charterhouselaw26.ModelKeys', WHERE WHAT IT READS IS OF BULK AT MOST 1048576: true; the input reads as it did. -/
def modelKeysUptoRow : OpenClaim := { program := "ytebbgmeomkjibaagreat", sum := "1f6cf40e6b5a7900bf3a3e7802f35e5d13afd24404f9f1c5486612e39b4603bf", func := "charterhouse/charterhouselaw26.ModelKeys", spec := "modelKeys", inPlace := ["maps.clone"], unfollowed := true, recurses := true, apart := false, narrowed := true }
def ModelKeysUptoSaid : Prop := modelKeysUptoRow.holds Tryz.pinned (OpenSpec.upto modelKeysSpec)

/-- 'charterhouselaw26.ModelPlays', WHERE WHAT IT READS IS OF BULK AT MOST 1048576: true; the input reads as it did. -/
def modelPlaysUptoRow : OpenClaim := { program := "ytebbgmeomkjibaagreat", sum := "1f6cf40e6b5a7900bf3a3e7802f35e5d13afd24404f9f1c5486612e39b4603bf", func := "charterhouse/charterhouselaw26.ModelPlays", spec := "modelPlays", inPlace := ["maps.clone"], unfollowed := true, recurses := true, apart := false, narrowed := true }
def ModelPlaysUptoSaid : Prop := modelPlaysUptoRow.holds Tryz.pinned (OpenSpec.upto modelPlaysSpec)

end Rows
end Go.Proofs.YtebbgmeomkjibaaGreat
