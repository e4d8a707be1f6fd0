/-
  No cell of these rows narrows 'for every input' (looked for: loops, veiled, ifaces, maps, wideKeys, modest, calm, conditions, laid).
  DERIVED. THE GIVEN ROWS OF THIS SEAT. 4 by the template 'for every input the law returns true; each argument reads behind the call as it read before'; 0 by the template 'total and deterministic' (their statements: YtebbgmeomkjibaaTotals.lean).
  GIVEN WITH THE SEED: the statements are not yours to turn. If you find one false, say at which input.
  Laid BY PROGRAM, IN A SANDBOX (cutbox-rows.mjs): the forced cells as the released guide's own fill.sh prints them over the translation 541df1aa53ec54ef… (all of the seat's roots in one cut). By AI agents, Wed Nov 11 2026. No macro, syntax, notation, axiom, sorry.
-/
import Derived.Test.YtebbgmeomkjibaaChecked
import GoSem.Claim
import GoSem.ClaimJoined
import GoSem.ClaimMapViews
import Derived.JoinedTies
import Derived.KernelRfl
namespace Go.Proofs.Ytebbgmeomkjibaa
/- THE CELL 'sum', in the pinned program and in every row, IS THE sha256 OF THE DUMP (.gsa) THAT YtebbgmeomkjibaaProg.lean LOADS. Nothing in Lean hashes anything: it is a label: what it is worth is what the hold of that sum in a sandbox is worth. -/
noncomputable def Try.pinned : Pinned := { name := "ytebbgmeomkjibaa", sum := "541df1aa53ec54ef393bff5626def647bc7c8c0e2b31bbfbd66140bfc3e6519a", checked := Try.checked }
namespace Rows
def none {H : Type} : Left H := { results := [], args := [] }

/-- 'charterhouselaw26.ModelNames': WHATEVER THE INPUT: true; the input reads as it did. -/
def modelNamesSpec : ChangeSpec := { name := "modelNames", fn := fun _ => fun
  | [] => { results := [.lit (.bool true)], args := [] }
  | _ => none }
def modelNamesRow : OpenClaim := { program := "ytebbgmeomkjibaa", sum := "541df1aa53ec54ef393bff5626def647bc7c8c0e2b31bbfbd66140bfc3e6519a", func := "charterhouse/charterhouselaw26.ModelNames", spec := "modelNames", inPlace := ["maps.clone"], unfollowed := true, recurses := true, apart := false }
def ModelNamesSaid : Prop := modelNamesRow.holds Try.pinned (OpenSpec.ofChange modelNamesSpec)

/-- ITS FALSE NEIGHBOUR: 'it returns false'. Refute it at one input. -/
def modelNamesWrong : ChangeSpec := { name := "modelNames", fn := fun _ => fun
  | [] => { results := [.lit (.bool false)], args := [] }
  | _ => none }
def ModelNamesWrongFalsely : Prop := modelNamesRow.holds Try.pinned (OpenSpec.ofChange modelNamesWrong)

/-- 'charterhouselaw26.ModelOn': WHATEVER THE INPUT: true; the input reads as it did. -/
def modelOnSpec : ChangeSpec := { name := "modelOn", fn := fun _ => fun
  | [d1, d2] => { results := [.lit (.bool true)], args := [d1, d2] }
  | _ => none }
def modelOnRow : OpenClaim := { program := "ytebbgmeomkjibaa", sum := "541df1aa53ec54ef393bff5626def647bc7c8c0e2b31bbfbd66140bfc3e6519a", func := "charterhouse/charterhouselaw26.ModelOn", spec := "modelOn", inPlace := ["maps.clone"], unfollowed := true, recurses := true, apart := false }
def ModelOnSaid : Prop := modelOnRow.holds Try.pinned (OpenSpec.ofChange modelOnSpec)

/-- ITS FALSE NEIGHBOUR: 'it returns false'. Refute it at one input. -/
def modelOnWrong : ChangeSpec := { name := "modelOn", fn := fun _ => fun
  | [d1, d2] => { results := [.lit (.bool false)], args := [d1, d2] }
  | _ => none }
def ModelOnWrongFalsely : Prop := modelOnRow.holds Try.pinned (OpenSpec.ofChange modelOnWrong)

/-- 'charterhouselaw26.ModelStays': WHATEVER THE INPUT: true; the input reads as it did. -/
def modelStaysSpec : ChangeSpec := { name := "modelStays", fn := fun _ => fun
  | [d1, d2, d3] => { results := [.lit (.bool true)], args := [d1, d2, d3] }
  | _ => none }
def modelStaysRow : OpenClaim := { program := "ytebbgmeomkjibaa", sum := "541df1aa53ec54ef393bff5626def647bc7c8c0e2b31bbfbd66140bfc3e6519a", func := "charterhouse/charterhouselaw26.ModelStays", spec := "modelStays", inPlace := ["maps.clone"], unfollowed := true, recurses := true, apart := false }
def ModelStaysSaid : Prop := modelStaysRow.holds Try.pinned (OpenSpec.ofChange modelStaysSpec)

/-- ITS FALSE NEIGHBOUR: 'it returns false'. Refute it at one input. -/
def modelStaysWrong : ChangeSpec := { name := "modelStays", fn := fun _ => fun
  | [d1, d2, d3] => { results := [.lit (.bool false)], args := [d1, d2, d3] }
  | _ => none }
def ModelStaysWrongFalsely : Prop := modelStaysRow.holds Try.pinned (OpenSpec.ofChange modelStaysWrong)

/-- 'charterhouselaw26.ModelGone': WHATEVER THE INPUT: true; the input reads as it did. -/
def modelGoneSpec : ChangeSpec := { name := "modelGone", fn := fun _ => fun
  | [d] => { results := [.lit (.bool true)], args := [d] }
  | _ => none }
def modelGoneRow : OpenClaim := { program := "ytebbgmeomkjibaa", sum := "541df1aa53ec54ef393bff5626def647bc7c8c0e2b31bbfbd66140bfc3e6519a", func := "charterhouse/charterhouselaw26.ModelGone", spec := "modelGone", inPlace := ["maps.clone"], unfollowed := true, recurses := true, apart := false }
def ModelGoneSaid : Prop := modelGoneRow.holds Try.pinned (OpenSpec.ofChange modelGoneSpec)

/-- ITS FALSE NEIGHBOUR: 'it returns false'. Refute it at one input. -/
def modelGoneWrong : ChangeSpec := { name := "modelGone", fn := fun _ => fun
  | [d] => { results := [.lit (.bool false)], args := [d] }
  | _ => none }
def ModelGoneWrongFalsely : Prop := modelGoneRow.holds Try.pinned (OpenSpec.ofChange modelGoneWrong)

/- THE SECOND FORM. 'bulk': how many values and letters a reading holds, each counted each time it is reached (what is shared counts as often as it is met; a slice's spare places count too). A statement '..UptoSaid' is the law's where the arguments, and the package variables that the reading takes, are together of bulk at most 1048576: NARROWER than '..Said'. Prove '..Said' where nothing that the law and all that it calls make is longer than what came in: it says more and counts as full. Else prove '..UptoSaid'. A law counts once. -/
mutual
def uptoBulk {H : Type} : DataW H → Nat
  | .lit (.string bytes) => bytes.length + 1
  | .lit _ => 1
  | .nil => 1
  | .ptr d => uptoBulk d + 1
  | .slice elems spare => uptoBulkAll elems + uptoBulkAll spare + 1
  | .agg parts => uptoBulkAll parts + 1
  | .iface _ d => uptoBulk d + 1
  | .map entries => uptoBulkEntries entries + 1
  | .held _ => 1
def uptoBulkAll {H : Type} : List (DataW H) → Nat
  | [] => 0
  | d :: r => uptoBulk d + uptoBulkAll r
def uptoBulkEntries {H : Type} : List (Lit × DataW H) → Nat
  | [] => 0
  | x :: r => uptoBulkEntry x + uptoBulkEntries r
def uptoBulkEntry {H : Type} : Lit × DataW H → Nat
  | (.string bytes, d) => bytes.length + uptoBulk d + 1
  | (_, d) => uptoBulk d + 1
 end
def uptoSmall : (H : Type) → List (DataW H) → Bool := fun _ ds => decide (uptoBulkAll ds ≤ 1048576)
def OpenSpec.upto (s : _root_.Go.ChangeSpec) : _root_.Go.OpenSpec := { _root_.Go.OpenSpec.ofChange s with cond := some uptoSmall }

/-- 'charterhouselaw26.ModelNames', WHERE WHAT IT READS IS OF BULK AT MOST 1048576: true; the input reads as it did. -/
def modelNamesUptoRow : OpenClaim := { program := "ytebbgmeomkjibaa", sum := "541df1aa53ec54ef393bff5626def647bc7c8c0e2b31bbfbd66140bfc3e6519a", func := "charterhouse/charterhouselaw26.ModelNames", spec := "modelNames", inPlace := ["maps.clone"], unfollowed := true, recurses := true, apart := false, narrowed := true }
def ModelNamesUptoSaid : Prop := modelNamesUptoRow.holds Try.pinned (OpenSpec.upto modelNamesSpec)

/-- 'charterhouselaw26.ModelOn', WHERE WHAT IT READS IS OF BULK AT MOST 1048576: true; the input reads as it did. -/
def modelOnUptoRow : OpenClaim := { program := "ytebbgmeomkjibaa", sum := "541df1aa53ec54ef393bff5626def647bc7c8c0e2b31bbfbd66140bfc3e6519a", func := "charterhouse/charterhouselaw26.ModelOn", spec := "modelOn", inPlace := ["maps.clone"], unfollowed := true, recurses := true, apart := false, narrowed := true }
def ModelOnUptoSaid : Prop := modelOnUptoRow.holds Try.pinned (OpenSpec.upto modelOnSpec)

/-- 'charterhouselaw26.ModelStays', WHERE WHAT IT READS IS OF BULK AT MOST 1048576: true; the input reads as it did. -/
def modelStaysUptoRow : OpenClaim := { program := "ytebbgmeomkjibaa", sum := "541df1aa53ec54ef393bff5626def647bc7c8c0e2b31bbfbd66140bfc3e6519a", func := "charterhouse/charterhouselaw26.ModelStays", spec := "modelStays", inPlace := ["maps.clone"], unfollowed := true, recurses := true, apart := false, narrowed := true }
def ModelStaysUptoSaid : Prop := modelStaysUptoRow.holds Try.pinned (OpenSpec.upto modelStaysSpec)

/-- 'charterhouselaw26.ModelGone', WHERE WHAT IT READS IS OF BULK AT MOST 1048576: true; the input reads as it did. -/
def modelGoneUptoRow : OpenClaim := { program := "ytebbgmeomkjibaa", sum := "541df1aa53ec54ef393bff5626def647bc7c8c0e2b31bbfbd66140bfc3e6519a", func := "charterhouse/charterhouselaw26.ModelGone", spec := "modelGone", inPlace := ["maps.clone"], unfollowed := true, recurses := true, apart := false, narrowed := true }
def ModelGoneUptoSaid : Prop := modelGoneUptoRow.holds Try.pinned (OpenSpec.upto modelGoneSpec)

end Rows
end Go.Proofs.Ytebbgmeomkjibaa
