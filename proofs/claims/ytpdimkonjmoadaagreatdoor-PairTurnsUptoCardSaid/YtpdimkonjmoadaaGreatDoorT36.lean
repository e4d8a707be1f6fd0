/- This file holds in one the texts UB; each says at its head what it proves. -/
import Derived.Test.YtpdimkonjmoadaaGreatDoorT19
import Derived.Test.YtpdimkonjmoadaaGreatDoorRows
set_option linter.unusedSimpArgs false
set_option linter.unusedVariables false
namespace Go.Proofs.YtpdimkonjmoadaaGreatDoor
section
open Go.AM
theorem Qd9{H:Type}:∀l:List (DataW H),Rows.uptoBulkAll l=(l.map Rows.uptoBulk).sum
 |[]=>by simp[Rows.uptoBulkAll]
 |d::r=>by
  rw[Zp4,List.sum_cons,<-Qd9 r];simp[Rows.uptoBulkAll]
theorem Q6e{H:Type}:Bulk (H:=H) Rows.uptoBulk where
 one:=fun d=>by
  cases d with
  |lit l=>cases l<;>simp[Rows.uptoBulk]
  |_=>simp[Rows.uptoBulk]
 slice:=fun a b=>by rw[<-Qd9];simp only[Rows.uptoBulk];omega
 agg:=fun a=>by rw[<-Qd9];simp only[Rows.uptoBulk];omega
theorem Q0h{H:Type}{ds:List (DataW H)}(h:Rows.uptoSmall H ds=true):(ds.map Rows.uptoBulk).sum<=1048576:=by rw[<-Qd9];exact of_decide_eq_true h
end
end Go.Proofs.YtpdimkonjmoadaaGreatDoor
