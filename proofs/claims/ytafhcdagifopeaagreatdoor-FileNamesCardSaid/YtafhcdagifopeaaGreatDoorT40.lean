/- This file holds in one the texts DYfb, DYfc, DYfd, DYfe, DYff; each says at its head what it proves. -/
import Derived.Test.YtafhcdagifopeaaGreatDoorT28
import Derived.Test.YtafhcdagifopeaaGreatDoorT39
set_option linter.unusedSimpArgs false
set_option linter.unusedVariables false
namespace Go.Proofs.YtafhcdagifopeaaGreatDoor
section
open Go.AM Go.AM.BM
set_option maxRecDepth 1000000
noncomputable def Q2f : V := (.bool true)
noncomputable abbrev Qha : V := Q2f
noncomputable def Q39 : List V := []
noncomputable def K1 : FuncId -> Option Qa8 := fun f => match f with
 | 12 => some (Xc (Qa5 Qvt))
 | _ => none
theorem K1_ok : ∀ f g, K1 f = some g -> B5 Tryz.prog f g := by
 intro f g h
 simp only [K1] at h
 split at h <;> cases h
 . exact K7 Qf2
theorem Qzu : Qr6 (Qcf Tryz.prog (Qi6 K1) 1000 (some 18) Q39 F0) = some Qha := by kernel_rfl
theorem Qdd : Ans Tryz.prog 18 Q39 Qha := B6 (okC K1_ok) (nlC _) Qzu (by kernel_rfl)
end
section
open Go.AM Go.AM.BM
set_option maxRecDepth 1000000
noncomputable def bk9 : V := .iS (Qa2 256 0x73010200000000000000000000000000610101) 256 true
noncomputable def bk10 : V := .iS (Qa2 256 0x61) 256 false
noncomputable def Q2m : V := (.agg [(.iS bl0 256 false), .nS, bk6, (n32 1), (n32 0), (n32 2), (n64 17), (n32 2), (n32 0), (n32 0), (n32 1388976997), (.iS [(n64 15), (n64 16), (n64 17)] 3 false), (.iS [(n64 1), (n8 1), (n64 1), (n64 0), (n32 1), (n32 1), (n64 0), (n64 0), (n32 0), (n32 0), (n32 0), (n32 0), .nS] 1 false), (.iS ((.iS (Qa2 24 0xaf3f9f1ad83c4fea63ae709a8b7bd674f083295900000001) 24 false) :: (Qk4 7 .nS [])) 8 false), (.iS ((.iS (Qa2 16 0x0) 16 false) :: (Qk4 7 .nS [])) 8 false), (.iS [(n64 1), (n64 0), (n64 0), (n8 0), (n64 0), (n64 0), bk9, (n64 0), (n32 0), (n32 0), (n32 0), (n32 0), (n64 1), (n64 0), (n64 15), (n8 2), (n64 1), (n64 32), .nS, (n64 0), (n32 0), (n32 0), (n32 0), (n32 0), (n64 1), (n64 1), (n64 0), (n8 0), (n64 0), (n64 0), bk8, (n64 0), (n32 0), (n32 0), (n32 0), (n32 0), (n64 1), (n64 1), (n64 15), (n8 1), (n64 1), (n64 5), .nS, (n64 0), (n32 0), (n32 0), (n32 0), (n32 0), (n64 1), (n64 2), (n64 0), (n8 0), (n64 0), (n64 0), bk10, (n64 0), (n32 0), (n32 0), (n32 0), (n32 0), (n64 1), (n64 2), (n64 15), (n8 3), (n64 1), (n64 1), .nS, (n64 0), (n32 0), (n32 0), (n32 0), (n32 0)] 6 false), (n64 0), (n64 2), (n32 3)])
noncomputable def rpt_1 : V := (n64 0)
noncomputable def rpt : V := .tuple [Q2m, rpt_1]
noncomputable def apt : List V := [Q4o, (n64 1), (.str [115]), (.str [97])]
noncomputable def K2 : FuncId -> Option Qa8 := fun f => match f with
 | 12 => some (Xc (Qa5 Qvt))
 | 18 => some (Xc (Qa5 Qha))
 | _ => none
theorem K2_ok : ∀ f g, K2 f = some g -> B5 Tryz.prog f g := by
 intro f g h
 simp only [K2] at h
 split at h <;> cases h
 . exact K7 Qf2
 . exact K7 Qdd
theorem run_pt : Qr6 (Qcf Tryz.prog (Qi6 K2) 1000 (some 13) apt F0) = some rpt := by kernel_rfl
theorem Qqo : Ans Tryz.prog 13 apt rpt := B6 (okC K2_ok) (nlC _) run_pt (by kernel_rfl)
theorem Qsz : Qk apt = true := by kernel_rfl
end
section
open Go.AM Go.AM.BM
set_option maxRecDepth 1000000
noncomputable def bk11 : V := .iS (Qa2 256 0x730102000000000000000000000000006c010300000000000000000000000000610101) 256 true
noncomputable def bk12 : V := .iS (Qa2 256 0x6c) 256 false
noncomputable def rll_0 : V := (.agg [(.iS bl0 256 false), .nS, bk6, (n32 1), (n32 0), (n32 2), (n64 17), (n32 2), (n32 0), (n32 0), (n32 1388976997), (.iS [(n64 15), (n64 16), (n64 17)] 3 false), (.iS [(n64 1), (n8 1), (n64 1), (n64 0), (n32 1), (n32 1), (n64 0), (n64 0), (n32 0), (n32 0), (n32 0), (n32 0), .nS] 1 false), (.iS ((.iS (Qa2 24 0xaf3f9f1ad83c4fea63ae709a8b7bd674f083295900000001) 24 false) :: (Qk4 7 .nS [])) 8 false), (.iS ((.iS (Qa2 16 0x0) 16 false) :: (Qk4 7 .nS [])) 8 false), (.iS [(n64 1), (n64 0), (n64 0), (n8 0), (n64 0), (n64 0), bk11, (n64 0), (n32 0), (n32 0), (n32 0), (n32 0), (n64 1), (n64 0), (n64 15), (n8 2), (n64 1), (n64 48), .nS, (n64 0), (n32 0), (n32 0), (n32 0), (n32 0), (n64 1), (n64 1), (n64 0), (n8 0), (n64 0), (n64 0), bk8, (n64 0), (n32 0), (n32 0), (n32 0), (n32 0), (n64 1), (n64 1), (n64 15), (n8 1), (n64 1), (n64 5), .nS, (n64 0), (n32 0), (n32 0), (n32 0), (n32 0), (n64 1), (n64 2), (n64 0), (n8 0), (n64 0), (n64 0), bk10, (n64 0), (n32 0), (n32 0), (n32 0), (n32 0), (n64 1), (n64 2), (n64 15), (n8 3), (n64 1), (n64 1), .nS, (n64 0), (n32 0), (n32 0), (n32 0), (n32 0), (n64 1), (n64 3), (n64 0), (n8 0), (n64 0), (n64 0), bk12, (n64 0), (n32 0), (n32 0), (n32 0), (n32 0), (n64 1), (n64 3), (n64 15), (n8 3), (n64 1), (n64 1), .nS, (n64 0), (n32 0), (n32 0), (n32 0), (n32 0)] 8 false), (n64 0), (n64 2), (n32 3)])
noncomputable def rll_1 : V := (n64 0)
noncomputable def rll : V := .tuple [rll_0, rll_1]
noncomputable def all : List V := [Q2m, (n64 1), (.str [108]), (.str [108])]
noncomputable def K3 : FuncId -> Option Qa8 := fun f => match f with
 | 12 => some (Xc (Qa5 Qvt))
 | 18 => some (Xc (Qa5 Qha))
 | 13 => some (Xc (Qen [(apt, rpt)]))
 | _ => none
theorem K3_ok : ∀ f g, K3 f = some g -> B5 Tryz.prog f g := by
 intro f g h
 simp only [K3] at h
 split at h <;> cases h
 . exact K7 Qf2
 . exact K7 Qdd
 . refine Qdy (fun e he => ?_)
   simp only [Zjf, Zka, or_false] at he
   rcases he with rfl
   . exact ⟨Qsz, Qqo⟩
theorem run_ll : Qr6 (Qcf Tryz.prog (Qi6 K3) 1000 (some 13) all F0) = some rll := by kernel_rfl
theorem Qxp : Ans Tryz.prog 13 all rll := B6 (okC K3_ok) (nlC _) run_ll (by kernel_rfl)
theorem Qxa : Qk all = true := by kernel_rfl
end
section
open Go.AM Go.AM.BM
set_option maxRecDepth 1000000
noncomputable def bk13 : V := .iS (Qa2 256 0x7301020000000000000000000000000062010100000000000000000000000000610101) 256 true
noncomputable def rlk_0 : V := (.agg [(.iS bl0 256 false), .nS, bk6, (n32 1), (n32 0), (n32 2), (n64 17), (n32 2), (n32 0), (n32 0), (n32 1388976997), (.iS [(n64 15), (n64 16), (n64 17)] 3 false), (.iS [(n64 1), (n8 1), (n64 1), (n64 0), (n32 1), (n32 1), (n64 0), (n64 0), (n32 0), (n32 0), (n32 0), (n32 0), .nS] 1 false), (.iS ((.iS (Qa2 24 0xaf3f9f1ad83c4fea63ae709a8b7bd674f083295900000001) 24 false) :: (Qk4 7 .nS [])) 8 false), (.iS ((.iS (Qa2 16 0x0) 16 false) :: (Qk4 7 .nS [])) 8 false), (.iS [(n64 1), (n64 0), (n64 0), (n8 0), (n64 0), (n64 0), bk13, (n64 0), (n32 0), (n32 0), (n32 0), (n32 0), (n64 1), (n64 0), (n64 15), (n8 2), (n64 1), (n64 48), .nS, (n64 0), (n32 0), (n32 0), (n32 0), (n32 0), (n64 1), (n64 1), (n64 0), (n8 0), (n64 0), (n64 0), bk8, (n64 0), (n32 0), (n32 0), (n32 0), (n32 0), (n64 1), (n64 1), (n64 15), (n8 1), (n64 2), (n64 5), .nS, (n64 0), (n32 0), (n32 0), (n32 0), (n32 0), (n64 1), (n64 2), (n64 0), (n8 0), (n64 0), (n64 0), bk10, (n64 0), (n32 0), (n32 0), (n32 0), (n32 0), (n64 1), (n64 2), (n64 15), (n8 3), (n64 1), (n64 1), .nS, (n64 0), (n32 0), (n32 0), (n32 0), (n32 0)] 6 false), (n64 0), (n64 2), (n32 3)])
noncomputable def rlk_1 : V := (n64 0)
noncomputable def rlk : V := .tuple [rlk_0, rlk_1]
noncomputable def alk : List V := [Q2m, (n64 1), (.str [97]), (.str [98])]
noncomputable def K4 : FuncId -> Option Qa8 := fun f => match f with
 | 12 => some (Xc (Qa5 Qvt))
 | 18 => some (Xc (Qa5 Qha))
 | 13 => some (Xc (Qen [(apt, rpt), (all, rll)]))
 | _ => none
theorem K4_ok : ∀ f g, K4 f = some g -> B5 Tryz.prog f g := by
 intro f g h
 simp only [K4] at h
 split at h <;> cases h
 . exact K7 Qf2
 . exact K7 Qdd
 . refine Qdy (fun e he => ?_)
   simp only [Zjf, Zka, or_false] at he
   rcases he with rfl | rfl
   . exact ⟨Qsz, Qqo⟩
   . exact ⟨Qxa, Qxp⟩
theorem run_lk : Qr6 (Qcf Tryz.prog (Qi6 K4) 1000 (some 16) alk F0) = some rlk := by kernel_rfl
theorem Q4n : Ans Tryz.prog 16 alk rlk := B6 (okC K4_ok) (nlC _) run_lk (by kernel_rfl)
theorem Q2b : Qk alk = true := by kernel_rfl
end
section
open Go.AM Go.AM.BM
set_option maxRecDepth 1000000
noncomputable def bk14 : V := .iS (Qa2 256 0x73010200000000000000000000000000620101) 256 true
noncomputable def rul_0 : V := (.agg [(.iS bl0 256 false), .nS, bk6, (n32 1), (n32 0), (n32 2), (n64 17), (n32 2), (n32 0), (n32 0), (n32 1388976997), (.iS [(n64 15), (n64 16), (n64 17)] 3 false), (.iS [(n64 1), (n8 1), (n64 1), (n64 0), (n32 1), (n32 1), (n64 0), (n64 0), (n32 0), (n32 0), (n32 0), (n32 0), .nS] 1 false), (.iS ((.iS (Qa2 24 0xaf3f9f1ad83c4fea63ae709a8b7bd674f083295900000001) 24 false) :: (Qk4 7 .nS [])) 8 false), (.iS ((.iS (Qa2 16 0x0) 16 false) :: (Qk4 7 .nS [])) 8 false), (.iS [(n64 1), (n64 0), (n64 0), (n8 0), (n64 0), (n64 0), bk14, (n64 0), (n32 0), (n32 0), (n32 0), (n32 0), (n64 1), (n64 0), (n64 15), (n8 2), (n64 1), (n64 32), .nS, (n64 0), (n32 0), (n32 0), (n32 0), (n32 0), (n64 1), (n64 1), (n64 0), (n8 0), (n64 0), (n64 0), bk8, (n64 0), (n32 0), (n32 0), (n32 0), (n32 0), (n64 1), (n64 1), (n64 15), (n8 1), (n64 1), (n64 5), .nS, (n64 0), (n32 0), (n32 0), (n32 0), (n32 0), (n64 1), (n64 2), (n64 0), (n8 0), (n64 0), (n64 0), bk10, (n64 0), (n32 0), (n32 0), (n32 0), (n32 0), (n64 1), (n64 2), (n64 15), (n8 3), (n64 1), (n64 1), .nS, (n64 0), (n32 0), (n32 0), (n32 0), (n32 0)] 6 false), (n64 0), (n64 2), (n32 3)])
noncomputable def rul_1 : V := (n64 0)
noncomputable def rul : V := .tuple [rul_0, rul_1]
noncomputable def aul : List V := [rlk_0, (n64 1), (.str [97])]
noncomputable def K5 : FuncId -> Option Qa8 := fun f => match f with
 | 12 => some (Xc (Qa5 Qvt))
 | 18 => some (Xc (Qa5 Qha))
 | 13 => some (Xc (Qen [(apt, rpt), (all, rll)]))
 | 16 => some (Xc (Qen [(alk, rlk)]))
 | _ => none
theorem K5_ok : ∀ f g, K5 f = some g -> B5 Tryz.prog f g := by
 intro f g h
 simp only [K5] at h
 split at h <;> cases h
 . exact K7 Qf2
 . exact K7 Qdd
 . refine Qdy (fun e he => ?_)
   simp only [Zjf, Zka, or_false] at he
   rcases he with rfl | rfl
   . exact ⟨Qsz, Qqo⟩
   . exact ⟨Qxa, Qxp⟩
 . refine Qdy (fun e he => ?_)
   simp only [Zjf, Zka, or_false] at he
   rcases he with rfl
   . exact ⟨Q2b, Q4n⟩
theorem run_ul : Qr6 (Qcf Tryz.prog (Qi6 K5) 1000 (some 17) aul F0) = some rul := by kernel_rfl
theorem ans_ul : Ans Tryz.prog 17 aul rul := B6 (okC K5_ok) (nlC _) run_ul (by kernel_rfl)
theorem pur_ul : Qk aul = true := by kernel_rfl
end
end Go.Proofs.YtafhcdagifopeaaGreatDoor
