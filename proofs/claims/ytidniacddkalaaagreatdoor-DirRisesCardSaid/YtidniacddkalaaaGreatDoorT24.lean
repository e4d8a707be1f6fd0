/- This file holds in one the texts Bf1; each says at its head what it proves. -/
import Derived.Test.YtidniacddkalaaaGreatDoorT18
set_option linter.unusedSimpArgs false
set_option linter.unusedVariables false
section
namespace Go.AM.BM
structure Box(α:Type) where
 f:α
structure NV where
 (x0 x1 x2 x3 x4 x5 x6 x7 x8 x9 x10 x11 x12 x13 x14 x15 x16 x17 x18 x19 x20 x21 x22 x23 x24 x25 x26 x27 x28 x29 x30 x31:V)
structure NN where
 (x0 x1 x2 x3 x4 x5 x6 x7 x8 x9 x10 x11 x12 x13 x14 x15 x16 x17 x18 x19 x20 x21 x22 x23 x24 x25 x26 x27 x28 x29 x30 x31:NV)
structure TM where
 a:NV
 b:NN
noncomputable def selA:List (Box (TM->V)):=[⟨fun t=>t.a.x0⟩,⟨fun t=>t.a.x1⟩,⟨fun t=>t.a.x2⟩,⟨fun t=>t.a.x3⟩,⟨fun t=>t.a.x4⟩,⟨fun t=>t.a.x5⟩,⟨fun t=>t.a.x6⟩,⟨fun t=>t.a.x7⟩,⟨fun t=>t.a.x8⟩,⟨fun t=>t.a.x9⟩,⟨fun t=>t.a.x10⟩,⟨fun t=>t.a.x11⟩,⟨fun t=>t.a.x12⟩,⟨fun t=>t.a.x13⟩,⟨fun t=>t.a.x14⟩,⟨fun t=>t.a.x15⟩,⟨fun t=>t.a.x16⟩,⟨fun t=>t.a.x17⟩,⟨fun t=>t.a.x18⟩,⟨fun t=>t.a.x19⟩,⟨fun t=>t.a.x20⟩,⟨fun t=>t.a.x21⟩,⟨fun t=>t.a.x22⟩,⟨fun t=>t.a.x23⟩,⟨fun t=>t.a.x24⟩,⟨fun t=>t.a.x25⟩,⟨fun t=>t.a.x26⟩,⟨fun t=>t.a.x27⟩,⟨fun t=>t.a.x28⟩,⟨fun t=>t.a.x29⟩,⟨fun t=>t.a.x30⟩,⟨fun t=>t.a.x31⟩]
noncomputable def updA:List (Box (TM->V->TM)):=[⟨fun t v=>TM.rec (motive:=fun _=>TM) (fun a b=>⟨NV.rec (motive:=fun _=>NV) (fun x0 x1 x2 x3 x4 x5 x6 x7 x8 x9 x10 x11 x12 x13 x14 x15 x16 x17 x18 x19 x20 x21 x22 x23 x24 x25 x26 x27 x28 x29 x30 x31=>⟨v,x1,x2,x3,x4,x5,x6,x7,x8,x9,x10,x11,x12,x13,x14,x15,x16,x17,x18,x19,x20,x21,x22,x23,x24,x25,x26,x27,x28,x29,x30,x31⟩) a,b⟩) t⟩,
 ⟨fun t v=>TM.rec (motive:=fun _=>TM) (fun a b=>⟨NV.rec (motive:=fun _=>NV) (fun x0 x1 x2 x3 x4 x5 x6 x7 x8 x9 x10 x11 x12 x13 x14 x15 x16 x17 x18 x19 x20 x21 x22 x23 x24 x25 x26 x27 x28 x29 x30 x31=>⟨x0,v,x2,x3,x4,x5,x6,x7,x8,x9,x10,x11,x12,x13,x14,x15,x16,x17,x18,x19,x20,x21,x22,x23,x24,x25,x26,x27,x28,x29,x30,x31⟩) a,b⟩) t⟩,
 ⟨fun t v=>TM.rec (motive:=fun _=>TM) (fun a b=>⟨NV.rec (motive:=fun _=>NV) (fun x0 x1 x2 x3 x4 x5 x6 x7 x8 x9 x10 x11 x12 x13 x14 x15 x16 x17 x18 x19 x20 x21 x22 x23 x24 x25 x26 x27 x28 x29 x30 x31=>⟨x0,x1,v,x3,x4,x5,x6,x7,x8,x9,x10,x11,x12,x13,x14,x15,x16,x17,x18,x19,x20,x21,x22,x23,x24,x25,x26,x27,x28,x29,x30,x31⟩) a,b⟩) t⟩,
 ⟨fun t v=>TM.rec (motive:=fun _=>TM) (fun a b=>⟨NV.rec (motive:=fun _=>NV) (fun x0 x1 x2 x3 x4 x5 x6 x7 x8 x9 x10 x11 x12 x13 x14 x15 x16 x17 x18 x19 x20 x21 x22 x23 x24 x25 x26 x27 x28 x29 x30 x31=>⟨x0,x1,x2,v,x4,x5,x6,x7,x8,x9,x10,x11,x12,x13,x14,x15,x16,x17,x18,x19,x20,x21,x22,x23,x24,x25,x26,x27,x28,x29,x30,x31⟩) a,b⟩) t⟩,
 ⟨fun t v=>TM.rec (motive:=fun _=>TM) (fun a b=>⟨NV.rec (motive:=fun _=>NV) (fun x0 x1 x2 x3 x4 x5 x6 x7 x8 x9 x10 x11 x12 x13 x14 x15 x16 x17 x18 x19 x20 x21 x22 x23 x24 x25 x26 x27 x28 x29 x30 x31=>⟨x0,x1,x2,x3,v,x5,x6,x7,x8,x9,x10,x11,x12,x13,x14,x15,x16,x17,x18,x19,x20,x21,x22,x23,x24,x25,x26,x27,x28,x29,x30,x31⟩) a,b⟩) t⟩,
 ⟨fun t v=>TM.rec (motive:=fun _=>TM) (fun a b=>⟨NV.rec (motive:=fun _=>NV) (fun x0 x1 x2 x3 x4 x5 x6 x7 x8 x9 x10 x11 x12 x13 x14 x15 x16 x17 x18 x19 x20 x21 x22 x23 x24 x25 x26 x27 x28 x29 x30 x31=>⟨x0,x1,x2,x3,x4,v,x6,x7,x8,x9,x10,x11,x12,x13,x14,x15,x16,x17,x18,x19,x20,x21,x22,x23,x24,x25,x26,x27,x28,x29,x30,x31⟩) a,b⟩) t⟩,
 ⟨fun t v=>TM.rec (motive:=fun _=>TM) (fun a b=>⟨NV.rec (motive:=fun _=>NV) (fun x0 x1 x2 x3 x4 x5 x6 x7 x8 x9 x10 x11 x12 x13 x14 x15 x16 x17 x18 x19 x20 x21 x22 x23 x24 x25 x26 x27 x28 x29 x30 x31=>⟨x0,x1,x2,x3,x4,x5,v,x7,x8,x9,x10,x11,x12,x13,x14,x15,x16,x17,x18,x19,x20,x21,x22,x23,x24,x25,x26,x27,x28,x29,x30,x31⟩) a,b⟩) t⟩,
 ⟨fun t v=>TM.rec (motive:=fun _=>TM) (fun a b=>⟨NV.rec (motive:=fun _=>NV) (fun x0 x1 x2 x3 x4 x5 x6 x7 x8 x9 x10 x11 x12 x13 x14 x15 x16 x17 x18 x19 x20 x21 x22 x23 x24 x25 x26 x27 x28 x29 x30 x31=>⟨x0,x1,x2,x3,x4,x5,x6,v,x8,x9,x10,x11,x12,x13,x14,x15,x16,x17,x18,x19,x20,x21,x22,x23,x24,x25,x26,x27,x28,x29,x30,x31⟩) a,b⟩) t⟩,
 ⟨fun t v=>TM.rec (motive:=fun _=>TM) (fun a b=>⟨NV.rec (motive:=fun _=>NV) (fun x0 x1 x2 x3 x4 x5 x6 x7 x8 x9 x10 x11 x12 x13 x14 x15 x16 x17 x18 x19 x20 x21 x22 x23 x24 x25 x26 x27 x28 x29 x30 x31=>⟨x0,x1,x2,x3,x4,x5,x6,x7,v,x9,x10,x11,x12,x13,x14,x15,x16,x17,x18,x19,x20,x21,x22,x23,x24,x25,x26,x27,x28,x29,x30,x31⟩) a,b⟩) t⟩,
 ⟨fun t v=>TM.rec (motive:=fun _=>TM) (fun a b=>⟨NV.rec (motive:=fun _=>NV) (fun x0 x1 x2 x3 x4 x5 x6 x7 x8 x9 x10 x11 x12 x13 x14 x15 x16 x17 x18 x19 x20 x21 x22 x23 x24 x25 x26 x27 x28 x29 x30 x31=>⟨x0,x1,x2,x3,x4,x5,x6,x7,x8,v,x10,x11,x12,x13,x14,x15,x16,x17,x18,x19,x20,x21,x22,x23,x24,x25,x26,x27,x28,x29,x30,x31⟩) a,b⟩) t⟩,
 ⟨fun t v=>TM.rec (motive:=fun _=>TM) (fun a b=>⟨NV.rec (motive:=fun _=>NV) (fun x0 x1 x2 x3 x4 x5 x6 x7 x8 x9 x10 x11 x12 x13 x14 x15 x16 x17 x18 x19 x20 x21 x22 x23 x24 x25 x26 x27 x28 x29 x30 x31=>⟨x0,x1,x2,x3,x4,x5,x6,x7,x8,x9,v,x11,x12,x13,x14,x15,x16,x17,x18,x19,x20,x21,x22,x23,x24,x25,x26,x27,x28,x29,x30,x31⟩) a,b⟩) t⟩,
 ⟨fun t v=>TM.rec (motive:=fun _=>TM) (fun a b=>⟨NV.rec (motive:=fun _=>NV) (fun x0 x1 x2 x3 x4 x5 x6 x7 x8 x9 x10 x11 x12 x13 x14 x15 x16 x17 x18 x19 x20 x21 x22 x23 x24 x25 x26 x27 x28 x29 x30 x31=>⟨x0,x1,x2,x3,x4,x5,x6,x7,x8,x9,x10,v,x12,x13,x14,x15,x16,x17,x18,x19,x20,x21,x22,x23,x24,x25,x26,x27,x28,x29,x30,x31⟩) a,b⟩) t⟩,
 ⟨fun t v=>TM.rec (motive:=fun _=>TM) (fun a b=>⟨NV.rec (motive:=fun _=>NV) (fun x0 x1 x2 x3 x4 x5 x6 x7 x8 x9 x10 x11 x12 x13 x14 x15 x16 x17 x18 x19 x20 x21 x22 x23 x24 x25 x26 x27 x28 x29 x30 x31=>⟨x0,x1,x2,x3,x4,x5,x6,x7,x8,x9,x10,x11,v,x13,x14,x15,x16,x17,x18,x19,x20,x21,x22,x23,x24,x25,x26,x27,x28,x29,x30,x31⟩) a,b⟩) t⟩,
 ⟨fun t v=>TM.rec (motive:=fun _=>TM) (fun a b=>⟨NV.rec (motive:=fun _=>NV) (fun x0 x1 x2 x3 x4 x5 x6 x7 x8 x9 x10 x11 x12 x13 x14 x15 x16 x17 x18 x19 x20 x21 x22 x23 x24 x25 x26 x27 x28 x29 x30 x31=>⟨x0,x1,x2,x3,x4,x5,x6,x7,x8,x9,x10,x11,x12,v,x14,x15,x16,x17,x18,x19,x20,x21,x22,x23,x24,x25,x26,x27,x28,x29,x30,x31⟩) a,b⟩) t⟩,
 ⟨fun t v=>TM.rec (motive:=fun _=>TM) (fun a b=>⟨NV.rec (motive:=fun _=>NV) (fun x0 x1 x2 x3 x4 x5 x6 x7 x8 x9 x10 x11 x12 x13 x14 x15 x16 x17 x18 x19 x20 x21 x22 x23 x24 x25 x26 x27 x28 x29 x30 x31=>⟨x0,x1,x2,x3,x4,x5,x6,x7,x8,x9,x10,x11,x12,x13,v,x15,x16,x17,x18,x19,x20,x21,x22,x23,x24,x25,x26,x27,x28,x29,x30,x31⟩) a,b⟩) t⟩,
 ⟨fun t v=>TM.rec (motive:=fun _=>TM) (fun a b=>⟨NV.rec (motive:=fun _=>NV) (fun x0 x1 x2 x3 x4 x5 x6 x7 x8 x9 x10 x11 x12 x13 x14 x15 x16 x17 x18 x19 x20 x21 x22 x23 x24 x25 x26 x27 x28 x29 x30 x31=>⟨x0,x1,x2,x3,x4,x5,x6,x7,x8,x9,x10,x11,x12,x13,x14,v,x16,x17,x18,x19,x20,x21,x22,x23,x24,x25,x26,x27,x28,x29,x30,x31⟩) a,b⟩) t⟩,
 ⟨fun t v=>TM.rec (motive:=fun _=>TM) (fun a b=>⟨NV.rec (motive:=fun _=>NV) (fun x0 x1 x2 x3 x4 x5 x6 x7 x8 x9 x10 x11 x12 x13 x14 x15 x16 x17 x18 x19 x20 x21 x22 x23 x24 x25 x26 x27 x28 x29 x30 x31=>⟨x0,x1,x2,x3,x4,x5,x6,x7,x8,x9,x10,x11,x12,x13,x14,x15,v,x17,x18,x19,x20,x21,x22,x23,x24,x25,x26,x27,x28,x29,x30,x31⟩) a,b⟩) t⟩,
 ⟨fun t v=>TM.rec (motive:=fun _=>TM) (fun a b=>⟨NV.rec (motive:=fun _=>NV) (fun x0 x1 x2 x3 x4 x5 x6 x7 x8 x9 x10 x11 x12 x13 x14 x15 x16 x17 x18 x19 x20 x21 x22 x23 x24 x25 x26 x27 x28 x29 x30 x31=>⟨x0,x1,x2,x3,x4,x5,x6,x7,x8,x9,x10,x11,x12,x13,x14,x15,x16,v,x18,x19,x20,x21,x22,x23,x24,x25,x26,x27,x28,x29,x30,x31⟩) a,b⟩) t⟩,
 ⟨fun t v=>TM.rec (motive:=fun _=>TM) (fun a b=>⟨NV.rec (motive:=fun _=>NV) (fun x0 x1 x2 x3 x4 x5 x6 x7 x8 x9 x10 x11 x12 x13 x14 x15 x16 x17 x18 x19 x20 x21 x22 x23 x24 x25 x26 x27 x28 x29 x30 x31=>⟨x0,x1,x2,x3,x4,x5,x6,x7,x8,x9,x10,x11,x12,x13,x14,x15,x16,x17,v,x19,x20,x21,x22,x23,x24,x25,x26,x27,x28,x29,x30,x31⟩) a,b⟩) t⟩,
 ⟨fun t v=>TM.rec (motive:=fun _=>TM) (fun a b=>⟨NV.rec (motive:=fun _=>NV) (fun x0 x1 x2 x3 x4 x5 x6 x7 x8 x9 x10 x11 x12 x13 x14 x15 x16 x17 x18 x19 x20 x21 x22 x23 x24 x25 x26 x27 x28 x29 x30 x31=>⟨x0,x1,x2,x3,x4,x5,x6,x7,x8,x9,x10,x11,x12,x13,x14,x15,x16,x17,x18,v,x20,x21,x22,x23,x24,x25,x26,x27,x28,x29,x30,x31⟩) a,b⟩) t⟩,
 ⟨fun t v=>TM.rec (motive:=fun _=>TM) (fun a b=>⟨NV.rec (motive:=fun _=>NV) (fun x0 x1 x2 x3 x4 x5 x6 x7 x8 x9 x10 x11 x12 x13 x14 x15 x16 x17 x18 x19 x20 x21 x22 x23 x24 x25 x26 x27 x28 x29 x30 x31=>⟨x0,x1,x2,x3,x4,x5,x6,x7,x8,x9,x10,x11,x12,x13,x14,x15,x16,x17,x18,x19,v,x21,x22,x23,x24,x25,x26,x27,x28,x29,x30,x31⟩) a,b⟩) t⟩,
 ⟨fun t v=>TM.rec (motive:=fun _=>TM) (fun a b=>⟨NV.rec (motive:=fun _=>NV) (fun x0 x1 x2 x3 x4 x5 x6 x7 x8 x9 x10 x11 x12 x13 x14 x15 x16 x17 x18 x19 x20 x21 x22 x23 x24 x25 x26 x27 x28 x29 x30 x31=>⟨x0,x1,x2,x3,x4,x5,x6,x7,x8,x9,x10,x11,x12,x13,x14,x15,x16,x17,x18,x19,x20,v,x22,x23,x24,x25,x26,x27,x28,x29,x30,x31⟩) a,b⟩) t⟩,
 ⟨fun t v=>TM.rec (motive:=fun _=>TM) (fun a b=>⟨NV.rec (motive:=fun _=>NV) (fun x0 x1 x2 x3 x4 x5 x6 x7 x8 x9 x10 x11 x12 x13 x14 x15 x16 x17 x18 x19 x20 x21 x22 x23 x24 x25 x26 x27 x28 x29 x30 x31=>⟨x0,x1,x2,x3,x4,x5,x6,x7,x8,x9,x10,x11,x12,x13,x14,x15,x16,x17,x18,x19,x20,x21,v,x23,x24,x25,x26,x27,x28,x29,x30,x31⟩) a,b⟩) t⟩,
 ⟨fun t v=>TM.rec (motive:=fun _=>TM) (fun a b=>⟨NV.rec (motive:=fun _=>NV) (fun x0 x1 x2 x3 x4 x5 x6 x7 x8 x9 x10 x11 x12 x13 x14 x15 x16 x17 x18 x19 x20 x21 x22 x23 x24 x25 x26 x27 x28 x29 x30 x31=>⟨x0,x1,x2,x3,x4,x5,x6,x7,x8,x9,x10,x11,x12,x13,x14,x15,x16,x17,x18,x19,x20,x21,x22,v,x24,x25,x26,x27,x28,x29,x30,x31⟩) a,b⟩) t⟩,
 ⟨fun t v=>TM.rec (motive:=fun _=>TM) (fun a b=>⟨NV.rec (motive:=fun _=>NV) (fun x0 x1 x2 x3 x4 x5 x6 x7 x8 x9 x10 x11 x12 x13 x14 x15 x16 x17 x18 x19 x20 x21 x22 x23 x24 x25 x26 x27 x28 x29 x30 x31=>⟨x0,x1,x2,x3,x4,x5,x6,x7,x8,x9,x10,x11,x12,x13,x14,x15,x16,x17,x18,x19,x20,x21,x22,x23,v,x25,x26,x27,x28,x29,x30,x31⟩) a,b⟩) t⟩,
 ⟨fun t v=>TM.rec (motive:=fun _=>TM) (fun a b=>⟨NV.rec (motive:=fun _=>NV) (fun x0 x1 x2 x3 x4 x5 x6 x7 x8 x9 x10 x11 x12 x13 x14 x15 x16 x17 x18 x19 x20 x21 x22 x23 x24 x25 x26 x27 x28 x29 x30 x31=>⟨x0,x1,x2,x3,x4,x5,x6,x7,x8,x9,x10,x11,x12,x13,x14,x15,x16,x17,x18,x19,x20,x21,x22,x23,x24,v,x26,x27,x28,x29,x30,x31⟩) a,b⟩) t⟩,
 ⟨fun t v=>TM.rec (motive:=fun _=>TM) (fun a b=>⟨NV.rec (motive:=fun _=>NV) (fun x0 x1 x2 x3 x4 x5 x6 x7 x8 x9 x10 x11 x12 x13 x14 x15 x16 x17 x18 x19 x20 x21 x22 x23 x24 x25 x26 x27 x28 x29 x30 x31=>⟨x0,x1,x2,x3,x4,x5,x6,x7,x8,x9,x10,x11,x12,x13,x14,x15,x16,x17,x18,x19,x20,x21,x22,x23,x24,x25,v,x27,x28,x29,x30,x31⟩) a,b⟩) t⟩,
 ⟨fun t v=>TM.rec (motive:=fun _=>TM) (fun a b=>⟨NV.rec (motive:=fun _=>NV) (fun x0 x1 x2 x3 x4 x5 x6 x7 x8 x9 x10 x11 x12 x13 x14 x15 x16 x17 x18 x19 x20 x21 x22 x23 x24 x25 x26 x27 x28 x29 x30 x31=>⟨x0,x1,x2,x3,x4,x5,x6,x7,x8,x9,x10,x11,x12,x13,x14,x15,x16,x17,x18,x19,x20,x21,x22,x23,x24,x25,x26,v,x28,x29,x30,x31⟩) a,b⟩) t⟩,
 ⟨fun t v=>TM.rec (motive:=fun _=>TM) (fun a b=>⟨NV.rec (motive:=fun _=>NV) (fun x0 x1 x2 x3 x4 x5 x6 x7 x8 x9 x10 x11 x12 x13 x14 x15 x16 x17 x18 x19 x20 x21 x22 x23 x24 x25 x26 x27 x28 x29 x30 x31=>⟨x0,x1,x2,x3,x4,x5,x6,x7,x8,x9,x10,x11,x12,x13,x14,x15,x16,x17,x18,x19,x20,x21,x22,x23,x24,x25,x26,x27,v,x29,x30,x31⟩) a,b⟩) t⟩,
 ⟨fun t v=>TM.rec (motive:=fun _=>TM) (fun a b=>⟨NV.rec (motive:=fun _=>NV) (fun x0 x1 x2 x3 x4 x5 x6 x7 x8 x9 x10 x11 x12 x13 x14 x15 x16 x17 x18 x19 x20 x21 x22 x23 x24 x25 x26 x27 x28 x29 x30 x31=>⟨x0,x1,x2,x3,x4,x5,x6,x7,x8,x9,x10,x11,x12,x13,x14,x15,x16,x17,x18,x19,x20,x21,x22,x23,x24,x25,x26,x27,x28,v,x30,x31⟩) a,b⟩) t⟩,
 ⟨fun t v=>TM.rec (motive:=fun _=>TM) (fun a b=>⟨NV.rec (motive:=fun _=>NV) (fun x0 x1 x2 x3 x4 x5 x6 x7 x8 x9 x10 x11 x12 x13 x14 x15 x16 x17 x18 x19 x20 x21 x22 x23 x24 x25 x26 x27 x28 x29 x30 x31=>⟨x0,x1,x2,x3,x4,x5,x6,x7,x8,x9,x10,x11,x12,x13,x14,x15,x16,x17,x18,x19,x20,x21,x22,x23,x24,x25,x26,x27,x28,x29,v,x31⟩) a,b⟩) t⟩,
 ⟨fun t v=>TM.rec (motive:=fun _=>TM) (fun a b=>⟨NV.rec (motive:=fun _=>NV) (fun x0 x1 x2 x3 x4 x5 x6 x7 x8 x9 x10 x11 x12 x13 x14 x15 x16 x17 x18 x19 x20 x21 x22 x23 x24 x25 x26 x27 x28 x29 x30 x31=>⟨x0,x1,x2,x3,x4,x5,x6,x7,x8,x9,x10,x11,x12,x13,x14,x15,x16,x17,x18,x19,x20,x21,x22,x23,x24,x25,x26,x27,x28,x29,x30,v⟩) a,b⟩) t⟩]
noncomputable def selV:List (Box (NV->V)):=[⟨fun t=>t.x0⟩,⟨fun t=>t.x1⟩,⟨fun t=>t.x2⟩,⟨fun t=>t.x3⟩,⟨fun t=>t.x4⟩,⟨fun t=>t.x5⟩,⟨fun t=>t.x6⟩,⟨fun t=>t.x7⟩,⟨fun t=>t.x8⟩,⟨fun t=>t.x9⟩,⟨fun t=>t.x10⟩,⟨fun t=>t.x11⟩,⟨fun t=>t.x12⟩,⟨fun t=>t.x13⟩,⟨fun t=>t.x14⟩,⟨fun t=>t.x15⟩,⟨fun t=>t.x16⟩,⟨fun t=>t.x17⟩,⟨fun t=>t.x18⟩,⟨fun t=>t.x19⟩,⟨fun t=>t.x20⟩,⟨fun t=>t.x21⟩,⟨fun t=>t.x22⟩,⟨fun t=>t.x23⟩,⟨fun t=>t.x24⟩,⟨fun t=>t.x25⟩,⟨fun t=>t.x26⟩,⟨fun t=>t.x27⟩,⟨fun t=>t.x28⟩,⟨fun t=>t.x29⟩,⟨fun t=>t.x30⟩,⟨fun t=>t.x31⟩]
noncomputable def updV:List (Box (NV->V->NV)):=[⟨fun t v=>NV.rec (motive:=fun _=>NV) (fun x0 x1 x2 x3 x4 x5 x6 x7 x8 x9 x10 x11 x12 x13 x14 x15 x16 x17 x18 x19 x20 x21 x22 x23 x24 x25 x26 x27 x28 x29 x30 x31=>⟨v,x1,x2,x3,x4,x5,x6,x7,x8,x9,x10,x11,x12,x13,x14,x15,x16,x17,x18,x19,x20,x21,x22,x23,x24,x25,x26,x27,x28,x29,x30,x31⟩) t⟩,
 ⟨fun t v=>NV.rec (motive:=fun _=>NV) (fun x0 x1 x2 x3 x4 x5 x6 x7 x8 x9 x10 x11 x12 x13 x14 x15 x16 x17 x18 x19 x20 x21 x22 x23 x24 x25 x26 x27 x28 x29 x30 x31=>⟨x0,v,x2,x3,x4,x5,x6,x7,x8,x9,x10,x11,x12,x13,x14,x15,x16,x17,x18,x19,x20,x21,x22,x23,x24,x25,x26,x27,x28,x29,x30,x31⟩) t⟩,
 ⟨fun t v=>NV.rec (motive:=fun _=>NV) (fun x0 x1 x2 x3 x4 x5 x6 x7 x8 x9 x10 x11 x12 x13 x14 x15 x16 x17 x18 x19 x20 x21 x22 x23 x24 x25 x26 x27 x28 x29 x30 x31=>⟨x0,x1,v,x3,x4,x5,x6,x7,x8,x9,x10,x11,x12,x13,x14,x15,x16,x17,x18,x19,x20,x21,x22,x23,x24,x25,x26,x27,x28,x29,x30,x31⟩) t⟩,
 ⟨fun t v=>NV.rec (motive:=fun _=>NV) (fun x0 x1 x2 x3 x4 x5 x6 x7 x8 x9 x10 x11 x12 x13 x14 x15 x16 x17 x18 x19 x20 x21 x22 x23 x24 x25 x26 x27 x28 x29 x30 x31=>⟨x0,x1,x2,v,x4,x5,x6,x7,x8,x9,x10,x11,x12,x13,x14,x15,x16,x17,x18,x19,x20,x21,x22,x23,x24,x25,x26,x27,x28,x29,x30,x31⟩) t⟩,
 ⟨fun t v=>NV.rec (motive:=fun _=>NV) (fun x0 x1 x2 x3 x4 x5 x6 x7 x8 x9 x10 x11 x12 x13 x14 x15 x16 x17 x18 x19 x20 x21 x22 x23 x24 x25 x26 x27 x28 x29 x30 x31=>⟨x0,x1,x2,x3,v,x5,x6,x7,x8,x9,x10,x11,x12,x13,x14,x15,x16,x17,x18,x19,x20,x21,x22,x23,x24,x25,x26,x27,x28,x29,x30,x31⟩) t⟩,
 ⟨fun t v=>NV.rec (motive:=fun _=>NV) (fun x0 x1 x2 x3 x4 x5 x6 x7 x8 x9 x10 x11 x12 x13 x14 x15 x16 x17 x18 x19 x20 x21 x22 x23 x24 x25 x26 x27 x28 x29 x30 x31=>⟨x0,x1,x2,x3,x4,v,x6,x7,x8,x9,x10,x11,x12,x13,x14,x15,x16,x17,x18,x19,x20,x21,x22,x23,x24,x25,x26,x27,x28,x29,x30,x31⟩) t⟩,
 ⟨fun t v=>NV.rec (motive:=fun _=>NV) (fun x0 x1 x2 x3 x4 x5 x6 x7 x8 x9 x10 x11 x12 x13 x14 x15 x16 x17 x18 x19 x20 x21 x22 x23 x24 x25 x26 x27 x28 x29 x30 x31=>⟨x0,x1,x2,x3,x4,x5,v,x7,x8,x9,x10,x11,x12,x13,x14,x15,x16,x17,x18,x19,x20,x21,x22,x23,x24,x25,x26,x27,x28,x29,x30,x31⟩) t⟩,
 ⟨fun t v=>NV.rec (motive:=fun _=>NV) (fun x0 x1 x2 x3 x4 x5 x6 x7 x8 x9 x10 x11 x12 x13 x14 x15 x16 x17 x18 x19 x20 x21 x22 x23 x24 x25 x26 x27 x28 x29 x30 x31=>⟨x0,x1,x2,x3,x4,x5,x6,v,x8,x9,x10,x11,x12,x13,x14,x15,x16,x17,x18,x19,x20,x21,x22,x23,x24,x25,x26,x27,x28,x29,x30,x31⟩) t⟩,
 ⟨fun t v=>NV.rec (motive:=fun _=>NV) (fun x0 x1 x2 x3 x4 x5 x6 x7 x8 x9 x10 x11 x12 x13 x14 x15 x16 x17 x18 x19 x20 x21 x22 x23 x24 x25 x26 x27 x28 x29 x30 x31=>⟨x0,x1,x2,x3,x4,x5,x6,x7,v,x9,x10,x11,x12,x13,x14,x15,x16,x17,x18,x19,x20,x21,x22,x23,x24,x25,x26,x27,x28,x29,x30,x31⟩) t⟩,
 ⟨fun t v=>NV.rec (motive:=fun _=>NV) (fun x0 x1 x2 x3 x4 x5 x6 x7 x8 x9 x10 x11 x12 x13 x14 x15 x16 x17 x18 x19 x20 x21 x22 x23 x24 x25 x26 x27 x28 x29 x30 x31=>⟨x0,x1,x2,x3,x4,x5,x6,x7,x8,v,x10,x11,x12,x13,x14,x15,x16,x17,x18,x19,x20,x21,x22,x23,x24,x25,x26,x27,x28,x29,x30,x31⟩) t⟩,
 ⟨fun t v=>NV.rec (motive:=fun _=>NV) (fun x0 x1 x2 x3 x4 x5 x6 x7 x8 x9 x10 x11 x12 x13 x14 x15 x16 x17 x18 x19 x20 x21 x22 x23 x24 x25 x26 x27 x28 x29 x30 x31=>⟨x0,x1,x2,x3,x4,x5,x6,x7,x8,x9,v,x11,x12,x13,x14,x15,x16,x17,x18,x19,x20,x21,x22,x23,x24,x25,x26,x27,x28,x29,x30,x31⟩) t⟩,
 ⟨fun t v=>NV.rec (motive:=fun _=>NV) (fun x0 x1 x2 x3 x4 x5 x6 x7 x8 x9 x10 x11 x12 x13 x14 x15 x16 x17 x18 x19 x20 x21 x22 x23 x24 x25 x26 x27 x28 x29 x30 x31=>⟨x0,x1,x2,x3,x4,x5,x6,x7,x8,x9,x10,v,x12,x13,x14,x15,x16,x17,x18,x19,x20,x21,x22,x23,x24,x25,x26,x27,x28,x29,x30,x31⟩) t⟩,
 ⟨fun t v=>NV.rec (motive:=fun _=>NV) (fun x0 x1 x2 x3 x4 x5 x6 x7 x8 x9 x10 x11 x12 x13 x14 x15 x16 x17 x18 x19 x20 x21 x22 x23 x24 x25 x26 x27 x28 x29 x30 x31=>⟨x0,x1,x2,x3,x4,x5,x6,x7,x8,x9,x10,x11,v,x13,x14,x15,x16,x17,x18,x19,x20,x21,x22,x23,x24,x25,x26,x27,x28,x29,x30,x31⟩) t⟩,
 ⟨fun t v=>NV.rec (motive:=fun _=>NV) (fun x0 x1 x2 x3 x4 x5 x6 x7 x8 x9 x10 x11 x12 x13 x14 x15 x16 x17 x18 x19 x20 x21 x22 x23 x24 x25 x26 x27 x28 x29 x30 x31=>⟨x0,x1,x2,x3,x4,x5,x6,x7,x8,x9,x10,x11,x12,v,x14,x15,x16,x17,x18,x19,x20,x21,x22,x23,x24,x25,x26,x27,x28,x29,x30,x31⟩) t⟩,
 ⟨fun t v=>NV.rec (motive:=fun _=>NV) (fun x0 x1 x2 x3 x4 x5 x6 x7 x8 x9 x10 x11 x12 x13 x14 x15 x16 x17 x18 x19 x20 x21 x22 x23 x24 x25 x26 x27 x28 x29 x30 x31=>⟨x0,x1,x2,x3,x4,x5,x6,x7,x8,x9,x10,x11,x12,x13,v,x15,x16,x17,x18,x19,x20,x21,x22,x23,x24,x25,x26,x27,x28,x29,x30,x31⟩) t⟩,
 ⟨fun t v=>NV.rec (motive:=fun _=>NV) (fun x0 x1 x2 x3 x4 x5 x6 x7 x8 x9 x10 x11 x12 x13 x14 x15 x16 x17 x18 x19 x20 x21 x22 x23 x24 x25 x26 x27 x28 x29 x30 x31=>⟨x0,x1,x2,x3,x4,x5,x6,x7,x8,x9,x10,x11,x12,x13,x14,v,x16,x17,x18,x19,x20,x21,x22,x23,x24,x25,x26,x27,x28,x29,x30,x31⟩) t⟩,
 ⟨fun t v=>NV.rec (motive:=fun _=>NV) (fun x0 x1 x2 x3 x4 x5 x6 x7 x8 x9 x10 x11 x12 x13 x14 x15 x16 x17 x18 x19 x20 x21 x22 x23 x24 x25 x26 x27 x28 x29 x30 x31=>⟨x0,x1,x2,x3,x4,x5,x6,x7,x8,x9,x10,x11,x12,x13,x14,x15,v,x17,x18,x19,x20,x21,x22,x23,x24,x25,x26,x27,x28,x29,x30,x31⟩) t⟩,
 ⟨fun t v=>NV.rec (motive:=fun _=>NV) (fun x0 x1 x2 x3 x4 x5 x6 x7 x8 x9 x10 x11 x12 x13 x14 x15 x16 x17 x18 x19 x20 x21 x22 x23 x24 x25 x26 x27 x28 x29 x30 x31=>⟨x0,x1,x2,x3,x4,x5,x6,x7,x8,x9,x10,x11,x12,x13,x14,x15,x16,v,x18,x19,x20,x21,x22,x23,x24,x25,x26,x27,x28,x29,x30,x31⟩) t⟩,
 ⟨fun t v=>NV.rec (motive:=fun _=>NV) (fun x0 x1 x2 x3 x4 x5 x6 x7 x8 x9 x10 x11 x12 x13 x14 x15 x16 x17 x18 x19 x20 x21 x22 x23 x24 x25 x26 x27 x28 x29 x30 x31=>⟨x0,x1,x2,x3,x4,x5,x6,x7,x8,x9,x10,x11,x12,x13,x14,x15,x16,x17,v,x19,x20,x21,x22,x23,x24,x25,x26,x27,x28,x29,x30,x31⟩) t⟩,
 ⟨fun t v=>NV.rec (motive:=fun _=>NV) (fun x0 x1 x2 x3 x4 x5 x6 x7 x8 x9 x10 x11 x12 x13 x14 x15 x16 x17 x18 x19 x20 x21 x22 x23 x24 x25 x26 x27 x28 x29 x30 x31=>⟨x0,x1,x2,x3,x4,x5,x6,x7,x8,x9,x10,x11,x12,x13,x14,x15,x16,x17,x18,v,x20,x21,x22,x23,x24,x25,x26,x27,x28,x29,x30,x31⟩) t⟩,
 ⟨fun t v=>NV.rec (motive:=fun _=>NV) (fun x0 x1 x2 x3 x4 x5 x6 x7 x8 x9 x10 x11 x12 x13 x14 x15 x16 x17 x18 x19 x20 x21 x22 x23 x24 x25 x26 x27 x28 x29 x30 x31=>⟨x0,x1,x2,x3,x4,x5,x6,x7,x8,x9,x10,x11,x12,x13,x14,x15,x16,x17,x18,x19,v,x21,x22,x23,x24,x25,x26,x27,x28,x29,x30,x31⟩) t⟩,
 ⟨fun t v=>NV.rec (motive:=fun _=>NV) (fun x0 x1 x2 x3 x4 x5 x6 x7 x8 x9 x10 x11 x12 x13 x14 x15 x16 x17 x18 x19 x20 x21 x22 x23 x24 x25 x26 x27 x28 x29 x30 x31=>⟨x0,x1,x2,x3,x4,x5,x6,x7,x8,x9,x10,x11,x12,x13,x14,x15,x16,x17,x18,x19,x20,v,x22,x23,x24,x25,x26,x27,x28,x29,x30,x31⟩) t⟩,
 ⟨fun t v=>NV.rec (motive:=fun _=>NV) (fun x0 x1 x2 x3 x4 x5 x6 x7 x8 x9 x10 x11 x12 x13 x14 x15 x16 x17 x18 x19 x20 x21 x22 x23 x24 x25 x26 x27 x28 x29 x30 x31=>⟨x0,x1,x2,x3,x4,x5,x6,x7,x8,x9,x10,x11,x12,x13,x14,x15,x16,x17,x18,x19,x20,x21,v,x23,x24,x25,x26,x27,x28,x29,x30,x31⟩) t⟩,
 ⟨fun t v=>NV.rec (motive:=fun _=>NV) (fun x0 x1 x2 x3 x4 x5 x6 x7 x8 x9 x10 x11 x12 x13 x14 x15 x16 x17 x18 x19 x20 x21 x22 x23 x24 x25 x26 x27 x28 x29 x30 x31=>⟨x0,x1,x2,x3,x4,x5,x6,x7,x8,x9,x10,x11,x12,x13,x14,x15,x16,x17,x18,x19,x20,x21,x22,v,x24,x25,x26,x27,x28,x29,x30,x31⟩) t⟩,
 ⟨fun t v=>NV.rec (motive:=fun _=>NV) (fun x0 x1 x2 x3 x4 x5 x6 x7 x8 x9 x10 x11 x12 x13 x14 x15 x16 x17 x18 x19 x20 x21 x22 x23 x24 x25 x26 x27 x28 x29 x30 x31=>⟨x0,x1,x2,x3,x4,x5,x6,x7,x8,x9,x10,x11,x12,x13,x14,x15,x16,x17,x18,x19,x20,x21,x22,x23,v,x25,x26,x27,x28,x29,x30,x31⟩) t⟩,
 ⟨fun t v=>NV.rec (motive:=fun _=>NV) (fun x0 x1 x2 x3 x4 x5 x6 x7 x8 x9 x10 x11 x12 x13 x14 x15 x16 x17 x18 x19 x20 x21 x22 x23 x24 x25 x26 x27 x28 x29 x30 x31=>⟨x0,x1,x2,x3,x4,x5,x6,x7,x8,x9,x10,x11,x12,x13,x14,x15,x16,x17,x18,x19,x20,x21,x22,x23,x24,v,x26,x27,x28,x29,x30,x31⟩) t⟩,
 ⟨fun t v=>NV.rec (motive:=fun _=>NV) (fun x0 x1 x2 x3 x4 x5 x6 x7 x8 x9 x10 x11 x12 x13 x14 x15 x16 x17 x18 x19 x20 x21 x22 x23 x24 x25 x26 x27 x28 x29 x30 x31=>⟨x0,x1,x2,x3,x4,x5,x6,x7,x8,x9,x10,x11,x12,x13,x14,x15,x16,x17,x18,x19,x20,x21,x22,x23,x24,x25,v,x27,x28,x29,x30,x31⟩) t⟩,
 ⟨fun t v=>NV.rec (motive:=fun _=>NV) (fun x0 x1 x2 x3 x4 x5 x6 x7 x8 x9 x10 x11 x12 x13 x14 x15 x16 x17 x18 x19 x20 x21 x22 x23 x24 x25 x26 x27 x28 x29 x30 x31=>⟨x0,x1,x2,x3,x4,x5,x6,x7,x8,x9,x10,x11,x12,x13,x14,x15,x16,x17,x18,x19,x20,x21,x22,x23,x24,x25,x26,v,x28,x29,x30,x31⟩) t⟩,
 ⟨fun t v=>NV.rec (motive:=fun _=>NV) (fun x0 x1 x2 x3 x4 x5 x6 x7 x8 x9 x10 x11 x12 x13 x14 x15 x16 x17 x18 x19 x20 x21 x22 x23 x24 x25 x26 x27 x28 x29 x30 x31=>⟨x0,x1,x2,x3,x4,x5,x6,x7,x8,x9,x10,x11,x12,x13,x14,x15,x16,x17,x18,x19,x20,x21,x22,x23,x24,x25,x26,x27,v,x29,x30,x31⟩) t⟩,
 ⟨fun t v=>NV.rec (motive:=fun _=>NV) (fun x0 x1 x2 x3 x4 x5 x6 x7 x8 x9 x10 x11 x12 x13 x14 x15 x16 x17 x18 x19 x20 x21 x22 x23 x24 x25 x26 x27 x28 x29 x30 x31=>⟨x0,x1,x2,x3,x4,x5,x6,x7,x8,x9,x10,x11,x12,x13,x14,x15,x16,x17,x18,x19,x20,x21,x22,x23,x24,x25,x26,x27,x28,v,x30,x31⟩) t⟩,
 ⟨fun t v=>NV.rec (motive:=fun _=>NV) (fun x0 x1 x2 x3 x4 x5 x6 x7 x8 x9 x10 x11 x12 x13 x14 x15 x16 x17 x18 x19 x20 x21 x22 x23 x24 x25 x26 x27 x28 x29 x30 x31=>⟨x0,x1,x2,x3,x4,x5,x6,x7,x8,x9,x10,x11,x12,x13,x14,x15,x16,x17,x18,x19,x20,x21,x22,x23,x24,x25,x26,x27,x28,x29,v,x31⟩) t⟩,
 ⟨fun t v=>NV.rec (motive:=fun _=>NV) (fun x0 x1 x2 x3 x4 x5 x6 x7 x8 x9 x10 x11 x12 x13 x14 x15 x16 x17 x18 x19 x20 x21 x22 x23 x24 x25 x26 x27 x28 x29 x30 x31=>⟨x0,x1,x2,x3,x4,x5,x6,x7,x8,x9,x10,x11,x12,x13,x14,x15,x16,x17,x18,x19,x20,x21,x22,x23,x24,x25,x26,x27,x28,x29,x30,v⟩) t⟩]
noncomputable def selN:List (Box (NN->NV)):=[⟨fun t=>t.x0⟩,⟨fun t=>t.x1⟩,⟨fun t=>t.x2⟩,⟨fun t=>t.x3⟩,⟨fun t=>t.x4⟩,⟨fun t=>t.x5⟩,⟨fun t=>t.x6⟩,⟨fun t=>t.x7⟩,⟨fun t=>t.x8⟩,⟨fun t=>t.x9⟩,⟨fun t=>t.x10⟩,⟨fun t=>t.x11⟩,⟨fun t=>t.x12⟩,⟨fun t=>t.x13⟩,⟨fun t=>t.x14⟩,⟨fun t=>t.x15⟩,⟨fun t=>t.x16⟩,⟨fun t=>t.x17⟩,⟨fun t=>t.x18⟩,⟨fun t=>t.x19⟩,⟨fun t=>t.x20⟩,⟨fun t=>t.x21⟩,⟨fun t=>t.x22⟩,⟨fun t=>t.x23⟩,⟨fun t=>t.x24⟩,⟨fun t=>t.x25⟩,⟨fun t=>t.x26⟩,⟨fun t=>t.x27⟩,⟨fun t=>t.x28⟩,⟨fun t=>t.x29⟩,⟨fun t=>t.x30⟩,⟨fun t=>t.x31⟩]
noncomputable def updN:List (Box (NN->NV->NN)):=[⟨fun t v=>NN.rec (motive:=fun _=>NN) (fun x0 x1 x2 x3 x4 x5 x6 x7 x8 x9 x10 x11 x12 x13 x14 x15 x16 x17 x18 x19 x20 x21 x22 x23 x24 x25 x26 x27 x28 x29 x30 x31=>⟨v,x1,x2,x3,x4,x5,x6,x7,x8,x9,x10,x11,x12,x13,x14,x15,x16,x17,x18,x19,x20,x21,x22,x23,x24,x25,x26,x27,x28,x29,x30,x31⟩) t⟩,
 ⟨fun t v=>NN.rec (motive:=fun _=>NN) (fun x0 x1 x2 x3 x4 x5 x6 x7 x8 x9 x10 x11 x12 x13 x14 x15 x16 x17 x18 x19 x20 x21 x22 x23 x24 x25 x26 x27 x28 x29 x30 x31=>⟨x0,v,x2,x3,x4,x5,x6,x7,x8,x9,x10,x11,x12,x13,x14,x15,x16,x17,x18,x19,x20,x21,x22,x23,x24,x25,x26,x27,x28,x29,x30,x31⟩) t⟩,
 ⟨fun t v=>NN.rec (motive:=fun _=>NN) (fun x0 x1 x2 x3 x4 x5 x6 x7 x8 x9 x10 x11 x12 x13 x14 x15 x16 x17 x18 x19 x20 x21 x22 x23 x24 x25 x26 x27 x28 x29 x30 x31=>⟨x0,x1,v,x3,x4,x5,x6,x7,x8,x9,x10,x11,x12,x13,x14,x15,x16,x17,x18,x19,x20,x21,x22,x23,x24,x25,x26,x27,x28,x29,x30,x31⟩) t⟩,
 ⟨fun t v=>NN.rec (motive:=fun _=>NN) (fun x0 x1 x2 x3 x4 x5 x6 x7 x8 x9 x10 x11 x12 x13 x14 x15 x16 x17 x18 x19 x20 x21 x22 x23 x24 x25 x26 x27 x28 x29 x30 x31=>⟨x0,x1,x2,v,x4,x5,x6,x7,x8,x9,x10,x11,x12,x13,x14,x15,x16,x17,x18,x19,x20,x21,x22,x23,x24,x25,x26,x27,x28,x29,x30,x31⟩) t⟩,
 ⟨fun t v=>NN.rec (motive:=fun _=>NN) (fun x0 x1 x2 x3 x4 x5 x6 x7 x8 x9 x10 x11 x12 x13 x14 x15 x16 x17 x18 x19 x20 x21 x22 x23 x24 x25 x26 x27 x28 x29 x30 x31=>⟨x0,x1,x2,x3,v,x5,x6,x7,x8,x9,x10,x11,x12,x13,x14,x15,x16,x17,x18,x19,x20,x21,x22,x23,x24,x25,x26,x27,x28,x29,x30,x31⟩) t⟩,
 ⟨fun t v=>NN.rec (motive:=fun _=>NN) (fun x0 x1 x2 x3 x4 x5 x6 x7 x8 x9 x10 x11 x12 x13 x14 x15 x16 x17 x18 x19 x20 x21 x22 x23 x24 x25 x26 x27 x28 x29 x30 x31=>⟨x0,x1,x2,x3,x4,v,x6,x7,x8,x9,x10,x11,x12,x13,x14,x15,x16,x17,x18,x19,x20,x21,x22,x23,x24,x25,x26,x27,x28,x29,x30,x31⟩) t⟩,
 ⟨fun t v=>NN.rec (motive:=fun _=>NN) (fun x0 x1 x2 x3 x4 x5 x6 x7 x8 x9 x10 x11 x12 x13 x14 x15 x16 x17 x18 x19 x20 x21 x22 x23 x24 x25 x26 x27 x28 x29 x30 x31=>⟨x0,x1,x2,x3,x4,x5,v,x7,x8,x9,x10,x11,x12,x13,x14,x15,x16,x17,x18,x19,x20,x21,x22,x23,x24,x25,x26,x27,x28,x29,x30,x31⟩) t⟩,
 ⟨fun t v=>NN.rec (motive:=fun _=>NN) (fun x0 x1 x2 x3 x4 x5 x6 x7 x8 x9 x10 x11 x12 x13 x14 x15 x16 x17 x18 x19 x20 x21 x22 x23 x24 x25 x26 x27 x28 x29 x30 x31=>⟨x0,x1,x2,x3,x4,x5,x6,v,x8,x9,x10,x11,x12,x13,x14,x15,x16,x17,x18,x19,x20,x21,x22,x23,x24,x25,x26,x27,x28,x29,x30,x31⟩) t⟩,
 ⟨fun t v=>NN.rec (motive:=fun _=>NN) (fun x0 x1 x2 x3 x4 x5 x6 x7 x8 x9 x10 x11 x12 x13 x14 x15 x16 x17 x18 x19 x20 x21 x22 x23 x24 x25 x26 x27 x28 x29 x30 x31=>⟨x0,x1,x2,x3,x4,x5,x6,x7,v,x9,x10,x11,x12,x13,x14,x15,x16,x17,x18,x19,x20,x21,x22,x23,x24,x25,x26,x27,x28,x29,x30,x31⟩) t⟩,
 ⟨fun t v=>NN.rec (motive:=fun _=>NN) (fun x0 x1 x2 x3 x4 x5 x6 x7 x8 x9 x10 x11 x12 x13 x14 x15 x16 x17 x18 x19 x20 x21 x22 x23 x24 x25 x26 x27 x28 x29 x30 x31=>⟨x0,x1,x2,x3,x4,x5,x6,x7,x8,v,x10,x11,x12,x13,x14,x15,x16,x17,x18,x19,x20,x21,x22,x23,x24,x25,x26,x27,x28,x29,x30,x31⟩) t⟩,
 ⟨fun t v=>NN.rec (motive:=fun _=>NN) (fun x0 x1 x2 x3 x4 x5 x6 x7 x8 x9 x10 x11 x12 x13 x14 x15 x16 x17 x18 x19 x20 x21 x22 x23 x24 x25 x26 x27 x28 x29 x30 x31=>⟨x0,x1,x2,x3,x4,x5,x6,x7,x8,x9,v,x11,x12,x13,x14,x15,x16,x17,x18,x19,x20,x21,x22,x23,x24,x25,x26,x27,x28,x29,x30,x31⟩) t⟩,
 ⟨fun t v=>NN.rec (motive:=fun _=>NN) (fun x0 x1 x2 x3 x4 x5 x6 x7 x8 x9 x10 x11 x12 x13 x14 x15 x16 x17 x18 x19 x20 x21 x22 x23 x24 x25 x26 x27 x28 x29 x30 x31=>⟨x0,x1,x2,x3,x4,x5,x6,x7,x8,x9,x10,v,x12,x13,x14,x15,x16,x17,x18,x19,x20,x21,x22,x23,x24,x25,x26,x27,x28,x29,x30,x31⟩) t⟩,
 ⟨fun t v=>NN.rec (motive:=fun _=>NN) (fun x0 x1 x2 x3 x4 x5 x6 x7 x8 x9 x10 x11 x12 x13 x14 x15 x16 x17 x18 x19 x20 x21 x22 x23 x24 x25 x26 x27 x28 x29 x30 x31=>⟨x0,x1,x2,x3,x4,x5,x6,x7,x8,x9,x10,x11,v,x13,x14,x15,x16,x17,x18,x19,x20,x21,x22,x23,x24,x25,x26,x27,x28,x29,x30,x31⟩) t⟩,
 ⟨fun t v=>NN.rec (motive:=fun _=>NN) (fun x0 x1 x2 x3 x4 x5 x6 x7 x8 x9 x10 x11 x12 x13 x14 x15 x16 x17 x18 x19 x20 x21 x22 x23 x24 x25 x26 x27 x28 x29 x30 x31=>⟨x0,x1,x2,x3,x4,x5,x6,x7,x8,x9,x10,x11,x12,v,x14,x15,x16,x17,x18,x19,x20,x21,x22,x23,x24,x25,x26,x27,x28,x29,x30,x31⟩) t⟩,
 ⟨fun t v=>NN.rec (motive:=fun _=>NN) (fun x0 x1 x2 x3 x4 x5 x6 x7 x8 x9 x10 x11 x12 x13 x14 x15 x16 x17 x18 x19 x20 x21 x22 x23 x24 x25 x26 x27 x28 x29 x30 x31=>⟨x0,x1,x2,x3,x4,x5,x6,x7,x8,x9,x10,x11,x12,x13,v,x15,x16,x17,x18,x19,x20,x21,x22,x23,x24,x25,x26,x27,x28,x29,x30,x31⟩) t⟩,
 ⟨fun t v=>NN.rec (motive:=fun _=>NN) (fun x0 x1 x2 x3 x4 x5 x6 x7 x8 x9 x10 x11 x12 x13 x14 x15 x16 x17 x18 x19 x20 x21 x22 x23 x24 x25 x26 x27 x28 x29 x30 x31=>⟨x0,x1,x2,x3,x4,x5,x6,x7,x8,x9,x10,x11,x12,x13,x14,v,x16,x17,x18,x19,x20,x21,x22,x23,x24,x25,x26,x27,x28,x29,x30,x31⟩) t⟩,
 ⟨fun t v=>NN.rec (motive:=fun _=>NN) (fun x0 x1 x2 x3 x4 x5 x6 x7 x8 x9 x10 x11 x12 x13 x14 x15 x16 x17 x18 x19 x20 x21 x22 x23 x24 x25 x26 x27 x28 x29 x30 x31=>⟨x0,x1,x2,x3,x4,x5,x6,x7,x8,x9,x10,x11,x12,x13,x14,x15,v,x17,x18,x19,x20,x21,x22,x23,x24,x25,x26,x27,x28,x29,x30,x31⟩) t⟩,
 ⟨fun t v=>NN.rec (motive:=fun _=>NN) (fun x0 x1 x2 x3 x4 x5 x6 x7 x8 x9 x10 x11 x12 x13 x14 x15 x16 x17 x18 x19 x20 x21 x22 x23 x24 x25 x26 x27 x28 x29 x30 x31=>⟨x0,x1,x2,x3,x4,x5,x6,x7,x8,x9,x10,x11,x12,x13,x14,x15,x16,v,x18,x19,x20,x21,x22,x23,x24,x25,x26,x27,x28,x29,x30,x31⟩) t⟩,
 ⟨fun t v=>NN.rec (motive:=fun _=>NN) (fun x0 x1 x2 x3 x4 x5 x6 x7 x8 x9 x10 x11 x12 x13 x14 x15 x16 x17 x18 x19 x20 x21 x22 x23 x24 x25 x26 x27 x28 x29 x30 x31=>⟨x0,x1,x2,x3,x4,x5,x6,x7,x8,x9,x10,x11,x12,x13,x14,x15,x16,x17,v,x19,x20,x21,x22,x23,x24,x25,x26,x27,x28,x29,x30,x31⟩) t⟩,
 ⟨fun t v=>NN.rec (motive:=fun _=>NN) (fun x0 x1 x2 x3 x4 x5 x6 x7 x8 x9 x10 x11 x12 x13 x14 x15 x16 x17 x18 x19 x20 x21 x22 x23 x24 x25 x26 x27 x28 x29 x30 x31=>⟨x0,x1,x2,x3,x4,x5,x6,x7,x8,x9,x10,x11,x12,x13,x14,x15,x16,x17,x18,v,x20,x21,x22,x23,x24,x25,x26,x27,x28,x29,x30,x31⟩) t⟩,
 ⟨fun t v=>NN.rec (motive:=fun _=>NN) (fun x0 x1 x2 x3 x4 x5 x6 x7 x8 x9 x10 x11 x12 x13 x14 x15 x16 x17 x18 x19 x20 x21 x22 x23 x24 x25 x26 x27 x28 x29 x30 x31=>⟨x0,x1,x2,x3,x4,x5,x6,x7,x8,x9,x10,x11,x12,x13,x14,x15,x16,x17,x18,x19,v,x21,x22,x23,x24,x25,x26,x27,x28,x29,x30,x31⟩) t⟩,
 ⟨fun t v=>NN.rec (motive:=fun _=>NN) (fun x0 x1 x2 x3 x4 x5 x6 x7 x8 x9 x10 x11 x12 x13 x14 x15 x16 x17 x18 x19 x20 x21 x22 x23 x24 x25 x26 x27 x28 x29 x30 x31=>⟨x0,x1,x2,x3,x4,x5,x6,x7,x8,x9,x10,x11,x12,x13,x14,x15,x16,x17,x18,x19,x20,v,x22,x23,x24,x25,x26,x27,x28,x29,x30,x31⟩) t⟩,
 ⟨fun t v=>NN.rec (motive:=fun _=>NN) (fun x0 x1 x2 x3 x4 x5 x6 x7 x8 x9 x10 x11 x12 x13 x14 x15 x16 x17 x18 x19 x20 x21 x22 x23 x24 x25 x26 x27 x28 x29 x30 x31=>⟨x0,x1,x2,x3,x4,x5,x6,x7,x8,x9,x10,x11,x12,x13,x14,x15,x16,x17,x18,x19,x20,x21,v,x23,x24,x25,x26,x27,x28,x29,x30,x31⟩) t⟩,
 ⟨fun t v=>NN.rec (motive:=fun _=>NN) (fun x0 x1 x2 x3 x4 x5 x6 x7 x8 x9 x10 x11 x12 x13 x14 x15 x16 x17 x18 x19 x20 x21 x22 x23 x24 x25 x26 x27 x28 x29 x30 x31=>⟨x0,x1,x2,x3,x4,x5,x6,x7,x8,x9,x10,x11,x12,x13,x14,x15,x16,x17,x18,x19,x20,x21,x22,v,x24,x25,x26,x27,x28,x29,x30,x31⟩) t⟩,
 ⟨fun t v=>NN.rec (motive:=fun _=>NN) (fun x0 x1 x2 x3 x4 x5 x6 x7 x8 x9 x10 x11 x12 x13 x14 x15 x16 x17 x18 x19 x20 x21 x22 x23 x24 x25 x26 x27 x28 x29 x30 x31=>⟨x0,x1,x2,x3,x4,x5,x6,x7,x8,x9,x10,x11,x12,x13,x14,x15,x16,x17,x18,x19,x20,x21,x22,x23,v,x25,x26,x27,x28,x29,x30,x31⟩) t⟩,
 ⟨fun t v=>NN.rec (motive:=fun _=>NN) (fun x0 x1 x2 x3 x4 x5 x6 x7 x8 x9 x10 x11 x12 x13 x14 x15 x16 x17 x18 x19 x20 x21 x22 x23 x24 x25 x26 x27 x28 x29 x30 x31=>⟨x0,x1,x2,x3,x4,x5,x6,x7,x8,x9,x10,x11,x12,x13,x14,x15,x16,x17,x18,x19,x20,x21,x22,x23,x24,v,x26,x27,x28,x29,x30,x31⟩) t⟩,
 ⟨fun t v=>NN.rec (motive:=fun _=>NN) (fun x0 x1 x2 x3 x4 x5 x6 x7 x8 x9 x10 x11 x12 x13 x14 x15 x16 x17 x18 x19 x20 x21 x22 x23 x24 x25 x26 x27 x28 x29 x30 x31=>⟨x0,x1,x2,x3,x4,x5,x6,x7,x8,x9,x10,x11,x12,x13,x14,x15,x16,x17,x18,x19,x20,x21,x22,x23,x24,x25,v,x27,x28,x29,x30,x31⟩) t⟩,
 ⟨fun t v=>NN.rec (motive:=fun _=>NN) (fun x0 x1 x2 x3 x4 x5 x6 x7 x8 x9 x10 x11 x12 x13 x14 x15 x16 x17 x18 x19 x20 x21 x22 x23 x24 x25 x26 x27 x28 x29 x30 x31=>⟨x0,x1,x2,x3,x4,x5,x6,x7,x8,x9,x10,x11,x12,x13,x14,x15,x16,x17,x18,x19,x20,x21,x22,x23,x24,x25,x26,v,x28,x29,x30,x31⟩) t⟩,
 ⟨fun t v=>NN.rec (motive:=fun _=>NN) (fun x0 x1 x2 x3 x4 x5 x6 x7 x8 x9 x10 x11 x12 x13 x14 x15 x16 x17 x18 x19 x20 x21 x22 x23 x24 x25 x26 x27 x28 x29 x30 x31=>⟨x0,x1,x2,x3,x4,x5,x6,x7,x8,x9,x10,x11,x12,x13,x14,x15,x16,x17,x18,x19,x20,x21,x22,x23,x24,x25,x26,x27,v,x29,x30,x31⟩) t⟩,
 ⟨fun t v=>NN.rec (motive:=fun _=>NN) (fun x0 x1 x2 x3 x4 x5 x6 x7 x8 x9 x10 x11 x12 x13 x14 x15 x16 x17 x18 x19 x20 x21 x22 x23 x24 x25 x26 x27 x28 x29 x30 x31=>⟨x0,x1,x2,x3,x4,x5,x6,x7,x8,x9,x10,x11,x12,x13,x14,x15,x16,x17,x18,x19,x20,x21,x22,x23,x24,x25,x26,x27,x28,v,x30,x31⟩) t⟩,
 ⟨fun t v=>NN.rec (motive:=fun _=>NN) (fun x0 x1 x2 x3 x4 x5 x6 x7 x8 x9 x10 x11 x12 x13 x14 x15 x16 x17 x18 x19 x20 x21 x22 x23 x24 x25 x26 x27 x28 x29 x30 x31=>⟨x0,x1,x2,x3,x4,x5,x6,x7,x8,x9,x10,x11,x12,x13,x14,x15,x16,x17,x18,x19,x20,x21,x22,x23,x24,x25,x26,x27,x28,x29,v,x31⟩) t⟩,
 ⟨fun t v=>NN.rec (motive:=fun _=>NN) (fun x0 x1 x2 x3 x4 x5 x6 x7 x8 x9 x10 x11 x12 x13 x14 x15 x16 x17 x18 x19 x20 x21 x22 x23 x24 x25 x26 x27 x28 x29 x30 x31=>⟨x0,x1,x2,x3,x4,x5,x6,x7,x8,x9,x10,x11,x12,x13,x14,x15,x16,x17,x18,x19,x20,x21,x22,x23,x24,x25,x26,x27,x28,x29,x30,v⟩) t⟩]
noncomputable def gC(i:Nat):Box (TM->V):=
 bif Nat.blt i 32 then selA.getD i ⟨fun _=> .bad⟩ else⟨fun t=>(selV.getD ((i-32)%32) ⟨fun _=> .bad⟩).f ((selN.getD ((i-32)/32) ⟨fun t=>t.x0⟩).f t.b)⟩
noncomputable def sC(i:Nat):Box (TM->V->TM):=
 bif Nat.blt i 32 then updA.getD i ⟨fun t _=>t⟩ else⟨fun t v=>TM.rec (motive:=fun _=>TM) (fun a b=>⟨a,(updN.getD ((i-32)/32) ⟨fun t _=>t⟩).f b ((updV.getD ((i-32)%32) ⟨fun t _=>t⟩).f ((selN.getD ((i-32)/32) ⟨fun t=>t.x0⟩).f b) v)⟩) t⟩
noncomputable def Xk:NV:=⟨.bad,.bad,.bad,.bad,.bad,.bad,.bad,.bad,.bad,.bad,.bad,.bad,.bad,.bad,.bad,.bad,.bad,.bad,.bad,.bad,.bad,.bad,.bad,.bad,.bad,.bad,.bad,.bad,.bad,.bad,.bad,.bad⟩
noncomputable def emp:TM:=⟨Xk,⟨Xk,Xk,Xk,Xk,Xk,Xk,Xk,Xk,Xk,Xk,Xk,Xk,Xk,Xk,Xk,Xk,Xk,Xk,Xk,Xk,Xk,Xk,Xk,Xk,Xk,Xk,Xk,Xk,Xk,Xk,Xk,Xk⟩⟩
noncomputable def ofL(l:List V):Nat->TM->TM:=
 List.rec (motive:=fun _=>Nat->TM->TM) (fun _ T=>T) (fun v _ ih i T=>ih (Nat.succ i) ((sC i).f T v)) l
noncomputable def toL(T:TM):Nat->Nat->List V:=
 fun n=>Nat.rec (motive:=fun _=>Nat->List V) (fun _=>[]) (fun _ ih i=>(gC i).f T::ih (Nat.succ i)) n
inductive Tr where
 |nil
 |node(o:Option O)(a b c d:Tr)
noncomputable def Qy5{α:Type}(j:Nat)(a b c d:α):α:=
 Bool.rec (motive:=fun _=>α) (Bool.rec (motive:=fun _=>α) d c (Nat.beq (Nat.land j (nat_lit 1)) (nat_lit 0))) (Bool.rec (motive:=fun _=>α) b a (Nat.beq (Nat.land j (nat_lit 1)) (nat_lit 0))) (Nat.beq (Nat.land (Nat.shiftRight j (nat_lit 1)) (nat_lit 1)) (nat_lit 0))
noncomputable def Tr.get(t:Tr):Nat->Option O:=
 Tr.rec (motive:=fun _=>Nat->Option O) (fun _=>none)
  (fun o _ _ _ _ ia ib ic id k=>Nat.rec (motive:=fun _=>Option O) o (fun j _=>Qy5 j ia ib ic id (Nat.shiftRight j (nat_lit 2))) k) t
noncomputable def Tr.on{α:Type}(t:Tr)(k:Option O->Tr->Tr->Tr->Tr->α):α:=
 Tr.rec (motive:=fun _=>α) (k none .nil .nil .nil .nil) (fun o a b c d _ _ _ _=>k o a b c d) t
noncomputable def Tr.set(n:Nat):Tr->Nat->O->Tr:=
 Nat.rec (motive:=fun _=>Tr->Nat->O->Tr) (fun t _ _=>t)
  (fun _ ih t k x=>t.on fun o a b c d=>Nat.rec (motive:=fun _=>Tr) (.node (some x) a b c d)
    (fun j _=>Qy5 j (Tr.node o (ih a (Nat.shiftRight j (nat_lit 2)) x) b c d) (.node o a (ih b (Nat.shiftRight j (nat_lit 2)) x) c d) (.node o a b (ih c (Nat.shiftRight j (nat_lit 2)) x) d) (.node o a b c (ih d (Nat.shiftRight j (nat_lit 2)) x))) k) n
structure FH where
 next:Nat
 tr:Tr
noncomputable def Xy(F:FH):Get:=fun f s=>Nat.rec (motive:=fun _=>Option O) (F.tr.get s) (fun _ _=>none) f
noncomputable def Qh7(F:FH)(s:Nat)(o:O):FH:=⟨Bool.rec (motive:=fun _=>Nat) (Nat.succ s) F.next (Nat.ble (Nat.succ s) F.next),Tr.set (Nat.succ s) F.tr s o⟩
noncomputable def wrF(F:FH):Option (Nat×Nat×O)->FH
 |none=>F
 |some (0,s,o)=>Qh7 F s o
 |some (Nat.succ _,_,_)=>F
noncomputable def wrLF:FH->List (Nat×Nat×O)->FH
 |F,[]=>F
 |F,x::r=>wrLF (wrF F (some x)) r
section
variable {R : Type}
noncomputable def vInt(v:V)(k:IntKind->Int->R)(e:R):R:=V.rec (motive_1:=fun _=>R) (motive_2:=fun _=>Unit) e (fun _=>e) (fun a m=>k a m) (fun _=>e) e (fun _ _ _=>e) (fun _ _ _=>e) e (fun _ _ _ _=>e) (fun _ _ _ _ _ _=>e) (fun _ _ _ _ _ _=>e) e (fun _ _=>e) (fun _ _ _ _ _=>e) e e e (fun _ _ _=>e) (fun _ _=>e) (fun _ _=>e) (fun _ _=>e) (fun _ _ _=>e) () (fun _ _ _ _=>()) v
noncomputable def vBool(v:V)(a b e:R):R:=V.rec (motive_1:=fun _=>R) (motive_2:=fun _=>Unit) e (fun t=>Bool.rec (motive:=fun _=>R) b a t) (fun _ _=>e) (fun _=>e) e (fun _ _ _=>e) (fun _ _ _=>e) e (fun _ _ _ _=>e) (fun _ _ _ _ _ _=>e) (fun _ _ _ _ _ _=>e) e (fun _ _=>e) (fun _ _ _ _ _=>e) e e e (fun _ _ _=>e) (fun _ _=>e) (fun _ _=>e) (fun _ _=>e) (fun _ _ _=>e) () (fun _ _ _ _=>()) v
noncomputable def vPtr(v:V)(kp:Nat->Nat->Nat->R)(ki kr:List V->Nat->R)(e:R):R:=V.rec (motive_1:=fun _=>R) (motive_2:=fun _=>Unit) e (fun _=>e) (fun _ _=>e) (fun _=>e) e (fun f s o=>kp f s o) (fun cs o _=>ki cs o) e (fun _ _ _ _=>e) (fun _ _ _ _ _ _=>e) (fun _ _ _ _ _ _=>e) e (fun _ _=>e) (fun _ _ _ _ _=>e) e e e (fun _ _ _=>e) (fun _ _=>e) (fun _ _=>e) (fun _ _=>e) (fun cs o _=>kr cs o) () (fun _ _ _ _=>()) v
noncomputable def vSl(v:V)(nl:R)(ki:List V->Nat->R)(kg:List V->Nat->Nat->R)(km:Nat->Nat->Nat->Nat->Nat->R)(e:R):R:=V.rec (motive_1:=fun _=>R) (motive_2:=fun _=>Unit) e (fun _=>e) (fun _ _=>e) (fun _=>e) e (fun _ _ _=>e) (fun _ _ _=>e) (nl) (fun cs n _ _=>ki cs n) (fun _ _ cs n q _=>kg cs n q) (fun f s o n _ q=>km f s o n q) e (fun _ _=>e) (fun _ _ _ _ _=>e) e e e (fun _ _ _=>e) (fun _ _=>e) (fun _ _=>e) (fun _ _=>e) (fun _ _ _=>e) () (fun _ _ _ _=>()) v
noncomputable def vAgg(v:V)(k:List V->R)(e:R):R:=V.rec (motive_1:=fun _=>R) (motive_2:=fun _=>Unit) e (fun _=>e) (fun _ _=>e) (fun _=>e) e (fun _ _ _=>e) (fun _ _ _=>e) e (fun _ _ _ _=>e) (fun _ _ _ _ _ _=>e) (fun _ _ _ _ _ _=>e) e (fun _ _=>e) (fun _ _ _ _ _=>e) e e e (fun _ _ _=>e) (fun cs _=>k cs) (fun _ _=>e) (fun _ _=>e) (fun _ _ _=>e) () (fun _ _ _ _=>()) v
noncomputable def vTup(v:V)(k:List V->R)(e:R):R:=V.rec (motive_1:=fun _=>R) (motive_2:=fun _=>Unit) e (fun _=>e) (fun _ _=>e) (fun _=>e) e (fun _ _ _=>e) (fun _ _ _=>e) e (fun _ _ _ _=>e) (fun _ _ _ _ _ _=>e) (fun _ _ _ _ _ _=>e) e (fun _ _=>e) (fun _ _ _ _ _=>e) e e e (fun _ _ _=>e) (fun _ _=>e) (fun cs _=>k cs) (fun _ _=>e) (fun _ _ _=>e) () (fun _ _ _ _=>()) v
noncomputable def Q9z(v:V)(k1:R)(kc:List V->R)(e:R):R:=V.rec (motive_1:=fun _=>R) (motive_2:=fun _=>Unit) (e) (fun _=>k1) (fun _ _=>k1) (fun _=>k1) k1 (fun _ _ _=>k1) (fun _ _ _=>k1) k1 (fun _ _ _ _=>k1) (fun _ _ _ _ _ _=>k1) (fun _ _ _ _ _ _=>k1) k1 (fun _ _=>k1) (fun _ _ _ _ _=>k1) k1 k1 k1 (fun _ _ _=>k1) (fun cs _=>Bool.rec (motive:=fun _=>R) e (kc cs) (cs.all V.scalar)) (fun _ _=>e) (fun _ _=>k1) (fun _ _ _=>k1) () (fun _ _ _ _=>()) v
noncomputable def Qon(o:Option O)(k:List V->R)(e:R):R:=Option.rec (motive:=fun _=>R) e (fun o=>O.rec (motive:=fun _=>R) (fun xs=>k xs) (fun _=>e) (fun _ _ _=>e) (fun _ _ _ _=>e) (fun _ _ _ _ _=>e) (fun _ _=>e) e o) o
end
noncomputable def Q3l(k:IntKind):Nat:=IntKind.rec (motive:=fun _=>Nat) (nat_lit 0) (nat_lit 1) (nat_lit 2) (nat_lit 3) (nat_lit 4) (nat_lit 5) (nat_lit 6) (nat_lit 7) k
noncomputable def Qw8(k:IntKind)(m:Nat):Int:=IntKind.rec (motive:=fun _=>Int) (IntKind.i8.wrap (Int.ofNat m)) (IntKind.i16.wrap (Int.ofNat m)) (IntKind.i32.wrap (Int.ofNat m))
 (Bool.rec (motive:=fun _=>Int) (IntKind.i64.wrap (Int.ofNat m)) (Int.ofNat m) (Nat.ble m (nat_lit 9223372036854775807)))
 (Int.ofNat (Nat.mod m (nat_lit 256))) (Int.ofNat (Nat.mod m (nat_lit 65536))) (Int.ofNat (Nat.mod m (nat_lit 4294967296))) (Int.ofNat (Nat.mod m (nat_lit 18446744073709551616))) k
section
variable {R : Type}
noncomputable def Qsj(m l:Int)(k:Nat->Nat->R)(e:R):R:=Int.rec (motive:=fun _=>R) (fun a=>Int.rec (motive:=fun _=>R) (fun b=>k a b) (fun _=>e) l) (fun _=>e) m
end
noncomputable def addI(k:IntKind)(m l:Int):Int:=Qsj m l (fun a b=>Qw8 k (Nat.add a b)) (k.wrap (m+l))
noncomputable def subI(k:IntKind)(m l:Int):Int:=Qsj m l (fun a b=>Bool.rec (motive:=fun _=>Int) (k.wrap (m-l)) (Qw8 k (Nat.sub a b)) (Nat.ble b a)) (k.wrap (m-l))
noncomputable def ltI(m l:Int):Bool:=Qsj m l (fun a b=>Nat.ble (Nat.succ a) b) (decide (m<l))
noncomputable def leI(m l:Int):Bool:=Qsj m l (fun a b=>Nat.ble a b) (decide (m<=l))
noncomputable def eqI(m l:Int):Bool:=Qsj m l (fun a b=>Nat.beq a b) (decide (m=l))
noncomputable def notB(b:Bool):Bool:=Bool.rec (motive:=fun _=>Bool) true false b
noncomputable def convI(k:IntKind)(m:Int):Int:=Int.rec (motive:=fun _=>Int) (fun a=>Qw8 k a) (fun _=>k.wrap m) m
inductive FO where
 |no
 |nrm(T:TM)(F:FH)
 |exi(i:Nat)(T:TM)(F:FH)
 |ret(T:TM)(F:FH)
 |pan(v:V)(T:TM)(F:FH)
inductive FR where
 |no
 |ret(v:V)(F:FH)
 |pan(v:V)(F:FH)
inductive FT where
 |no
 |ok(T:TM)(F:FH)(l:List FP)
abbrev FC:=Option FuncId->List V->FH->FR
section arms
variable (P : Program) (g : Get) (r : Operand -> V) (nm : Nat)
def Qpd(v:Option V):Option Zk:=v.map fun v=> .val v none
def Zbb(c a b:Operand):Option Zk:=match r c with
    | .bool t=>some (.val (if t then r a else r b) none)
    |_=>none
def Q0w(t:TypeId):Option Zk:=(zeroCells P t).bind fun z=>new g 0 (some nm) (.cells z) (fun d=> .ptr 0 d 0)
def aBox(x:Operand):Option Zk:=((r x).cells).bind fun z=>new g 0 (some nm) (.cells z) (fun d=> .ptr 0 d 0)
def Zas(t:TypeId)(ps:Array (Nat×Operand)):Option Zk:=(K4 P t (ps.toList.map fun p=>(p.1,r p.2))).map fun v=> .val v none
def Qmw(t:TypeId)(n:Nat)(ps:Array (Nat×Operand)):Option Zk:=match P.underlying t with
    |some (.slice e)=>(match sz P e,zeroCells P e with
     |some k,some z=>if n*k<=16777216/\z.length=k then
       (match Bp (fun i=>some (i*k,k)) (if n*k=0 then[] else zerosN z n) (ps.toList.map fun p=>(p.1,r p.2)) with
       |some cs=>new g 0 (some nm) (.cells cs) (fun d=> .mS 0 d 0 n (some n) k)
       |none=>none) else none
     |_,_=>none)
    |_=>none
def Q79(t:TypeId)(a:Operand):Option Zk:=match r a with
    | .ptr f s o=>(match g f s with
      |some (.cells xs)=>(Qn P t xs o).map fun v=> .val v none
      |_=>none)
    | .iptr cs o=>(Qn P t cs o).map fun v=> .val v none
    | .rptr cs o=>(Qn P t cs o).map fun v=> .val v none
    |_=>none
def Q0h(t:TypeId)(a x:Operand):Option Zk:=match r a,(r x).cells,sz P t with
    | .ptr f s o,some cs,some n=>(match g f s with
      |some (.cells xs)=>if cs.length=n/\o+n<=xs.length then some (.val .bad (some (f,s,.cells (splice xs o cs)))) else none
      |_=>none)
    |_,_,_=>none
def ncV:V->Option V
    | .ptr f s o=>some (.ptr f s o)
    | .iptr cs o=>some (.iptr cs o)
    | .rptr cs o=>some (.rptr cs o)
    | .func (.func f) a b=>some (.func (.func f) a b)
    | .yield f s=>some (.yield f s)
    | .face t v=>some (.face t v)
    |_=>none
def aSATP(t:TypeId)(x:Operand):Option Zk:=match P.underlying t with
    |some (.array n e)=>(match sz P e,r x with
     |some k,.iS cs len _=>if n<=len/\0<n/\cs.length=len*k/\0<k then some (.val (.iptr cs 0) none) else none
     |some k,.gS _ _ cs len e' =>if n<=len/\e' =k/\Qx cs then some (.val (.iptr cs 0) none) else none
     |some k,.mS f s o len _ e' =>if n<=len/\e' =k then some (.val (.ptr f s o) none) else none
     |_,_=>none)
    |_=>none
def Zbn(t:TypeId)(x:Operand):Option Zk:=match P.underlying t with
    |some (.interface _)|none=>none
    |some _=>some (.val (.face t (r x)) none)
def Qr8(fn:Fn)(a c:Array Operand):Option Zk:=some (.val (.func fn (a.toList.map r) (c.toList.map r)) none)
def Qwt(t:TypeId)(h:Option Operand):Option Zk:=match P.underlying t,h with
    |some (.map _ _),none=>new g 0 (some nm) (.map [] [] 0) (fun d=> .map 0 d)
    |some (.map _ _),some x=>(match r x with
     | .int _ _=>new g 0 (some nm) (.map [] [] 0) (fun d=> .map 0 d)
     |_=>none)
    |_,_=>none
def Qp0(t:TypeId)(l c:Operand):Option Zk:=match P.underlying t with
    |some (.slice e)=>(match sz P e,byt P e,zeroCells P e,r l,r c with
     |some k,some by_,some z,.int .i64 l,.int .i64 c=>
      if 0<=l/\l<=c/\Jl c.toNat by_/\z.length=k then
       new g 0 (some nm) (.cells (zerosN z c.toNat)) (fun d=> .mS 0 d 0 l.toNat (some c.toNat) k) else none
     |_,_,_,_,_=>none)
    |_=>none
def Q98(t:TypeId)(x:Operand)(lo hi mx:Option Operand):Option Zk:=(Zh P g t (r x) (lo.map r) (hi.map r) (mx.map r)).map fun v=> .val v none
def Qjx(t:TypeId)(x:Operand)(i:Nat):Option Zk:=match P.underlying t with
    |some (.struct fs)=>(match fs[i]? with
     |some f=>(match sz P f.type with
      |some n=>if n=0 then none else(match r x with
       | .ptr a b o=>some (.val (.ptr a b (o+f.offset)) none)
       | .iptr cs o=>some (.val (.iptr cs (o+f.offset)) none)
       | .rptr cs o=>some (.val (.rptr cs (o+f.offset)) none)
       |_=>none)
      |none=>none)
     |none=>none)
    |_=>none
def Q0t(t:TypeId)(x:Operand)(i:Nat):Option Zk:=match P.underlying t,r x with
    |some (.struct fs),.agg cs=>(match fs[i]? with
     |some f=>(Qar P f.type cs f.offset).map fun v=> .val v none
     |none=>none)
    |_,_=>none
def Qp2(t:Operand)(i:Nat):Option Zk:=match r t with
    | .tuple vs=>(vs[i]?).map fun v=> .val v none
    |_=>none
def Qnk(x:Operand)(t:TypeId)(ok:Bool):Option Zk:=match P.underlying t,r x,zer P t with
    |some (.interface _),_,_|none,_,_|_,_,none=>none
    |_,.nI,some z=>if ok then some (.val (.tuple [Z0 z,.bool false]) none) else none
    |_,.face u v,some z=>if u=t then some (.val (if ok then .tuple [v,.bool true] else v) none) else if ok then some (.val (.tuple [Z0 z,.bool false]) none) else none
    |_,_,_=>none
def Q3h(c:Go.Call):Option Zk:=match c.callee with
    | .builtin b=>builtinV P (fun _=>true) 0 g (some nm) b c.argTypes (c.args.toList.map r)
    | .value f=>(match r f with
      | .func (.func f) first captured=>some (.call f (first++c.args.toList.map r++captured))
      | .yield f s=>some (.round f s (c.args.toList.map r))
      |_=>none)
    | .invoke _ _=>none
def Q95(x:Operand):Option Zk:=match r x with
    | .face t v=>some (.panic (.face t v))
    |_=>none
end arms
noncomputable def evX(P:Program)(g:Get)(r:Operand->V)(nm:Nat)(o:Op):Option Zk:=
 match o with
 | .move x| .assign x=>some (.val (r x) none)
 | .pick c a b=>Zbb r c a b
 | .alloc t=>Q0w P g nm t
 | .box _ x=>aBox g r nm x
 | .build t ps=>Zas P r t ps
 | .buildSlice t n ps=>Qmw P g r nm t n ps
 | .load t a=>Q79 P g r t a
 | .store t a x=>Q0h P g r t a x
 | .nilCheck x=>Qpd (ncV (r x))
 | .binOp op t x y _=>Qpd (Zp P op t x y (r x) (r y))
 | .unOp op _ x=>Qpd (unV op (r x))
 | .convert s d x=>(match Qhh P (fun _=>true) (some nm) s d (r x) with
   |some l=>new g 0 (some nm) (.grow l.length) (fun k=> .gS 0 k (Qb l) l.length 1)
   |none=>convertV P g s d (r x))
 | .sliceToArrayPointer t x=>aSATP P r t x
 | .makeInterface t x=>Zbn P r t x
 | .makeFunc fn a c=>Qr8 r fn a c
 | .makeMap t h=>Qwt P g r nm t h
 | .makeSlice t l c=>Qp0 P g r nm t l c
 | .slice t x lo hi mx=>Q98 P g r t x lo hi mx
 | .fieldAddr t x i=>Qjx P r t x i
 | .field t x i=>Q0t P r t x i
 | .indexAddr t x i=>Qpd (Qm P t (r x) (r i))
 | .index t x i=>Qpd (B1 P t (r x) (r i))
 | .lookup t m k ok=>Qpd (Qct P g t (r m) (r k) ok)
 | .mapUpdate t m k x| .insert t m k x=>updateV P g t (r m) (r k) (r x)
 | .extract t i=>Qp2 r t i
 | .typeAssert x _ t ok=>Qnk P r x t ok
 | .call c=>Q3h P g r nm c
 | .panic x=>Q95 r x
 | .range t x=>rangeV P g 0 (some nm) t (r x)
 | .next x b=>if b then nextS g (r x) else none
 | .entry x=>Qpd (Qbn g (r x))
 | .mapEntry t m k=>mapEntryV P g t (r m) (r k)
 | .entryStore _ m s x=>entryStoreV g (r m) (r s) (r x)
 |_=>none
theorem Zbw(P:Program)(g:Get)(r:Operand->V)(nm:Nat)(o:Oper):Zr P (fun _=>true) 0 g r (atN o nm)=evX P g r nm o.op:=by
 obtain⟨dst,op,ty,pos,after,gd⟩:=o;cases op<;>simp only[Zr,evX,atN,Qpd,Zbb,Q0w,aBox,Zas,Q79,Q0h,aSATP,Zbn,Qr8,Qwt,Qp0,Q98,Qjx,Q0t,Qp2,Qnk,Q3h,Q95]
 case nilCheck x=>cases hx:r x<;>simp only[ncV,Ztc,Zrb];rename_i fn a b;cases fn<;>rfl
 case buildSlice t n ps=>simp only[Qmw,if_true];rfl
 all_goals rfl
end Go.AM.BM
end
