/- This file holds in one the texts OFa, OG, Am42; each says at its head what it proves. -/
import Derived.Test.YtebbgmeomkjibaaG22
import Derived.Test.YtebbgmeomkjibaaG25
set_option linter.unusedSimpArgs false
set_option linter.unusedVariables false
section
/- facts on types, a bundle a function: by a program of ours. -/
namespace Go.Proofs.Ytebbgmeomkjibaa
open Go.AM
abbrev tyf0 := And.intro @sz3 <| And.intro @zc3 <| @rd3
abbrev tyf1 := And.intro @sz5 <| And.intro @zc5 <| @rd5
abbrev tyf2 := And.intro @sz9 <| And.intro @zc9 <| And.intro @rd9 <| @ln9
abbrev tyf3 := And.intro @sz22 <| And.intro @zc22 <| And.intro @rd22 <| And.intro @ln22 <| @lnn22
abbrev tyf4 := And.intro @sz26 <| And.intro @zc26 <| And.intro @rd26 <| And.intro @ln26 <| @lnn26
abbrev tyf5 := And.intro @sz28 <| And.intro @zc28 <| And.intro @rd28 <| And.intro @fo28_0 <| And.intro @ff28_0 <| And.intro @fo28_1 <| And.intro @ff28_1 <| And.intro @fo28_2 <| And.intro @ff28_2 <| And.intro @fo28_3 <| And.intro @ff28_3 <| And.intro @fo28_4 <| And.intro @ff28_4 <| And.intro @fo28_5 <| And.intro @ff28_5 <| And.intro @fo28_6 <| And.intro @ff28_6 <| And.intro @fo28_7 <| And.intro @ff28_7 <| @bv28
abbrev tyf6 := And.intro @sz30 <| And.intro @zc30 <| And.intro @rd30 <| And.intro @ln30 <| @lnn30
abbrev tyf7 := And.intro @sz36 <| And.intro @zc36 <| And.intro @rd36 <| And.intro @fo36_0 <| And.intro @ff36_0 <| And.intro @fo36_1 <| And.intro @ff36_1 <| And.intro @fo36_2 <| And.intro @ff36_2 <| And.intro @fo36_3 <| And.intro @ff36_3 <| And.intro @fo36_4 <| And.intro @ff36_4 <| And.intro @fo36_5 <| And.intro @ff36_5 <| @bv36
abbrev tyf8 := And.intro @sz43 <| And.intro @zc43 <| @rd43
abbrev tyf9 := And.intro @sz44 <| And.intro @zc44 <| @rd44
abbrev tyf10 := And.intro @sz46 <| And.intro @zc46 <| And.intro @rd46 <| And.intro @fo46_0 <| And.intro @ff46_0 <| And.intro @fo46_1 <| And.intro @ff46_1 <| @bv46
abbrev tyf11 := And.intro @sz57 <| And.intro @zc57 <| @rd57
abbrev tyf12 := And.intro @sz4 <| And.intro @zc4 <| @rd4
abbrev tyf13 := And.intro @sz23 <| And.intro @zc23 <| @rd23
abbrev tyf14 := And.intro @sz31 <| And.intro @zc31 <| And.intro @rd31 <| And.intro @ln31 <| @lnn31
abbrev tyf15 := And.intro @sz33 <| And.intro @zc33 <| And.intro @rd33 <| And.intro @fo33_0 <| And.intro @ff33_0 <| And.intro @fo33_1 <| And.intro @ff33_1 <| And.intro @fo33_2 <| And.intro @ff33_2 <| And.intro @fo33_3 <| And.intro @ff33_3 <| And.intro @fo33_4 <| And.intro @ff33_4 <| @bv33
abbrev tyf16 := And.intro @sz34 <| And.intro @zc34 <| And.intro @rd34 <| And.intro @ln34 <| @lnn34
abbrev tyf17 := And.intro @sz49 <| And.intro @zc49 <| @rd49
abbrev tyf18 := And.intro @sz51 <| And.intro @zc51 <| @rd51
abbrev tyf19 := And.intro @sz53 <| And.intro @zc53 <| @rd53
abbrev tyf20 := And.intro @sz55 <| And.intro @zc55 <| @rd55
abbrev tyf21 := And.intro @sz60 <| And.intro @zc60 <| And.intro @rd60 <| And.intro @fo60_0 <| And.intro @ff60_0 <| And.intro @fo60_1 <| And.intro @ff60_1 <| @bv60
abbrev tyf22 := And.intro @sz61 <| And.intro @zc61 <| @rd61
abbrev tyf23 := And.intro @sz62 <| And.intro @zc62 <| @rd62
abbrev tyf24 := And.intro @sz65 <| And.intro @zc65 <| @rd65
abbrev tyf25 := And.intro @sz67 <| And.intro @zc67 <| And.intro @rd67 <| And.intro @fo67_0 <| And.intro @ff67_0 <| And.intro @fo67_1 <| And.intro @ff67_1 <| And.intro @fo67_2 <| And.intro @ff67_2 <| And.intro @fo67_3 <| And.intro @ff67_3 <| And.intro @fo67_4 <| And.intro @ff67_4 <| And.intro @fo67_5 <| And.intro @ff67_5 <| @bv67
abbrev tyf26 := And.intro @sz64 <| And.intro @zc64 <| And.intro @rd64 <| And.intro @fo64_0 <| And.intro @ff64_0 <| And.intro @fo64_1 <| And.intro @ff64_1 <| And.intro @fo64_2 <| And.intro @ff64_2 <| @bv64
abbrev tyf27 := And.intro @sz75 <| And.intro @zc75 <| @rd75
abbrev tyf28 := And.intro @sz1 <| And.intro @zc1 <| @rd1
abbrev tyf29 := And.intro @sz89 <| And.intro @zc89 <| @rd89
abbrev tyf30 := And.intro @sz20 <| And.intro @zc20 <| @rd20
abbrev ta7 := And.intro tyf0 <| And.intro tyf1 <| And.intro tyf2 <| And.intro tyf3 <| And.intro tyf4 <| And.intro tyf5 <| And.intro tyf6 <| And.intro tyf7 <| And.intro tyf8 <| And.intro tyf9 <| And.intro tyf10 <| tyf11
abbrev ta10 := And.intro tyf0 <| And.intro tyf1 <| And.intro tyf2 <| And.intro tyf4 <| And.intro tyf5 <| tyf6
abbrev ta12 := And.intro tyf0 <| And.intro tyf12 <| And.intro tyf1 <| And.intro tyf2 <| And.intro tyf13 <| And.intro tyf4 <| And.intro tyf5 <| And.intro tyf14 <| And.intro tyf15 <| And.intro tyf16 <| And.intro tyf7 <| And.intro tyf8 <| And.intro tyf9 <| And.intro tyf10 <| And.intro tyf17 <| And.intro tyf18 <| And.intro tyf19 <| And.intro tyf20 <| And.intro tyf11 <| And.intro tyf21 <| And.intro tyf22 <| And.intro tyf23 <| And.intro tyf24 <| tyf25
abbrev ta13 := And.intro tyf0 <| And.intro tyf1 <| And.intro tyf2 <| And.intro tyf13 <| And.intro tyf4 <| And.intro tyf14 <| And.intro tyf15 <| And.intro tyf16 <| tyf7
abbrev ta18 := And.intro tyf0 <| And.intro tyf12 <| And.intro tyf1 <| And.intro tyf2 <| And.intro tyf13 <| And.intro tyf4 <| And.intro tyf5 <| And.intro tyf14 <| And.intro tyf15 <| And.intro tyf16 <| And.intro tyf7 <| And.intro tyf8 <| And.intro tyf11 <| And.intro tyf21 <| And.intro tyf22 <| And.intro tyf23 <| And.intro tyf24 <| tyf25
abbrev ta19 := And.intro tyf0 <| And.intro tyf12 <| And.intro tyf1 <| And.intro tyf2 <| And.intro tyf13 <| And.intro tyf4 <| And.intro tyf5 <| And.intro tyf14 <| And.intro tyf15 <| And.intro tyf16 <| And.intro tyf7 <| And.intro tyf8 <| And.intro tyf9 <| And.intro tyf10 <| And.intro tyf11 <| And.intro tyf22 <| And.intro tyf23 <| And.intro tyf24 <| tyf25
abbrev ta20 := And.intro tyf0 <| And.intro tyf12 <| And.intro tyf1 <| And.intro tyf2 <| And.intro tyf13 <| And.intro tyf4 <| And.intro tyf5 <| And.intro tyf14 <| And.intro tyf15 <| And.intro tyf16 <| And.intro tyf7 <| And.intro tyf8 <| And.intro tyf9 <| And.intro tyf10 <| And.intro tyf11 <| And.intro tyf22 <| And.intro tyf23 <| And.intro tyf24 <| tyf25
abbrev ta21 := And.intro tyf0 <| And.intro tyf12 <| And.intro tyf1 <| And.intro tyf2 <| And.intro tyf13 <| And.intro tyf4 <| And.intro tyf5 <| And.intro tyf14 <| And.intro tyf15 <| And.intro tyf16 <| And.intro tyf7 <| And.intro tyf9 <| And.intro tyf10 <| And.intro tyf11 <| And.intro tyf22 <| And.intro tyf23 <| And.intro tyf24 <| tyf25
abbrev ta22 := And.intro tyf0 <| And.intro tyf12 <| And.intro tyf1 <| And.intro tyf2 <| And.intro tyf13 <| And.intro tyf4 <| And.intro tyf5 <| And.intro tyf14 <| And.intro tyf15 <| And.intro tyf16 <| And.intro tyf7 <| And.intro tyf9 <| And.intro tyf10 <| And.intro tyf11 <| And.intro tyf22 <| And.intro tyf23 <| And.intro tyf26 <| And.intro tyf24 <| tyf25
abbrev ta23 := And.intro tyf0 <| And.intro tyf12 <| And.intro tyf1 <| And.intro tyf2 <| And.intro tyf13 <| And.intro tyf4 <| And.intro tyf5 <| And.intro tyf14 <| And.intro tyf15 <| And.intro tyf16 <| And.intro tyf7 <| And.intro tyf9 <| And.intro tyf10 <| And.intro tyf11 <| And.intro tyf22 <| And.intro tyf23 <| And.intro tyf24 <| tyf25
abbrev ta24 := And.intro tyf0 <| And.intro tyf12 <| And.intro tyf1 <| And.intro tyf2 <| And.intro tyf13 <| And.intro tyf4 <| And.intro tyf5 <| And.intro tyf14 <| And.intro tyf15 <| And.intro tyf16 <| And.intro tyf7 <| And.intro tyf9 <| And.intro tyf10 <| And.intro tyf11 <| And.intro tyf21 <| And.intro tyf22 <| And.intro tyf23 <| And.intro tyf24 <| tyf25
abbrev ta25 := And.intro tyf0 <| And.intro tyf12 <| And.intro tyf1 <| And.intro tyf2 <| And.intro tyf13 <| And.intro tyf4 <| And.intro tyf5 <| And.intro tyf14 <| And.intro tyf15 <| And.intro tyf16 <| And.intro tyf7 <| And.intro tyf9 <| And.intro tyf10 <| And.intro tyf11 <| And.intro tyf21 <| And.intro tyf22 <| And.intro tyf23 <| And.intro tyf24 <| tyf25
abbrev ta26 := And.intro tyf0 <| And.intro tyf1 <| And.intro tyf2 <| And.intro tyf13 <| And.intro tyf4 <| And.intro tyf5 <| And.intro tyf14 <| And.intro tyf15 <| And.intro tyf16 <| And.intro tyf7 <| And.intro tyf9 <| And.intro tyf10 <| And.intro tyf11 <| tyf27
abbrev ta27 := And.intro tyf0 <| And.intro tyf1 <| And.intro tyf2 <| And.intro tyf13 <| And.intro tyf4 <| And.intro tyf5 <| And.intro tyf14 <| And.intro tyf15 <| And.intro tyf16 <| And.intro tyf7 <| And.intro tyf9 <| And.intro tyf10 <| tyf11
abbrev ta28 := And.intro tyf0 <| And.intro tyf1 <| And.intro tyf2 <| And.intro tyf13 <| And.intro tyf4 <| And.intro tyf5 <| And.intro tyf14 <| And.intro tyf15 <| And.intro tyf16 <| tyf7
abbrev ta29 := And.intro tyf0 <| And.intro tyf1 <| And.intro tyf2 <| And.intro tyf13 <| And.intro tyf4 <| And.intro tyf5 <| And.intro tyf14 <| And.intro tyf15 <| And.intro tyf16 <| And.intro tyf7 <| And.intro tyf11 <| tyf26
abbrev ta30 := And.intro tyf0 <| And.intro tyf1 <| And.intro tyf2 <| And.intro tyf13 <| And.intro tyf4 <| And.intro tyf5 <| And.intro tyf14 <| And.intro tyf15 <| And.intro tyf16 <| And.intro tyf7 <| And.intro tyf11 <| tyf26
abbrev ta31 := And.intro tyf28 <| And.intro tyf0 <| And.intro tyf12 <| And.intro tyf1 <| And.intro tyf2 <| And.intro tyf13 <| And.intro tyf4 <| And.intro tyf5 <| And.intro tyf14 <| And.intro tyf15 <| And.intro tyf16 <| And.intro tyf7 <| And.intro tyf11 <| And.intro tyf22 <| And.intro tyf23 <| And.intro tyf26 <| And.intro tyf24 <| tyf25
abbrev ta32 := And.intro tyf28 <| And.intro tyf0 <| And.intro tyf12 <| And.intro tyf1 <| And.intro tyf2 <| And.intro tyf13 <| And.intro tyf4 <| And.intro tyf5 <| And.intro tyf14 <| And.intro tyf15 <| And.intro tyf16 <| And.intro tyf7 <| And.intro tyf11 <| And.intro tyf22 <| And.intro tyf23 <| And.intro tyf24 <| tyf25
abbrev ta33 := And.intro tyf28 <| And.intro tyf0 <| And.intro tyf12 <| And.intro tyf1 <| And.intro tyf2 <| And.intro tyf13 <| And.intro tyf4 <| And.intro tyf5 <| And.intro tyf14 <| And.intro tyf15 <| And.intro tyf16 <| And.intro tyf7 <| And.intro tyf11 <| And.intro tyf22 <| And.intro tyf23 <| And.intro tyf24 <| tyf25
abbrev ta34 := And.intro tyf0 <| And.intro tyf12 <| And.intro tyf1 <| And.intro tyf2 <| And.intro tyf13 <| And.intro tyf4 <| And.intro tyf5 <| And.intro tyf14 <| And.intro tyf15 <| And.intro tyf16 <| And.intro tyf7 <| And.intro tyf11 <| And.intro tyf22 <| And.intro tyf23 <| And.intro tyf26 <| And.intro tyf24 <| tyf25
abbrev ta35 := And.intro tyf28 <| And.intro tyf0 <| And.intro tyf1 <| And.intro tyf2 <| And.intro tyf13 <| And.intro tyf4 <| And.intro tyf5 <| And.intro tyf14 <| And.intro tyf15 <| And.intro tyf16 <| And.intro tyf7 <| tyf11
abbrev ta36 := And.intro tyf28 <| And.intro tyf0 <| And.intro tyf1 <| And.intro tyf2 <| And.intro tyf13 <| And.intro tyf4 <| And.intro tyf5 <| And.intro tyf14 <| And.intro tyf15 <| And.intro tyf16 <| And.intro tyf7 <| tyf11
abbrev ta37 := And.intro tyf0 <| And.intro tyf12 <| And.intro tyf1 <| And.intro tyf2 <| And.intro tyf13 <| And.intro tyf4 <| And.intro tyf5 <| And.intro tyf14 <| And.intro tyf15 <| And.intro tyf16 <| And.intro tyf7 <| And.intro tyf22 <| And.intro tyf23 <| And.intro tyf26 <| And.intro tyf24 <| tyf25
abbrev ta38 := And.intro tyf0 <| And.intro tyf12 <| And.intro tyf1 <| And.intro tyf2 <| And.intro tyf13 <| And.intro tyf4 <| And.intro tyf5 <| And.intro tyf14 <| And.intro tyf15 <| And.intro tyf16 <| And.intro tyf7 <| And.intro tyf22 <| And.intro tyf23 <| And.intro tyf24 <| And.intro tyf25 <| tyf29
abbrev ta41 := And.intro tyf0 <| And.intro tyf9 <| And.intro tyf10 <| tyf11
abbrev ta42 := And.intro tyf0 <| And.intro tyf12 <| And.intro tyf1 <| And.intro tyf2 <| And.intro tyf4 <| And.intro tyf22 <| And.intro tyf23 <| And.intro tyf26 <| And.intro tyf24 <| tyf25
abbrev ta45 := And.intro tyf0 <| And.intro tyf12 <| And.intro tyf22 <| And.intro tyf23 <| And.intro tyf24 <| tyf25
abbrev ta46 := And.intro tyf0 <| And.intro tyf12 <| And.intro tyf1 <| And.intro tyf2 <| And.intro tyf13 <| And.intro tyf4 <| And.intro tyf14 <| And.intro tyf15 <| And.intro tyf16 <| And.intro tyf7 <| And.intro tyf11 <| And.intro tyf22 <| And.intro tyf23 <| And.intro tyf26 <| And.intro tyf24 <| tyf25
abbrev ta47 := And.intro tyf0 <| And.intro tyf12 <| And.intro tyf2 <| And.intro tyf22 <| And.intro tyf23 <| And.intro tyf24 <| tyf25
abbrev ta48 := And.intro tyf0 <| And.intro tyf13 <| And.intro tyf4 <| And.intro tyf14 <| And.intro tyf15 <| And.intro tyf16 <| And.intro tyf7 <| tyf11
abbrev ta49 := And.intro tyf0 <| And.intro tyf12 <| And.intro tyf1 <| And.intro tyf2 <| And.intro tyf4 <| And.intro tyf5 <| And.intro tyf11 <| And.intro tyf22 <| And.intro tyf23 <| And.intro tyf26 <| And.intro tyf24 <| tyf25
abbrev ta50 := And.intro tyf0 <| And.intro tyf12 <| And.intro tyf1 <| And.intro tyf2 <| And.intro tyf4 <| And.intro tyf5 <| And.intro tyf11 <| And.intro tyf22 <| And.intro tyf23 <| And.intro tyf26 <| And.intro tyf24 <| tyf25
abbrev ta51 := And.intro tyf0 <| And.intro tyf12 <| And.intro tyf1 <| And.intro tyf2 <| And.intro tyf4 <| And.intro tyf5 <| And.intro tyf11 <| And.intro tyf22 <| And.intro tyf23 <| And.intro tyf24 <| tyf25
abbrev ta53 := And.intro tyf0 <| And.intro tyf12 <| And.intro tyf1 <| And.intro tyf2 <| And.intro tyf4 <| And.intro tyf22 <| And.intro tyf23 <| And.intro tyf26 <| And.intro tyf24 <| tyf25
abbrev ta54 := And.intro tyf1 <| tyf4
abbrev ta55 := And.intro tyf0 <| And.intro tyf12 <| And.intro tyf1 <| And.intro tyf2 <| And.intro tyf4 <| And.intro tyf5 <| And.intro tyf11 <| And.intro tyf22 <| And.intro tyf23 <| And.intro tyf26 <| And.intro tyf24 <| tyf25
abbrev ta56 := And.intro tyf1 <| tyf4
abbrev ta57 := And.intro tyf0 <| And.intro tyf12 <| And.intro tyf1 <| And.intro tyf2 <| And.intro tyf4 <| And.intro tyf5 <| And.intro tyf11 <| And.intro tyf22 <| And.intro tyf23 <| And.intro tyf26 <| And.intro tyf24 <| tyf25
abbrev ta59 := And.intro tyf0 <| And.intro tyf2 <| tyf23
abbrev ta61 := And.intro tyf0 <| And.intro tyf2 <| And.intro tyf30 <| tyf23
end Go.Proofs.Ytebbgmeomkjibaa
end
section
/- the states at loops' heads, by a program of ours (wip/dbg/V2.lean, wip/am/loops.py). -/
namespace Go.Proofs.Ytebbgmeomkjibaa
open Go.AM
def st7_6 (v4 v5 v14 v15 v16 : V) : List V := [.bad, .bad, .bad, .bad, v4, v5, .bad, .bad, .bad, .bad, .bad, .bad, .bad, .bad, v14, v15, v16, .bad, .bad, .bad, .bad, .bad, .bad, .bad, .bad, .bad, .bad, .bad]
def st10_3 (v0 v1 v5 v6 : V) : List V := [v0, v1, .bad, .bad, .bad, v5, v6, .bad, .bad, .bad, .bad, .bad, .bad, .bad, .bad, .bad, .bad, .bad, .bad, .bad, .bad, .bad, .bad, .bad, .bad, .bad, .bad, .bad, .bad, .bad, .bad, .bad, .bad, .bad, .bad, .bad, .bad, .bad, .bad, .bad, .bad, .bad, .bad, .bad, .bad, .bad, .bad, .bad, .bad, .bad, .bad, .bad, .bad, .bad, .bad, .bad, .bad, .bad, .bad, .bad, .bad, .bad, .bad, .bad, .bad, .bad, .bad, .bad]
def st11_4 (v0 v1 v5 : V) : List V := [v0, v1, .bad, .bad, .bad, v5, .bad, .bad, .bad, .bad, .bad, .bad, .bad, .bad, .bad, .bad, .bad, .bad, .bad, .bad, .bad, .bad, .bad, .bad, .bad, .bad, .bad]
def st13_4 (v2 v3 v5 : V) : List V := [.bad, .bad, v2, v3, .bad, v5, .bad, .bad, .bad, .bad, .bad, .bad, .bad, .bad, .bad, .bad, .bad, .bad, .bad, .bad, .bad, .bad, .bad, .bad, .bad, .bad, .bad, .bad, .bad, .bad, .bad, .bad, .bad, .bad, .bad, .bad, .bad, .bad, .bad, .bad, .bad, .bad, .bad, .bad, .bad, .bad, .bad, .bad, .bad, .bad, .bad, .bad, .bad, .bad, .bad, .bad, .bad, .bad, .bad, .bad, .bad, .bad, .bad, .bad, .bad, .bad, .bad, .bad, .bad, .bad, .bad, .bad, .bad, .bad, .bad, .bad, .bad, .bad, .bad, .bad, .bad, .bad, .bad, .bad, .bad, .bad, .bad, .bad, .bad]
def st13_9 (v2 v3 v6 : V) : List V := [.bad, .bad, v2, v3, .bad, .bad, v6, .bad, .bad, .bad, .bad, .bad, .bad, .bad, .bad, .bad, .bad, .bad, .bad, .bad, .bad, .bad, .bad, .bad, .bad, .bad, .bad, .bad, .bad, .bad, .bad, .bad, .bad, .bad, .bad, .bad, .bad, .bad, .bad, .bad, .bad, .bad, .bad, .bad, .bad, .bad, .bad, .bad, .bad, .bad, .bad, .bad, .bad, .bad, .bad, .bad, .bad, .bad, .bad, .bad, .bad, .bad, .bad, .bad, .bad, .bad, .bad, .bad, .bad, .bad, .bad, .bad, .bad, .bad, .bad, .bad, .bad, .bad, .bad, .bad, .bad, .bad, .bad, .bad, .bad, .bad, .bad, .bad, .bad]
def st21_11 (v0 v3 v4 v6 v7 : V) : List V := [v0, .bad, .bad, v3, v4, .bad, v6, v7, .bad, .bad, .bad, .bad, .bad, .bad, .bad, .bad, .bad, .bad, .bad, .bad, .bad, .bad, .bad, .bad, .bad, .bad, .bad, .bad, .bad, .bad, .bad, .bad, .bad, .bad, .bad, .bad, .bad, .bad, .bad, .bad, .bad, .bad, .bad, .bad, .bad, .bad, .bad, .bad, .bad, .bad, .bad, .bad, .bad, .bad, .bad, .bad, .bad, .bad, .bad, .bad, .bad, .bad, .bad, .bad, .bad, .bad, .bad, .bad, .bad, .bad, .bad, .bad, .bad, .bad, .bad, .bad, .bad, .bad, .bad, .bad, .bad, .bad, .bad, .bad, .bad, .bad, .bad, .bad, .bad, .bad, .bad, .bad, .bad, .bad, .bad, .bad, .bad, .bad]
def st23_6 (v0 v3 v4 v5 v6 v7 v26 : V) : List V := [v0, .bad, .bad, v3, v4, v5, v6, v7, .bad, .bad, .bad, .bad, .bad, .bad, .bad, .bad, .bad, .bad, .bad, .bad, .bad, .bad, .bad, .bad, .bad, .bad, v26, .bad, .bad, .bad, .bad, .bad, .bad, .bad, .bad, .bad, .bad, .bad, .bad, .bad, .bad, .bad, .bad, .bad, .bad, .bad, .bad, .bad, .bad, .bad, .bad, .bad, .bad, .bad, .bad, .bad, .bad, .bad, .bad, .bad, .bad, .bad, .bad, .bad, .bad, .bad, .bad, .bad, .bad, .bad, .bad, .bad, .bad, .bad, .bad, .bad, .bad, .bad, .bad, .bad, .bad, .bad, .bad, .bad, .bad, .bad, .bad, .bad, .bad, .bad, .bad, .bad, .bad, .bad, .bad, .bad, .bad, .bad, .bad, .bad, .bad, .bad, .bad, .bad, .bad]
def st23_15 (v0 v3 v4 v5 v79 : V) : List V := [v0, .bad, .bad, v3, v4, v5, .bad, .bad, .bad, .bad, .bad, .bad, .bad, .bad, .bad, .bad, .bad, .bad, .bad, .bad, .bad, .bad, .bad, .bad, .bad, .bad, .bad, .bad, .bad, .bad, .bad, .bad, .bad, .bad, .bad, .bad, .bad, .bad, .bad, .bad, .bad, .bad, .bad, .bad, .bad, .bad, .bad, .bad, .bad, .bad, .bad, .bad, .bad, .bad, .bad, .bad, .bad, .bad, .bad, .bad, .bad, .bad, .bad, .bad, .bad, .bad, .bad, .bad, .bad, .bad, .bad, .bad, .bad, .bad, .bad, .bad, .bad, .bad, .bad, v79, .bad, .bad, .bad, .bad, .bad, .bad, .bad, .bad, .bad, .bad, .bad, .bad, .bad, .bad, .bad, .bad, .bad, .bad, .bad, .bad, .bad, .bad, .bad, .bad, .bad]
def st42_4 (v0 v3 v14 : V) : List V := [v0, .bad, .bad, v3, .bad, .bad, .bad, .bad, .bad, .bad, .bad, .bad, .bad, .bad, v14, .bad, .bad, .bad, .bad, .bad, .bad, .bad, .bad, .bad, .bad, .bad, .bad, .bad, .bad, .bad]
def st46_3 (v0 v1 v5 v6 v7 v8 : V) : List V := [v0, v1, .bad, .bad, .bad, v5, v6, v7, v8, .bad, .bad, .bad, .bad, .bad, .bad, .bad, .bad, .bad, .bad, .bad, .bad, .bad, .bad, .bad, .bad, .bad, .bad, .bad, .bad, .bad, .bad, .bad, .bad, .bad, .bad, .bad, .bad, .bad, .bad, .bad, .bad, .bad, .bad, .bad, .bad, .bad, .bad, .bad, .bad, .bad, .bad, .bad, .bad, .bad, .bad, .bad]
def st53_2 (v0 v1 v8 : V) : List V := [v0, v1, .bad, .bad, .bad, .bad, .bad, .bad, v8, .bad, .bad, .bad, .bad, .bad, .bad, .bad, .bad, .bad, .bad, .bad, .bad, .bad, .bad, .bad, .bad, .bad, .bad, .bad, .bad, .bad, .bad, .bad, .bad, .bad, .bad, .bad, .bad, .bad, .bad, .bad, .bad]
def st60_2 (v0 v1 v7 v8 : V) : List V := [v0, v1, .bad, .bad, .bad, .bad, .bad, v7, v8, .bad, .bad, .bad, .bad, .bad, .bad, .bad, .bad, .bad, .bad]
end Go.Proofs.Ytebbgmeomkjibaa
end
section
/- The abstract machine, part 42: heaps by what they hold; calls by what they come to. -/
namespace Go.AM

theorem popF_len {n : Nat} {v : V} {K : Heap} (h : n ≤ K.length) : n ≤ (popF n v K).length := by
  unfold popF; split
  · simp [List.length_take]; omega
  · exact h
theorem popF_get {n : Nat} {v : V} {K : Heap} {f s : Nat} (hf : f < n) : hget (popF n v K) f s = hget K f s := by
  unfold popF; split
  · unfold hget; rw [List.getElem?_take]; simp [hf]
  · rfl
theorem popF_keep2 {n : Nat} {v : V} {K : Heap} {f s : Nat} {o : O} (hf : f < n) (h : hget K f s = some o) (ho : o.refs (fun f _ => Nat.ble n f) = true) : popF n v K = K := by
  unfold popF
  split
  case isFalse => rfl
  rename_i hc
  exfalso
  simp only [Bool.and_eq_true] at hc
  have h2 : hget (K.take n) f s = some o := by
    rw [← h]; unfold hget; rw [List.getElem?_take]; simp [hf]
  have := clearH_get _ _ _ _ hc.2 h2
  rw [this] at ho; cases ho

theorem hget_hset' {H : Heap} {f s : Nat} {o : O} (hf : f < H.length) (f' s' : Nat) : hget (hset H f s o) f' s' = if f' = f ∧ s' = s then some o else hget H f' s' := hget_hset H f s o hf f' s'
theorem hget_same {H : Heap} {f s : Nat} {o : O} (hf : f < H.length) : hget (hset H f s o) f s = some o := by rw [hget_hset H f s o hf]; simp
theorem hget_slot {H : Heap} {f s s' : Nat} {o : O} (hf : f < H.length) (h : ¬ s' = s) : hget (hset H f s o) f s' = hget H f s' := by rw [hget_hset H f s o hf]; simp [h]
theorem hget_frame {H : Heap} {f f' s s' : Nat} {o : O} (hf : f < H.length) (h : ¬ f' = f) : hget (hset H f s o) f' s' = hget H f' s' := by rw [hget_hset H f s o hf]; simp [h]
theorem hget_ne {H : Heap} {f f' s s' : Nat} {o : O} (hf : f < H.length) (h : ¬ (f' = f ∧ s' = s)) : hget (hset H f s o) f' s' = hget H f' s' := by rw [hget_hset H f s o hf]; simp [h]

section
variable {P : Program} {pol : Pol} {C : Call} {L : MBody → Body} {fn fr : Nat} {t : List V} {H : Heap} {d : Option Nat} {k k' : List It} {Q : Ex → List V → Heap → Prop}

def CR (P : Program) (pol : Pol) (f : FuncId) (args : List V) (H : Heap) (R : V → Heap → Prop) : Prop := CW P pol f args H fun r H' => ∃ v, r = .ret v ∧ R v H'
theorem CR.mono {f : FuncId} {args : List V} {R R' : V → Heap → Prop} (h : CR P pol f args H R) (k : ∀ v H', R v H' → R' v H') : CR P pol f args H R' := by
  refine CW.mono h ?_
  rintro r H' ⟨v, h1, h2⟩
  exact ⟨v, h1, k _ _ h2⟩

def EndK (P : Program) (F : Func) (b : Nat) (R : V → Heap → Prop) (e : Ex) (t : List V) (H : Heap) : Prop := match e with
  | .normal | .ret => ∃ v, resV P F t H = some v ∧ R v (popF b v H)
  | _ => False
theorem EndK.ret {F : Func} {b : Nat} {R : V → Heap → Prop} {v : V} (h : resV P F t H = some v) (h2 : R v (popF b v H)) : EndK P F b R .ret t H := ⟨v, h, h2⟩
theorem EndK.normal {F : Func} {b : Nat} {R : V → Heap → Prop} {v : V} (h : resV P F t H = some v) (h2 : R v (popF b v H)) : EndK P F b R .normal t H := ⟨v, h, h2⟩
theorem EndK.to {F : Func} {b : Nat} {R : V → Heap → Prop} {e : Ex} (h : EndK P F b R e t H) : End P F b (fun r H' => ∃ v, r = .ret v ∧ R v H') e t H := by
  cases e with
  | normal => obtain ⟨v, h1, h2⟩ := h; exact ⟨v, h1, v, rfl, h2⟩
  | ret => obtain ⟨v, h1, h2⟩ := h; exact ⟨v, h1, v, rfl, h2⟩
  | exit i => exact h
  | panic v => exact h.elim

structure Fresh (H : Heap) (n : Nat) (K : Heap) : Prop where
  len : K.length = n + 1
  lt : n < K.length
  own : ∀ s, hget K n s = none
  low : ∀ f s, f < n → hget K f s = hget H f s
theorem cr_of {f : FuncId} {F : Func} {c : Code} {args : List V} {R : V → Heap → Prop} (hF : P.funcs[f]? = some F) (hc : F.body = some c)
    (h : ∀ n K, n = H.length → Fresh H n K → W (U P pol (callW P pol) loopW f n [.code c] .normal (args ++ List.replicate (F.ntmps - args.length) .bad) K) (EndK P F n R)) (hs : pol.settle f = [] := by rfl) : CR P pol f args H R := by
  refine cw_of hF hc ((h H.length (H ++ [[]]) rfl ⟨by simp, by simp, fun s => ?_, fun f s hf => ?_⟩).mono fun e t H h => h.to) hs
  · rw [hget_app0]; rfl
  · exact hget_old H _ hf s

theorem W.call {f : FuncId} {args : List V} {R : V → Heap → Prop} (h : CR P pol f args H R) (hp : pol.prim f = none) (hq : pol.pure fn f = false) (ht : pol.thin fn f = false) (hl : pol.lift fn f = false) (hk : pol.look fn f = false)
    (h2 : ∀ v H', R v H' → W (U P pol C L fn fr k .normal (putT t d v) H') Q) : W (UC P pol C L fn fr (callOp pol (callW P pol) fn fr d f args H) d k k' t) Q := by
  obtain ⟨r, H', h3, v, rfl, h4⟩ := h
  rw [callOp_in hp hq ht h3 hl hk]
  exact h2 v H' h4
theorem W.pcall {f : FuncId} {args : List V} {R : V → Prop} (h : Fz P pol f args R) (hp : pol.prim f = none) (hq : pol.pure fn f = true) (ha : frzL (frz (fun _ _ => none) depth) args = some args)
    (h2 : ∀ v, R v → W (U P pol C L fn fr k .normal (putT t d v) H) Q) : W (UC P pol C L fn fr (callOp pol (callW P pol) fn fr d f args H) d k k' t) Q := by
  obtain ⟨v, h3, h4⟩ := h.op hp ha
  rw [h4 fn fr d H hq]
  exact h2 v h3
theorem W.pcall' {f : FuncId} {args args' : List V} {R : V → Prop} (h : Fz P pol f args' R) (hp : pol.prim f = none) (hq : pol.pure fn f = true) (ha : frzL (frz (fun _ _ => none) depth) args = some args')
    (h2 : ∀ v, R v → W (U P pol C L fn fr k .normal (putT t d v) H) Q) : W (UC P pol C L fn fr (callOp pol (callW P pol) fn fr d f args H) d k k' t) Q := by
  obtain ⟨v, h3, h4⟩ := h.op' hp ha
  rw [h4 fn fr d H hq]
  exact h2 v h3
end
end Go.AM
end
