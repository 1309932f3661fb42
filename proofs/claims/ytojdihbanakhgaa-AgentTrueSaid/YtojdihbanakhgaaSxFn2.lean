/- The functions of the program: the frame of their code, by numbers. Printed by genfn.py. -/
import Derived.Test.YtojdihbanakhgaaCoreB
import Derived.Test.YtojdihbanakhgaaProg
import Derived.KernelRfl
namespace Go.SX
open Go.Proofs.Try

-- parcener/ask.Total
noncomputable def r36_0 : List Oper := opsIn 0 f36
noncomputable def q36_1 : Q := .region 0 (fun _ => r36_0) [] false [0, 1, 2] []
noncomputable def r36_1 : List Oper := opsIn 1 f36
noncomputable def q36_4 : Q := .region 1 (fun _ => r36_1) [] false [0, 1, 2] []
noncomputable def r36_2 : List Oper := opsIn 2 f36
noncomputable def q36_6 : Q := .region 2 (fun _ => r36_2) [] false [0, 1] []
noncomputable def r36_3 : List Oper := opsIn 3 f36
noncomputable def q36_9 : Q := .region 3 (fun _ => r36_3) [] false [0, 1, 2] []
noncomputable def q36_8 : Q := .seq (fun _ => q36_9) (fun _ => .ret)
noncomputable def q36_7 : Q := .cond (.tmp 10) (fun _ => q36_8) (fun _ => .skip)
noncomputable def q36_5 : Q := .seq (fun _ => q36_6) (fun _ => q36_7)
noncomputable def q36_3 : Q := .seq (fun _ => q36_4) (fun _ => q36_5)
noncomputable def r36_4 : List Oper := opsIn 4 f36
noncomputable def q36_12 : Q := .region 4 (fun _ => r36_4) [] false [0, 1, 2, 3, 4] []
noncomputable def r36_5 : List Oper := opsIn 5 f36
noncomputable def q36_15 : Q := .region 5 (fun _ => r36_5) [] false [0, 1] []
noncomputable def q36_14 : Q := .seq (fun _ => q36_15) (fun _ => .ret)
noncomputable def q36_13 : Q := .cond (.tmp 16) (fun _ => q36_14) (fun _ => .skip)
noncomputable def q36_11 : Q := .seq (fun _ => q36_12) (fun _ => q36_13)
noncomputable def r36_6 : List Oper := opsIn 6 f36
noncomputable def q36_17 : Q := .region 6 (fun _ => r36_6) [] false [0, 1, 2, 3, 4, 5, 6, 7, 8, 9] []
noncomputable def q36_16 : Q := .seq (fun _ => q36_17) (fun _ => .ret)
noncomputable def q36_10 : Q := .seq (fun _ => q36_11) (fun _ => q36_16)
noncomputable def q36_2 : Q := .seq (fun _ => q36_3) (fun _ => q36_10)
noncomputable def q36_0 : Q := .seq (fun _ => q36_1) (fun _ => q36_2)
noncomputable def q36 : Unit → Q := fun _ => q36_0
theorem ok36 : FnOk 36 q36 [.tmp 4, .tmp 5] 25 := .of f36 func36 call36 (by kernel_rfl) (by kernel_rfl) (by kernel_rfl) (by kernel_rfl)

-- parcener/ask.Open
noncomputable def r37_0 : List Oper := opsIn 0 f37
noncomputable def q37_1 : Q := .region 0 (fun _ => r37_0) [] false [0, 1] []
noncomputable def r37_1 : List Oper := opsIn 1 f37
noncomputable def q37_4 : Q := .region 1 (fun _ => r37_1) [] false [0, 1, 2, 3] []
noncomputable def r37_2 : List Oper := opsIn 2 f37
noncomputable def q37_6 : Q := .region 2 (fun _ => r37_2) [] false [0, 1] []
noncomputable def r37_3 : List Oper := opsIn 3 f37
noncomputable def q37_9 : Q := .region 3 (fun _ => r37_3) [] false [0, 1, 2, 3] []
noncomputable def q37_8 : Q := .seq (fun _ => q37_9) (fun _ => .ret)
noncomputable def q37_7 : Q := .cond (.tmp 9) (fun _ => q37_8) (fun _ => .skip)
noncomputable def q37_5 : Q := .seq (fun _ => q37_6) (fun _ => q37_7)
noncomputable def q37_3 : Q := .seq (fun _ => q37_4) (fun _ => q37_5)
noncomputable def r37_4 : List Oper := opsIn 4 f37
noncomputable def q37_11 : Q := .region 4 (fun _ => r37_4) [] false [0, 1, 2, 3, 4] []
noncomputable def q37_10 : Q := .seq (fun _ => q37_11) (fun _ => .ret)
noncomputable def q37_2 : Q := .seq (fun _ => q37_3) (fun _ => q37_10)
noncomputable def q37_0 : Q := .seq (fun _ => q37_1) (fun _ => q37_2)
noncomputable def q37 : Unit → Q := fun _ => q37_0
theorem ok37 : FnOk 37 q37 [.cell 2 56, .tmp 3] 15 := .of f37 func37 call37 (by kernel_rfl) (by kernel_rfl) (by kernel_rfl) (by kernel_rfl)

-- parcener/ask.Replay
noncomputable def r38_0 : List Oper := opsIn 0 f38
noncomputable def q38_1 : Q := .region 0 (fun _ => r38_0) [] false [0, 1] []
noncomputable def r38_1 : List Oper := opsIn 1 f38
noncomputable def q38_3 : Q := .region 1 (fun _ => r38_1) [] false [0, 1, 2, 3, 4, 5] []
noncomputable def r38_2 : List Oper := opsIn 2 f38
noncomputable def q38_6 : Q := .region 2 (fun _ => r38_2) [] false [0, 1, 2, 3] []
noncomputable def r38_3 : List Oper := opsIn 3 f38
noncomputable def q38_8 : Q := .region 3 (fun _ => r38_3) [] false [0, 1] []
noncomputable def r38_4 : List Oper := opsIn 4 f38
noncomputable def q38_11 : Q := .region 4 (fun _ => r38_4) [] false [0, 1, 2] []
noncomputable def q38_10 : Q := .seq (fun _ => q38_11) (fun _ => .ret)
noncomputable def q38_9 : Q := .cond (.tmp 21) (fun _ => q38_10) (fun _ => .skip)
noncomputable def q38_7 : Q := .seq (fun _ => q38_8) (fun _ => q38_9)
noncomputable def q38_5 : Q := .seq (fun _ => q38_6) (fun _ => q38_7)
noncomputable def r38_5 : List Oper := opsIn 5 f38
noncomputable def q38_14 : Q := .region 5 (fun _ => r38_5) [] false [0, 1, 2, 3, 4] []
noncomputable def r38_6 : List Oper := opsIn 6 f38
noncomputable def q38_18 : Q := .region 6 (fun _ => r38_6) [] false [0] []
noncomputable def q38_20 : Q := .cond (.tmp 28) (fun _ => .skip) (fun _ => (.exit 0))
noncomputable def r38_7 : List Oper := opsIn 7 f38
noncomputable def q38_24 : Q := .region 7 (fun _ => r38_7) [] false [0, 1, 2, 3, 4, 5] []
noncomputable def r38_8 : List Oper := opsIn 8 f38
noncomputable def q38_26 : Q := .region 8 (fun _ => r38_8) [] false [0, 1, 2] []
noncomputable def r38_9 : List Oper := opsIn 9 f38
noncomputable def q38_29 : Q := .region 9 (fun _ => r38_9) [] false [0, 1, 2] []
noncomputable def r38_10 : List Oper := opsIn 10 f38
noncomputable def q38_31 : Q := .region 10 (fun _ => r38_10) [] false [0, 1, 2] []
noncomputable def q38_30 : Q := .cond (.tmp 36) (fun _ => q38_31) (fun _ => .skip)
noncomputable def q38_28 : Q := .seq (fun _ => q38_29) (fun _ => q38_30)
noncomputable def r38_11 : List Oper := opsIn 11 f38
noncomputable def q38_34 : Q := .region 11 (fun _ => r38_11) [5, 10] false [0, 1, 2, 3, 4, 5, 6, 7, 8, 9, 10, 11, 12, 13, 14] []
noncomputable def r38_12 : List Oper := opsIn 12 f38
noncomputable def q38_37 : Q := .region 12 (fun _ => r38_12) [] false [0, 1, 2] []
noncomputable def q38_36 : Q := .seq (fun _ => q38_37) (fun _ => .ret)
noncomputable def q38_35 : Q := .cond (.tmp 53) (fun _ => q38_36) (fun _ => .skip)
noncomputable def q38_33 : Q := .seq (fun _ => q38_34) (fun _ => q38_35)
noncomputable def r38_13 : List Oper := opsIn 13 f38
noncomputable def q38_39 : Q := .region 13 (fun _ => r38_13) [] false [0, 1, 2, 3, 4, 5, 6, 7, 8, 9, 10, 11, 12, 13] [(7, ⟨false, true, []⟩)]
noncomputable def r38_14 : List Oper := opsIn 14 f38
noncomputable def q38_41 : Q := .region 14 (fun _ => r38_14) [2] false [0, 1, 2, 3, 4, 5, 6, 7] []
noncomputable def r38_15 : List Oper := opsIn 15 f38
noncomputable def q38_44 : Q := .region 15 (fun _ => r38_15) [] false [0, 1, 2] []
noncomputable def q38_43 : Q := .seq (fun _ => q38_44) (fun _ => .ret)
noncomputable def q38_42 : Q := .cond (.tmp 73) (fun _ => q38_43) (fun _ => .skip)
noncomputable def q38_40 : Q := .seq (fun _ => q38_41) (fun _ => q38_42)
noncomputable def q38_38 : Q := .seq (fun _ => q38_39) (fun _ => q38_40)
noncomputable def q38_32 : Q := .seq (fun _ => q38_33) (fun _ => q38_38)
noncomputable def q38_27 : Q := .seq (fun _ => q38_28) (fun _ => q38_32)
noncomputable def q38_25 : Q := .seq (fun _ => q38_26) (fun _ => q38_27)
noncomputable def q38_23 : Q := .seq (fun _ => q38_24) (fun _ => q38_25)
noncomputable def q38_22 : Q := .block 1 (fun _ => q38_23)
noncomputable def r38_16 : List Oper := opsIn 16 f38
noncomputable def q38_45 : Q := .region 16 (fun _ => r38_16) [] false [0, 1] []
noncomputable def q38_21 : Q := .seq (fun _ => q38_22) (fun _ => q38_45)
noncomputable def q38_19 : Q := .seq (fun _ => q38_20) (fun _ => q38_21)
noncomputable def q38_17 : Q := .seq (fun _ => q38_18) (fun _ => q38_19)
noncomputable def q38_16 : Q := .loop (fun _ => q38_17)
noncomputable def q38_15 : Q := .block 0 (fun _ => q38_16)
noncomputable def q38_13 : Q := .seq (fun _ => q38_14) (fun _ => q38_15)
noncomputable def r38_17 : List Oper := opsIn 17 f38
noncomputable def q38_47 : Q := .region 17 (fun _ => r38_17) [] false [0, 1, 2, 3] []
noncomputable def q38_46 : Q := .seq (fun _ => q38_47) (fun _ => .ret)
noncomputable def q38_12 : Q := .seq (fun _ => q38_13) (fun _ => q38_46)
noncomputable def q38_4 : Q := .seq (fun _ => q38_5) (fun _ => q38_12)
noncomputable def q38_2 : Q := .seq (fun _ => q38_3) (fun _ => q38_4)
noncomputable def q38_0 : Q := .seq (fun _ => q38_1) (fun _ => q38_2)
noncomputable def q38 : Unit → Q := fun _ => q38_0
theorem ok38 : FnOk 38 q38 [.tmp 4, .tmp 5] 78 := .of f38 func38 call38 (by kernel_rfl) (by kernel_rfl) (by kernel_rfl) (by kernel_rfl)

-- parcener/ask.Count
noncomputable def r39_0 : List Oper := opsIn 0 f39
noncomputable def q39_1 : Q := .region 0 (fun _ => r39_0) [] false [0] []
noncomputable def r39_1 : List Oper := opsIn 1 f39
noncomputable def q39_4 : Q := .region 1 (fun _ => r39_1) [] false [0, 1] []
noncomputable def r39_2 : List Oper := opsIn 2 f39
noncomputable def q39_7 : Q := .region 2 (fun _ => r39_2) [] false [0, 1, 2] []
noncomputable def q39_6 : Q := .seq (fun _ => q39_7) (fun _ => .ret)
noncomputable def q39_5 : Q := .cond (.tmp 9) (fun _ => q39_6) (fun _ => .skip)
noncomputable def q39_3 : Q := .seq (fun _ => q39_4) (fun _ => q39_5)
noncomputable def r39_3 : List Oper := opsIn 3 f39
noncomputable def q39_9 : Q := .region 3 (fun _ => r39_3) [] false [0] []
noncomputable def r39_4 : List Oper := opsIn 4 f39
noncomputable def q39_12 : Q := .region 4 (fun _ => r39_4) [] false [0, 1, 2] []
noncomputable def r39_5 : List Oper := opsIn 5 f39
noncomputable def q39_16 : Q := .region 5 (fun _ => r39_5) [] false [0] []
noncomputable def q39_18 : Q := .cond (.tmp 15) (fun _ => .skip) (fun _ => (.exit 0))
noncomputable def r39_6 : List Oper := opsIn 6 f39
noncomputable def q39_22 : Q := .region 6 (fun _ => r39_6) [] false [0, 1, 2, 3] []
noncomputable def r39_7 : List Oper := opsIn 7 f39
noncomputable def q39_24 : Q := .region 7 (fun _ => r39_7) [] false [0, 1, 2, 3] []
noncomputable def r39_8 : List Oper := opsIn 8 f39
noncomputable def q39_26 : Q := .region 8 (fun _ => r39_8) [] false [0, 1, 2] []
noncomputable def q39_25 : Q := .cond (.tmp 21) (fun _ => q39_26) (fun _ => .skip)
noncomputable def q39_23 : Q := .seq (fun _ => q39_24) (fun _ => q39_25)
noncomputable def q39_21 : Q := .seq (fun _ => q39_22) (fun _ => q39_23)
noncomputable def q39_20 : Q := .block 1 (fun _ => q39_21)
noncomputable def r39_9 : List Oper := opsIn 9 f39
noncomputable def q39_27 : Q := .region 9 (fun _ => r39_9) [] false [0, 1] []
noncomputable def q39_19 : Q := .seq (fun _ => q39_20) (fun _ => q39_27)
noncomputable def q39_17 : Q := .seq (fun _ => q39_18) (fun _ => q39_19)
noncomputable def q39_15 : Q := .seq (fun _ => q39_16) (fun _ => q39_17)
noncomputable def q39_14 : Q := .loop (fun _ => q39_15)
noncomputable def q39_13 : Q := .block 0 (fun _ => q39_14)
noncomputable def q39_11 : Q := .seq (fun _ => q39_12) (fun _ => q39_13)
noncomputable def r39_10 : List Oper := opsIn 10 f39
noncomputable def q39_29 : Q := .region 10 (fun _ => r39_10) [] false [0, 1] []
noncomputable def q39_28 : Q := .seq (fun _ => q39_29) (fun _ => .ret)
noncomputable def q39_10 : Q := .seq (fun _ => q39_11) (fun _ => q39_28)
noncomputable def q39_8 : Q := .seq (fun _ => q39_9) (fun _ => q39_10)
noncomputable def q39_2 : Q := .seq (fun _ => q39_3) (fun _ => q39_8)
noncomputable def q39_0 : Q := .seq (fun _ => q39_1) (fun _ => q39_2)
noncomputable def q39 : Unit → Q := fun _ => q39_0
theorem ok39 : FnOk 39 q39 [.tmp 4] 26 := .of f39 func39 call39 (by kernel_rfl) (by kernel_rfl) (by kernel_rfl) (by kernel_rfl)

-- parcener/parcenerlaw04.alive
noncomputable def r40_0 : List Oper := opsIn 0 f40
noncomputable def q40_1 : Q := .region 0 (fun _ => r40_0) [] false [0] []
noncomputable def r40_1 : List Oper := opsIn 1 f40
noncomputable def q40_3 : Q := .region 1 (fun _ => r40_1) [] false [0, 1, 2, 3, 4, 5, 6, 7] []
noncomputable def r40_2 : List Oper := opsIn 2 f40
noncomputable def q40_5 : Q := .region 2 (fun _ => r40_2) [] false [0, 1, 2, 3, 4, 5, 6] []
noncomputable def r40_3 : List Oper := opsIn 3 f40
noncomputable def q40_7 : Q := .region 3 (fun _ => r40_3) [] false [0, 1, 2, 3, 4, 5, 6] []
noncomputable def r40_4 : List Oper := opsIn 4 f40
noncomputable def q40_9 : Q := .region 4 (fun _ => r40_4) [] true [0, 1, 2, 3, 4, 5, 6, 7, 8, 9, 10, 11, 12] [(6, ⟨true, false, []⟩), (7, ⟨true, false, []⟩)]
noncomputable def r40_5 : List Oper := opsIn 5 f40
noncomputable def q40_11 : Q := .region 5 (fun _ => r40_5) [] true [0, 1, 2, 3, 4, 5, 6, 7, 8, 9, 10, 11, 12] [(6, ⟨true, false, []⟩), (7, ⟨true, false, []⟩)]
noncomputable def r40_6 : List Oper := opsIn 6 f40
noncomputable def q40_13 : Q := .region 6 (fun _ => r40_6) [] true [1, 2, 0, 3, 4, 5, 6, 7, 8] []
noncomputable def r40_7 : List Oper := opsIn 7 f40
noncomputable def q40_15 : Q := .region 7 (fun _ => r40_7) [] false [0, 1] []
noncomputable def r40_8 : List Oper := opsIn 8 f40
noncomputable def q40_17 : Q := .region 8 (fun _ => r40_8) [] true [0, 1, 2, 3, 4, 5, 6, 7, 8, 9, 10, 11] [(1, ⟨true, false, []⟩)]
noncomputable def r40_9 : List Oper := opsIn 9 f40
noncomputable def q40_19 : Q := .region 9 (fun _ => r40_9) [] false [0, 1, 2, 3, 4, 5, 6, 7, 8] []
noncomputable def r40_10 : List Oper := opsIn 10 f40
noncomputable def q40_21 : Q := .region 10 (fun _ => r40_10) [2, 6, 10, 14, 18, 22, 27, 31, 36, 42, 48, 54, 58, 62, 66] true [0, 1, 2, 3, 4, 5, 6, 7, 8, 9, 10, 11, 12, 13, 14, 15, 16, 17, 18, 19, 20, 21, 22, 23, 24, 25, 26, 27, 28, 29, 30, 31, 32, 33, 34, 35, 36, 37, 38, 39, 40, 41, 42, 43, 44, 45, 46, 47, 48, 49, 50, 51, 52, 53, 54, 55, 56, 57, 58, 59, 60, 61, 62, 63, 64, 65, 66, 67, 68, 69, 70] []
noncomputable def q40_20 : Q := .seq (fun _ => q40_21) (fun _ => .ret)
noncomputable def q40_18 : Q := .seq (fun _ => q40_19) (fun _ => q40_20)
noncomputable def q40_16 : Q := .seq (fun _ => q40_17) (fun _ => q40_18)
noncomputable def q40_14 : Q := .seq (fun _ => q40_15) (fun _ => q40_16)
noncomputable def q40_12 : Q := .seq (fun _ => q40_13) (fun _ => q40_14)
noncomputable def q40_10 : Q := .seq (fun _ => q40_11) (fun _ => q40_12)
noncomputable def q40_8 : Q := .seq (fun _ => q40_9) (fun _ => q40_10)
noncomputable def q40_6 : Q := .seq (fun _ => q40_7) (fun _ => q40_8)
noncomputable def q40_4 : Q := .seq (fun _ => q40_5) (fun _ => q40_6)
noncomputable def q40_2 : Q := .seq (fun _ => q40_3) (fun _ => q40_4)
noncomputable def q40_0 : Q := .seq (fun _ => q40_1) (fun _ => q40_2)
noncomputable def q40 : Unit → Q := fun _ => q40_0
theorem ok40 : FnOk 40 q40 [.tmp 0] 144 := .of f40 func40 call40 (by kernel_rfl) (by kernel_rfl) (by kernel_rfl) (by kernel_rfl)

-- parcener/parcenerref04.GreatCakes
noncomputable def r41_0 : List Oper := opsIn 0 f41
noncomputable def q41_1 : Q := .region 0 (fun _ => r41_0) [] false [0] []
noncomputable def r41_1 : List Oper := opsIn 1 f41
noncomputable def q41_4 : Q := .region 1 (fun _ => r41_1) [] false [0] []
noncomputable def r41_2 : List Oper := opsIn 2 f41
noncomputable def q41_9 : Q := .region 2 (fun _ => r41_2) [] false [0, 1, 2, 3] []
noncomputable def q41_10 : Q := .cond (.tmp 7) (fun _ => .skip) (fun _ => (.exit 0))
noncomputable def q41_8 : Q := .seq (fun _ => q41_9) (fun _ => q41_10)
noncomputable def r41_4 : List Oper := opsIn 4 f41
noncomputable def q41_14 : Q := .region 4 (fun _ => r41_4) [] false [0, 1, 2, 3, 4] []
noncomputable def r41_5 : List Oper := opsIn 5 f41
noncomputable def q41_17 : Q := .region 5 (fun _ => r41_5) [] false [0] []
noncomputable def q41_16 : Q := .seq (fun _ => q41_17) (fun _ => .ret)
noncomputable def q41_15 : Q := .cond (.tmp 14) (fun _ => q41_16) (fun _ => .skip)
noncomputable def q41_13 : Q := .seq (fun _ => q41_14) (fun _ => q41_15)
noncomputable def q41_12 : Q := .block 1 (fun _ => q41_13)
noncomputable def r41_3 : List Oper := opsIn 3 f41
noncomputable def q41_18 : Q := .region 3 (fun _ => r41_3) [] false [0, 1, 2] []
noncomputable def q41_11 : Q := .seq (fun _ => q41_12) (fun _ => q41_18)
noncomputable def q41_7 : Q := .seq (fun _ => q41_8) (fun _ => q41_11)
noncomputable def q41_6 : Q := .loop (fun _ => q41_7)
noncomputable def q41_5 : Q := .block 0 (fun _ => q41_6)
noncomputable def q41_3 : Q := .seq (fun _ => q41_4) (fun _ => q41_5)
noncomputable def r41_6 : List Oper := opsIn 6 f41
noncomputable def q41_20 : Q := .region 6 (fun _ => r41_6) [] false [0, 1, 2, 3] []
noncomputable def q41_19 : Q := .seq (fun _ => q41_20) (fun _ => .ret)
noncomputable def q41_2 : Q := .seq (fun _ => q41_3) (fun _ => q41_19)
noncomputable def q41_0 : Q := .seq (fun _ => q41_1) (fun _ => q41_2)
noncomputable def q41 : Unit → Q := fun _ => q41_0
theorem ok41 : FnOk 41 q41 [.tmp 2] 18 := .of f41 func41 call41 (by kernel_rfl) (by kernel_rfl) (by kernel_rfl) (by kernel_rfl)

-- parcener/parcenerlaw04.ran
noncomputable def r42_0 : List Oper := opsIn 0 f42
noncomputable def q42_1 : Q := .region 0 (fun _ => r42_0) [] false [0, 1, 2] []
noncomputable def r42_1 : List Oper := opsIn 1 f42
noncomputable def q42_3 : Q := .region 1 (fun _ => r42_1) [] false [0, 1, 2, 3, 4, 5, 6, 7] []
noncomputable def r42_2 : List Oper := opsIn 2 f42
noncomputable def q42_6 : Q := .region 2 (fun _ => r42_2) [] false [0, 1] []
noncomputable def r42_3 : List Oper := opsIn 3 f42
noncomputable def q42_9 : Q := .region 3 (fun _ => r42_3) [] false [0, 1, 2, 3] []
noncomputable def q42_8 : Q := .seq (fun _ => q42_9) (fun _ => .ret)
noncomputable def q42_7 : Q := .cond (.tmp 20) (fun _ => q42_8) (fun _ => .skip)
noncomputable def q42_5 : Q := .seq (fun _ => q42_6) (fun _ => q42_7)
noncomputable def r42_4 : List Oper := opsIn 4 f42
noncomputable def q42_11 : Q := .region 4 (fun _ => r42_4) [] false [0] []
noncomputable def r42_5 : List Oper := opsIn 5 f42
noncomputable def q42_14 : Q := .region 5 (fun _ => r42_5) [] false [0] []
noncomputable def r42_6 : List Oper := opsIn 6 f42
noncomputable def q42_19 : Q := .region 6 (fun _ => r42_6) [] false [0, 1, 2, 3] []
noncomputable def q42_20 : Q := .cond (.tmp 25) (fun _ => .skip) (fun _ => (.exit 0))
noncomputable def q42_18 : Q := .seq (fun _ => q42_19) (fun _ => q42_20)
noncomputable def r42_8 : List Oper := opsIn 8 f42
noncomputable def q42_24 : Q := .region 8 (fun _ => r42_8) [] true [0, 1, 2, 3, 4, 5, 6, 7, 8, 9, 10, 11, 12, 13, 14, 15, 16, 17, 18, 19, 20, 21, 22, 23, 24, 25] [(19, ⟨true, false, []⟩), (20, ⟨true, false, []⟩)]
noncomputable def r42_9 : List Oper := opsIn 9 f42
noncomputable def q42_27 : Q := .region 9 (fun _ => r42_9) [] false [0, 1, 2, 3, 4, 5] []
noncomputable def r42_10 : List Oper := opsIn 10 f42
noncomputable def q42_29 : Q := .region 10 (fun _ => r42_10) [] true [0, 1, 2, 3, 4, 5, 6, 7, 8, 9, 10, 11, 12, 13, 14, 15, 16, 17, 18, 19, 20, 21, 22] [(19, ⟨true, false, []⟩), (20, ⟨true, false, []⟩)]
noncomputable def q42_28 : Q := .cond (.tmp 54) (fun _ => q42_29) (fun _ => .skip)
noncomputable def q42_26 : Q := .seq (fun _ => q42_27) (fun _ => q42_28)
noncomputable def r42_11 : List Oper := opsIn 11 f42
noncomputable def q42_31 : Q := .region 11 (fun _ => r42_11) [] false [0, 1] []
noncomputable def r42_12 : List Oper := opsIn 12 f42
noncomputable def q42_34 : Q := .region 12 (fun _ => r42_12) [] false [0, 1] []
noncomputable def r42_13 : List Oper := opsIn 13 f42
noncomputable def q42_35 : Q := .region 13 (fun _ => r42_13) [] false [0, 1, 2] []
noncomputable def q42_33 : Q := .seq (fun _ => q42_34) (fun _ => q42_35)
noncomputable def q42_32 : Q := .cond (.tmp 77) (fun _ => q42_33) (fun _ => .skip)
noncomputable def q42_30 : Q := .seq (fun _ => q42_31) (fun _ => q42_32)
noncomputable def q42_25 : Q := .seq (fun _ => q42_26) (fun _ => q42_30)
noncomputable def q42_23 : Q := .seq (fun _ => q42_24) (fun _ => q42_25)
noncomputable def q42_22 : Q := .block 1 (fun _ => q42_23)
noncomputable def r42_7 : List Oper := opsIn 7 f42
noncomputable def q42_36 : Q := .region 7 (fun _ => r42_7) [] false [0, 1, 2] []
noncomputable def q42_21 : Q := .seq (fun _ => q42_22) (fun _ => q42_36)
noncomputable def q42_17 : Q := .seq (fun _ => q42_18) (fun _ => q42_21)
noncomputable def q42_16 : Q := .loop (fun _ => q42_17)
noncomputable def q42_15 : Q := .block 0 (fun _ => q42_16)
noncomputable def q42_13 : Q := .seq (fun _ => q42_14) (fun _ => q42_15)
noncomputable def r42_14 : List Oper := opsIn 14 f42
noncomputable def q42_38 : Q := .region 14 (fun _ => r42_14) [] false [0, 1, 2, 3, 4] []
noncomputable def q42_37 : Q := .seq (fun _ => q42_38) (fun _ => .ret)
noncomputable def q42_12 : Q := .seq (fun _ => q42_13) (fun _ => q42_37)
noncomputable def q42_10 : Q := .seq (fun _ => q42_11) (fun _ => q42_12)
noncomputable def q42_4 : Q := .seq (fun _ => q42_5) (fun _ => q42_10)
noncomputable def q42_2 : Q := .seq (fun _ => q42_3) (fun _ => q42_4)
noncomputable def q42_0 : Q := .seq (fun _ => q42_1) (fun _ => q42_2)
noncomputable def q42 : Unit → Q := fun _ => q42_0
theorem ok42 : FnOk 42 q42 [.cell 4 56, .tmp 5, .tmp 6] 83 := .of f42 func42 call42 (by kernel_rfl) (by kernel_rfl) (by kernel_rfl) (by kernel_rfl)

-- parcener/parcenerref04.Check
noncomputable def r43_0 : List Oper := opsIn 0 f43
noncomputable def q43_1 : Q := .region 0 (fun _ => r43_0) [] false [0, 1] []
noncomputable def r43_1 : List Oper := opsIn 1 f43
noncomputable def q43_4 : Q := .region 1 (fun _ => r43_1) [4] false [0, 1, 2, 3, 4, 5, 6, 7, 8, 9] []
noncomputable def r43_2 : List Oper := opsIn 2 f43
noncomputable def q43_7 : Q := .region 2 (fun _ => r43_2) [] false [0] []
noncomputable def q43_6 : Q := .seq (fun _ => q43_7) (fun _ => .ret)
noncomputable def q43_5 : Q := .cond (.tmp 14) (fun _ => q43_6) (fun _ => .skip)
noncomputable def q43_3 : Q := .seq (fun _ => q43_4) (fun _ => q43_5)
noncomputable def r43_3 : List Oper := opsIn 3 f43
noncomputable def q43_10 : Q := .region 3 (fun _ => r43_3) [] false [0, 1, 2, 3] []
noncomputable def r43_4 : List Oper := opsIn 4 f43
noncomputable def q43_13 : Q := .region 4 (fun _ => r43_4) [] false [0] []
noncomputable def q43_12 : Q := .seq (fun _ => q43_13) (fun _ => .ret)
noncomputable def q43_11 : Q := .cond (.tmp 18) (fun _ => q43_12) (fun _ => .skip)
noncomputable def q43_9 : Q := .seq (fun _ => q43_10) (fun _ => q43_11)
noncomputable def r43_5 : List Oper := opsIn 5 f43
noncomputable def q43_16 : Q := .region 5 (fun _ => r43_5) [] false [0] []
noncomputable def r43_6 : List Oper := opsIn 6 f43
noncomputable def q43_21 : Q := .region 6 (fun _ => r43_6) [] false [0, 1, 2, 3, 4] []
noncomputable def q43_22 : Q := .cond (.tmp 23) (fun _ => .skip) (fun _ => (.exit 0))
noncomputable def q43_20 : Q := .seq (fun _ => q43_21) (fun _ => q43_22)
noncomputable def r43_8 : List Oper := opsIn 8 f43
noncomputable def q43_26 : Q := .region 8 (fun _ => r43_8) [] false [0, 1, 2, 3, 4, 5, 6] []
noncomputable def r43_9 : List Oper := opsIn 9 f43
noncomputable def q43_29 : Q := .region 9 (fun _ => r43_9) [] false [0, 1, 2, 3, 4, 5, 6] []
noncomputable def q43_28 : Q := .seq (fun _ => q43_29) (fun _ => .ret)
noncomputable def q43_27 : Q := .cond (.tmp 32) (fun _ => q43_28) (fun _ => .skip)
noncomputable def q43_25 : Q := .seq (fun _ => q43_26) (fun _ => q43_27)
noncomputable def q43_24 : Q := .block 1 (fun _ => q43_25)
noncomputable def r43_7 : List Oper := opsIn 7 f43
noncomputable def q43_30 : Q := .region 7 (fun _ => r43_7) [] false [0, 1, 2] []
noncomputable def q43_23 : Q := .seq (fun _ => q43_24) (fun _ => q43_30)
noncomputable def q43_19 : Q := .seq (fun _ => q43_20) (fun _ => q43_23)
noncomputable def q43_18 : Q := .loop (fun _ => q43_19)
noncomputable def q43_17 : Q := .block 0 (fun _ => q43_18)
noncomputable def q43_15 : Q := .seq (fun _ => q43_16) (fun _ => q43_17)
noncomputable def r43_10 : List Oper := opsIn 10 f43
noncomputable def q43_33 : Q := .region 10 (fun _ => r43_10) [] false [0] []
noncomputable def r43_11 : List Oper := opsIn 11 f43
noncomputable def q43_38 : Q := .region 11 (fun _ => r43_11) [] false [0, 1, 2, 3, 4] []
noncomputable def q43_39 : Q := .cond (.tmp 43) (fun _ => .skip) (fun _ => (.exit 2))
noncomputable def q43_37 : Q := .seq (fun _ => q43_38) (fun _ => q43_39)
noncomputable def r43_13 : List Oper := opsIn 13 f43
noncomputable def q43_43 : Q := .region 13 (fun _ => r43_13) [] true [0, 1, 2, 3, 4, 5, 6, 7, 8, 9, 10, 11] []
noncomputable def r43_14 : List Oper := opsIn 14 f43
noncomputable def q43_46 : Q := .region 14 (fun _ => r43_14) [] false [0] []
noncomputable def q43_45 : Q := .seq (fun _ => q43_46) (fun _ => .ret)
noncomputable def q43_44 : Q := .cond (.tmp 57) (fun _ => q43_45) (fun _ => .skip)
noncomputable def q43_42 : Q := .seq (fun _ => q43_43) (fun _ => q43_44)
noncomputable def q43_41 : Q := .block 3 (fun _ => q43_42)
noncomputable def r43_12 : List Oper := opsIn 12 f43
noncomputable def q43_47 : Q := .region 12 (fun _ => r43_12) [] false [0, 1, 2] []
noncomputable def q43_40 : Q := .seq (fun _ => q43_41) (fun _ => q43_47)
noncomputable def q43_36 : Q := .seq (fun _ => q43_37) (fun _ => q43_40)
noncomputable def q43_35 : Q := .loop (fun _ => q43_36)
noncomputable def q43_34 : Q := .block 2 (fun _ => q43_35)
noncomputable def q43_32 : Q := .seq (fun _ => q43_33) (fun _ => q43_34)
noncomputable def r43_15 : List Oper := opsIn 15 f43
noncomputable def q43_49 : Q := .region 15 (fun _ => r43_15) [] false [0] []
noncomputable def q43_48 : Q := .seq (fun _ => q43_49) (fun _ => .ret)
noncomputable def q43_31 : Q := .seq (fun _ => q43_32) (fun _ => q43_48)
noncomputable def q43_14 : Q := .seq (fun _ => q43_15) (fun _ => q43_31)
noncomputable def q43_8 : Q := .seq (fun _ => q43_9) (fun _ => q43_14)
noncomputable def q43_2 : Q := .seq (fun _ => q43_3) (fun _ => q43_8)
noncomputable def q43_0 : Q := .seq (fun _ => q43_1) (fun _ => q43_2)
noncomputable def q43 : Unit → Q := fun _ => q43_0
theorem ok43 : FnOk 43 q43 [.tmp 2] 58 := .of f43 func43 call43 (by kernel_rfl) (by kernel_rfl) (by kernel_rfl) (by kernel_rfl)

-- parcener/parcenerref04.SameCakes
noncomputable def r44_0 : List Oper := opsIn 0 f44
noncomputable def q44_1 : Q := .region 0 (fun _ => r44_0) [] false [0] []
noncomputable def r44_1 : List Oper := opsIn 1 f44
noncomputable def q44_4 : Q := .region 1 (fun _ => r44_1) [] false [0, 1, 2, 3, 4] []
noncomputable def r44_2 : List Oper := opsIn 2 f44
noncomputable def q44_7 : Q := .region 2 (fun _ => r44_2) [] false [0] []
noncomputable def q44_6 : Q := .seq (fun _ => q44_7) (fun _ => .ret)
noncomputable def q44_5 : Q := .cond (.tmp 10) (fun _ => q44_6) (fun _ => .skip)
noncomputable def q44_3 : Q := .seq (fun _ => q44_4) (fun _ => q44_5)
noncomputable def r44_3 : List Oper := opsIn 3 f44
noncomputable def q44_10 : Q := .region 3 (fun _ => r44_3) [] false [0] []
noncomputable def r44_4 : List Oper := opsIn 4 f44
noncomputable def q44_15 : Q := .region 4 (fun _ => r44_4) [] false [0, 1, 2, 3] []
noncomputable def q44_16 : Q := .cond (.tmp 14) (fun _ => .skip) (fun _ => (.exit 0))
noncomputable def q44_14 : Q := .seq (fun _ => q44_15) (fun _ => q44_16)
noncomputable def r44_6 : List Oper := opsIn 6 f44
noncomputable def q44_20 : Q := .region 6 (fun _ => r44_6) [] true [0, 1, 2, 3, 4, 5, 6, 7, 8, 9] []
noncomputable def r44_7 : List Oper := opsIn 7 f44
noncomputable def q44_23 : Q := .region 7 (fun _ => r44_7) [] false [0] []
noncomputable def q44_22 : Q := .seq (fun _ => q44_23) (fun _ => .ret)
noncomputable def q44_21 : Q := .cond (.tmp 26) (fun _ => q44_22) (fun _ => .skip)
noncomputable def q44_19 : Q := .seq (fun _ => q44_20) (fun _ => q44_21)
noncomputable def q44_18 : Q := .block 1 (fun _ => q44_19)
noncomputable def r44_5 : List Oper := opsIn 5 f44
noncomputable def q44_24 : Q := .region 5 (fun _ => r44_5) [] false [0, 1, 2] []
noncomputable def q44_17 : Q := .seq (fun _ => q44_18) (fun _ => q44_24)
noncomputable def q44_13 : Q := .seq (fun _ => q44_14) (fun _ => q44_17)
noncomputable def q44_12 : Q := .loop (fun _ => q44_13)
noncomputable def q44_11 : Q := .block 0 (fun _ => q44_12)
noncomputable def q44_9 : Q := .seq (fun _ => q44_10) (fun _ => q44_11)
noncomputable def r44_8 : List Oper := opsIn 8 f44
noncomputable def q44_26 : Q := .region 8 (fun _ => r44_8) [] false [0] []
noncomputable def q44_25 : Q := .seq (fun _ => q44_26) (fun _ => .ret)
noncomputable def q44_8 : Q := .seq (fun _ => q44_9) (fun _ => q44_25)
noncomputable def q44_2 : Q := .seq (fun _ => q44_3) (fun _ => q44_8)
noncomputable def q44_0 : Q := .seq (fun _ => q44_1) (fun _ => q44_2)
noncomputable def q44 : Unit → Q := fun _ => q44_0
theorem ok44 : FnOk 44 q44 [.tmp 4] 27 := .of f44 func44 call44 (by kernel_rfl) (by kernel_rfl) (by kernel_rfl) (by kernel_rfl)

-- parcener/parcenerref04.Great
noncomputable def r45_0 : List Oper := opsIn 0 f45
noncomputable def q45_1 : Q := .region 0 (fun _ => r45_0) [] false [0, 1] []
noncomputable def r45_1 : List Oper := opsIn 1 f45
noncomputable def q45_3 : Q := .region 1 (fun _ => r45_1) [3, 8, 15] false [0, 1, 2, 3, 4, 5, 6, 7, 8, 9, 10, 11, 12, 13, 14, 15, 16, 17, 18, 19, 20, 21] []
noncomputable def q45_2 : Q := .seq (fun _ => q45_3) (fun _ => .ret)
noncomputable def q45_0 : Q := .seq (fun _ => q45_1) (fun _ => q45_2)
noncomputable def q45 : Unit → Q := fun _ => q45_0
theorem ok45 : FnOk 45 q45 [.tmp 2] 24 := .of f45 func45 call45 (by kernel_rfl) (by kernel_rfl) (by kernel_rfl) (by kernel_rfl)

-- parcener/parcenerref04.Agent
noncomputable def r46_0 : List Oper := opsIn 0 f46
noncomputable def q46_1 : Q := .region 0 (fun _ => r46_0) [] false [0, 1] []
noncomputable def r46_1 : List Oper := opsIn 1 f46
noncomputable def q46_3 : Q := .region 1 (fun _ => r46_1) [2] false [0, 1, 2, 3, 4, 5, 6, 7, 8, 9] []
noncomputable def q46_2 : Q := .seq (fun _ => q46_3) (fun _ => .ret)
noncomputable def q46_0 : Q := .seq (fun _ => q46_1) (fun _ => q46_2)
noncomputable def q46 : Unit → Q := fun _ => q46_0
theorem ok46 : FnOk 46 q46 [.tmp 4] 14 := .of f46 func46 call46 (by kernel_rfl) (by kernel_rfl) (by kernel_rfl) (by kernel_rfl)

-- parcener/parcenerref04.Twins
noncomputable def r47_0 : List Oper := opsIn 0 f47
noncomputable def q47_1 : Q := .region 0 (fun _ => r47_0) [] false [0] []
noncomputable def r47_1 : List Oper := opsIn 1 f47
noncomputable def q47_3 : Q := .region 1 (fun _ => r47_1) [] false [0] []
noncomputable def r47_2 : List Oper := opsIn 2 f47
noncomputable def q47_6 : Q := .region 2 (fun _ => r47_2) [] false [0] []
noncomputable def r47_3 : List Oper := opsIn 3 f47
noncomputable def q47_11 : Q := .region 3 (fun _ => r47_3) [] false [0, 1, 2, 3] []
noncomputable def q47_12 : Q := .cond (.tmp 8) (fun _ => .skip) (fun _ => (.exit 0))
noncomputable def q47_10 : Q := .seq (fun _ => q47_11) (fun _ => q47_12)
noncomputable def r47_5 : List Oper := opsIn 5 f47
noncomputable def q47_15 : Q := .region 5 (fun _ => r47_5) [] false [0, 1, 2, 3, 4, 5, 6, 7, 8] []
noncomputable def q47_14 : Q := .block 1 (fun _ => q47_15)
noncomputable def r47_4 : List Oper := opsIn 4 f47
noncomputable def q47_16 : Q := .region 4 (fun _ => r47_4) [] false [0, 1, 2] []
noncomputable def q47_13 : Q := .seq (fun _ => q47_14) (fun _ => q47_16)
noncomputable def q47_9 : Q := .seq (fun _ => q47_10) (fun _ => q47_13)
noncomputable def q47_8 : Q := .loop (fun _ => q47_9)
noncomputable def q47_7 : Q := .block 0 (fun _ => q47_8)
noncomputable def q47_5 : Q := .seq (fun _ => q47_6) (fun _ => q47_7)
noncomputable def r47_6 : List Oper := opsIn 6 f47
noncomputable def q47_18 : Q := .region 6 (fun _ => r47_6) [] false [0, 1] []
noncomputable def q47_17 : Q := .seq (fun _ => q47_18) (fun _ => .ret)
noncomputable def q47_4 : Q := .seq (fun _ => q47_5) (fun _ => q47_17)
noncomputable def q47_2 : Q := .seq (fun _ => q47_3) (fun _ => q47_4)
noncomputable def q47_0 : Q := .seq (fun _ => q47_1) (fun _ => q47_2)
noncomputable def q47 : Unit → Q := fun _ => q47_0
theorem ok47 : FnOk 47 q47 [.tmp 2] 20 := .of f47 func47 call47 (by kernel_rfl) (by kernel_rfl) (by kernel_rfl) (by kernel_rfl)

-- parcener/parcenerref02.Twin
noncomputable def r48_0 : List Oper := opsIn 0 f48
noncomputable def q48_1 : Q := .region 0 (fun _ => r48_0) [] false [0, 1] []
noncomputable def r48_1 : List Oper := opsIn 1 f48
noncomputable def q48_3 : Q := .region 1 (fun _ => r48_1) [] true [0, 1, 3, 4, 7, 8, 2, 5, 6, 9, 10, 11] []
noncomputable def q48_2 : Q := .seq (fun _ => q48_3) (fun _ => .ret)
noncomputable def q48_0 : Q := .seq (fun _ => q48_1) (fun _ => q48_2)
noncomputable def q48 : Unit → Q := fun _ => q48_0
theorem ok48 : FnOk 48 q48 [.cell 2 40] 14 := .of f48 func48 call48 (by kernel_rfl) (by kernel_rfl) (by kernel_rfl) (by kernel_rfl)

-- parcener/parcenerref36.Twin
noncomputable def r49_0 : List Oper := opsIn 0 f49
noncomputable def q49_1 : Q := .region 0 (fun _ => r49_0) [] false [0, 1] []
noncomputable def r49_1 : List Oper := opsIn 1 f49
noncomputable def q49_3 : Q := .region 1 (fun _ => r49_1) [] false [0] []
noncomputable def r49_2 : List Oper := opsIn 2 f49
noncomputable def q49_6 : Q := .region 2 (fun _ => r49_2) [] false [0] []
noncomputable def r49_3 : List Oper := opsIn 3 f49
noncomputable def q49_11 : Q := .region 3 (fun _ => r49_3) [] false [0, 1, 2, 3, 4] []
noncomputable def q49_12 : Q := .cond (.tmp 10) (fun _ => .skip) (fun _ => (.exit 0))
noncomputable def q49_10 : Q := .seq (fun _ => q49_11) (fun _ => q49_12)
noncomputable def r49_5 : List Oper := opsIn 5 f49
noncomputable def q49_16 : Q := .region 5 (fun _ => r49_5) [] false [0, 1, 2, 3, 4, 5, 6] []
noncomputable def r49_6 : List Oper := opsIn 6 f49
noncomputable def q49_17 : Q := .region 6 (fun _ => r49_6) [] true [0, 1, 2, 3, 5, 6, 8, 9, 10, 11, 4, 7, 12, 13, 14, 15, 16] []
noncomputable def q49_15 : Q := .seq (fun _ => q49_16) (fun _ => q49_17)
noncomputable def q49_14 : Q := .block 1 (fun _ => q49_15)
noncomputable def r49_4 : List Oper := opsIn 4 f49
noncomputable def q49_18 : Q := .region 4 (fun _ => r49_4) [] false [0, 1, 2] []
noncomputable def q49_13 : Q := .seq (fun _ => q49_14) (fun _ => q49_18)
noncomputable def q49_9 : Q := .seq (fun _ => q49_10) (fun _ => q49_13)
noncomputable def q49_8 : Q := .loop (fun _ => q49_9)
noncomputable def q49_7 : Q := .block 0 (fun _ => q49_8)
noncomputable def q49_5 : Q := .seq (fun _ => q49_6) (fun _ => q49_7)
noncomputable def r49_7 : List Oper := opsIn 7 f49
noncomputable def q49_20 : Q := .region 7 (fun _ => r49_7) [] false [0, 1, 2, 3, 4, 5, 6] []
noncomputable def r49_8 : List Oper := opsIn 8 f49
noncomputable def q49_22 : Q := .region 8 (fun _ => r49_8) [] false [0, 1] []
noncomputable def q49_21 : Q := .seq (fun _ => q49_22) (fun _ => .ret)
noncomputable def q49_19 : Q := .seq (fun _ => q49_20) (fun _ => q49_21)
noncomputable def q49_4 : Q := .seq (fun _ => q49_5) (fun _ => q49_19)
noncomputable def q49_2 : Q := .seq (fun _ => q49_3) (fun _ => q49_4)
noncomputable def q49_0 : Q := .seq (fun _ => q49_1) (fun _ => q49_2)
noncomputable def q49 : Unit → Q := fun _ => q49_0
theorem ok49 : FnOk 49 q49 [.cell 2 25] 41 := .of f49 func49 call49 (by kernel_rfl) (by kernel_rfl) (by kernel_rfl) (by kernel_rfl)

-- parcener/agent.Open
noncomputable def r50_0 : List Oper := opsIn 0 f50
noncomputable def q50_1 : Q := .region 0 (fun _ => r50_0) [] false [0, 1] []
noncomputable def r50_1 : List Oper := opsIn 1 f50
noncomputable def q50_3 : Q := .region 1 (fun _ => r50_1) [] false [0, 1, 2, 3] []
noncomputable def r50_2 : List Oper := opsIn 2 f50
noncomputable def q50_6 : Q := .region 2 (fun _ => r50_2) [] false [0, 1, 2] []
noncomputable def r50_3 : List Oper := opsIn 3 f50
noncomputable def q50_8 : Q := .region 3 (fun _ => r50_3) [] false [0, 1] []
noncomputable def r50_4 : List Oper := opsIn 4 f50
noncomputable def q50_11 : Q := .region 4 (fun _ => r50_4) [] false [0, 1, 2, 3] []
noncomputable def q50_10 : Q := .seq (fun _ => q50_11) (fun _ => .ret)
noncomputable def q50_9 : Q := .cond (.tmp 11) (fun _ => q50_10) (fun _ => .skip)
noncomputable def q50_7 : Q := .seq (fun _ => q50_8) (fun _ => q50_9)
noncomputable def q50_5 : Q := .seq (fun _ => q50_6) (fun _ => q50_7)
noncomputable def r50_5 : List Oper := opsIn 5 f50
noncomputable def q50_13 : Q := .region 5 (fun _ => r50_5) [] false [0, 1, 2, 3, 4, 5, 6] []
noncomputable def q50_12 : Q := .seq (fun _ => q50_13) (fun _ => .ret)
noncomputable def q50_4 : Q := .seq (fun _ => q50_5) (fun _ => q50_12)
noncomputable def q50_2 : Q := .seq (fun _ => q50_3) (fun _ => q50_4)
noncomputable def q50_0 : Q := .seq (fun _ => q50_1) (fun _ => q50_2)
noncomputable def q50 : Unit → Q := fun _ => q50_0
theorem ok50 : FnOk 50 q50 [.cell 2 25, .tmp 3] 19 := .of f50 func50 call50 (by kernel_rfl) (by kernel_rfl) (by kernel_rfl) (by kernel_rfl)

-- parcener/parcenerref36.Open
noncomputable def r51_0 : List Oper := opsIn 0 f51
noncomputable def q51_1 : Q := .region 0 (fun _ => r51_0) [] false [0, 1] []
noncomputable def r51_1 : List Oper := opsIn 1 f51
noncomputable def q51_3 : Q := .region 1 (fun _ => r51_1) [] false [0, 1, 2, 3] []
noncomputable def r51_2 : List Oper := opsIn 2 f51
noncomputable def q51_6 : Q := .region 2 (fun _ => r51_2) [] false [0, 1, 2] []
noncomputable def r51_3 : List Oper := opsIn 3 f51
noncomputable def q51_8 : Q := .region 3 (fun _ => r51_3) [] false [0, 1] []
noncomputable def r51_4 : List Oper := opsIn 4 f51
noncomputable def q51_11 : Q := .region 4 (fun _ => r51_4) [] false [0, 1, 2, 3] []
noncomputable def q51_10 : Q := .seq (fun _ => q51_11) (fun _ => .ret)
noncomputable def q51_9 : Q := .cond (.tmp 11) (fun _ => q51_10) (fun _ => .skip)
noncomputable def q51_7 : Q := .seq (fun _ => q51_8) (fun _ => q51_9)
noncomputable def q51_5 : Q := .seq (fun _ => q51_6) (fun _ => q51_7)
noncomputable def r51_5 : List Oper := opsIn 5 f51
noncomputable def q51_13 : Q := .region 5 (fun _ => r51_5) [] false [0, 1, 2, 3] []
noncomputable def q51_12 : Q := .seq (fun _ => q51_13) (fun _ => .ret)
noncomputable def q51_4 : Q := .seq (fun _ => q51_5) (fun _ => q51_12)
noncomputable def q51_2 : Q := .seq (fun _ => q51_3) (fun _ => q51_4)
noncomputable def q51_0 : Q := .seq (fun _ => q51_1) (fun _ => q51_2)
noncomputable def q51 : Unit → Q := fun _ => q51_0
theorem ok51 : FnOk 51 q51 [.cell 2 25, .tmp 3] 16 := .of f51 func51 call51 (by kernel_rfl) (by kernel_rfl) (by kernel_rfl) (by kernel_rfl)

-- parcener/agent.Ask
noncomputable def r52_0 : List Oper := opsIn 0 f52
noncomputable def q52_1 : Q := .region 0 (fun _ => r52_0) [] false [0, 1, 2, 3, 4, 5] []
noncomputable def r52_1 : List Oper := opsIn 1 f52
noncomputable def q52_4 : Q := .region 1 (fun _ => r52_1) [] false [0, 1, 2] []
noncomputable def r52_2 : List Oper := opsIn 2 f52
noncomputable def q52_6 : Q := .region 2 (fun _ => r52_2) [] false [0, 1] []
noncomputable def r52_3 : List Oper := opsIn 3 f52
noncomputable def q52_9 : Q := .region 3 (fun _ => r52_3) [] false [0, 1, 2, 3, 4, 5] []
noncomputable def q52_8 : Q := .seq (fun _ => q52_9) (fun _ => .ret)
noncomputable def q52_7 : Q := .cond (.tmp 20) (fun _ => q52_8) (fun _ => .skip)
noncomputable def q52_5 : Q := .seq (fun _ => q52_6) (fun _ => q52_7)
noncomputable def q52_3 : Q := .seq (fun _ => q52_4) (fun _ => q52_5)
noncomputable def r52_4 : List Oper := opsIn 4 f52
noncomputable def q52_11 : Q := .region 4 (fun _ => r52_4) [] false [0, 1, 2] []
noncomputable def r52_5 : List Oper := opsIn 5 f52
noncomputable def q52_13 : Q := .region 5 (fun _ => r52_5) [] false [0, 1, 2, 3, 4, 5, 6, 7, 8, 9, 10, 11, 12] [(6, ⟨false, true, []⟩)]
noncomputable def r52_6 : List Oper := opsIn 6 f52
noncomputable def q52_16 : Q := .region 6 (fun _ => r52_6) [] false [0, 1] []
noncomputable def r52_7 : List Oper := opsIn 7 f52
noncomputable def q52_19 : Q := .region 7 (fun _ => r52_7) [] false [0, 1, 2, 3, 4, 5] []
noncomputable def q52_18 : Q := .seq (fun _ => q52_19) (fun _ => .ret)
noncomputable def q52_17 : Q := .cond (.tmp 37) (fun _ => q52_18) (fun _ => .skip)
noncomputable def q52_15 : Q := .seq (fun _ => q52_16) (fun _ => q52_17)
noncomputable def r52_8 : List Oper := opsIn 8 f52
noncomputable def q52_21 : Q := .region 8 (fun _ => r52_8) [] true [0, 1, 2, 3, 4, 5, 6, 7] [(4, ⟨false, false, [10]⟩), (5, ⟨false, false, [10]⟩)]
noncomputable def q52_20 : Q := .seq (fun _ => q52_21) (fun _ => .ret)
noncomputable def q52_14 : Q := .seq (fun _ => q52_15) (fun _ => q52_20)
noncomputable def q52_12 : Q := .seq (fun _ => q52_13) (fun _ => q52_14)
noncomputable def q52_10 : Q := .seq (fun _ => q52_11) (fun _ => q52_12)
noncomputable def q52_2 : Q := .seq (fun _ => q52_3) (fun _ => q52_10)
noncomputable def q52_0 : Q := .seq (fun _ => q52_1) (fun _ => q52_2)
noncomputable def q52 : Unit → Q := fun _ => q52_0
theorem ok52 : FnOk 52 q52 [.cell 10 25, .cell 11 43, .tmp 12] 46 := .of f52 func52 call52 (by kernel_rfl) (by kernel_rfl) (by kernel_rfl) (by kernel_rfl)

-- parcener/parcenerref36.Ask
noncomputable def r53_0 : List Oper := opsIn 0 f53
noncomputable def q53_1 : Q := .region 0 (fun _ => r53_0) [] false [0, 1, 2, 3, 4, 5] []
noncomputable def r53_1 : List Oper := opsIn 1 f53
noncomputable def q53_4 : Q := .region 1 (fun _ => r53_1) [] false [0, 1, 2] []
noncomputable def r53_2 : List Oper := opsIn 2 f53
noncomputable def q53_6 : Q := .region 2 (fun _ => r53_2) [] false [0, 1] []
noncomputable def r53_3 : List Oper := opsIn 3 f53
noncomputable def q53_9 : Q := .region 3 (fun _ => r53_3) [] false [0, 1, 2, 3, 4, 5] []
noncomputable def q53_8 : Q := .seq (fun _ => q53_9) (fun _ => .ret)
noncomputable def q53_7 : Q := .cond (.tmp 22) (fun _ => q53_8) (fun _ => .skip)
noncomputable def q53_5 : Q := .seq (fun _ => q53_6) (fun _ => q53_7)
noncomputable def q53_3 : Q := .seq (fun _ => q53_4) (fun _ => q53_5)
noncomputable def r53_4 : List Oper := opsIn 4 f53
noncomputable def q53_12 : Q := .region 4 (fun _ => r53_4) [2, 9, 12] false [0, 1, 2, 3, 4, 5, 6, 7, 8, 9, 10, 11, 12, 13, 14, 15, 16] []
noncomputable def r53_5 : List Oper := opsIn 5 f53
noncomputable def q53_15 : Q := .region 5 (fun _ => r53_5) [] false [0, 1, 2, 3, 4] []
noncomputable def q53_14 : Q := .seq (fun _ => q53_15) (fun _ => .ret)
noncomputable def q53_13 : Q := .cond (.tmp 42) (fun _ => q53_14) (fun _ => .skip)
noncomputable def q53_11 : Q := .seq (fun _ => q53_12) (fun _ => q53_13)
noncomputable def r53_6 : List Oper := opsIn 6 f53
noncomputable def q53_17 : Q := .region 6 (fun _ => r53_6) [] false [0, 1, 2, 3, 4, 5, 6] []
noncomputable def r53_7 : List Oper := opsIn 7 f53
noncomputable def q53_19 : Q := .region 7 (fun _ => r53_7) [] false [0, 1, 2, 3] []
noncomputable def r53_8 : List Oper := opsIn 8 f53
noncomputable def q53_22 : Q := .region 8 (fun _ => r53_8) [3] false [0, 1, 2, 3, 4, 5, 6, 7, 8, 9] []
noncomputable def r53_9 : List Oper := opsIn 9 f53
noncomputable def q53_24 : Q := .region 9 (fun _ => r53_9) [] false [0, 1, 2] []
noncomputable def q53_23 : Q := .cond (.tmp 61) (fun _ => q53_24) (fun _ => .skip)
noncomputable def q53_21 : Q := .seq (fun _ => q53_22) (fun _ => q53_23)
noncomputable def r53_10 : List Oper := opsIn 10 f53
noncomputable def q53_26 : Q := .region 10 (fun _ => r53_10) [] false [0, 1, 2, 3, 4, 5, 6, 7, 8, 9] []
noncomputable def r53_11 : List Oper := opsIn 11 f53
noncomputable def q53_29 : Q := .region 11 (fun _ => r53_11) [] false [0, 1] []
noncomputable def r53_12 : List Oper := opsIn 12 f53
noncomputable def q53_31 : Q := .region 12 (fun _ => r53_12) [] false [0, 1, 2, 3, 4, 5, 6, 7, 8] []
noncomputable def q53_30 : Q := .cond (.tmp 72) (fun _ => q53_31) (fun _ => .skip)
noncomputable def q53_28 : Q := .seq (fun _ => q53_29) (fun _ => q53_30)
noncomputable def r53_13 : List Oper := opsIn 13 f53
noncomputable def q53_34 : Q := .region 13 (fun _ => r53_13) [] false [0, 1] []
noncomputable def r53_14 : List Oper := opsIn 14 f53
noncomputable def q53_37 : Q := .region 14 (fun _ => r53_14) [] false [0, 1, 2, 3, 4, 5] []
noncomputable def q53_36 : Q := .seq (fun _ => q53_37) (fun _ => .ret)
noncomputable def q53_35 : Q := .cond (.tmp 81) (fun _ => q53_36) (fun _ => .skip)
noncomputable def q53_33 : Q := .seq (fun _ => q53_34) (fun _ => q53_35)
noncomputable def r53_15 : List Oper := opsIn 15 f53
noncomputable def q53_40 : Q := .region 15 (fun _ => r53_15) [] false [0, 1, 2, 3] []
noncomputable def r53_16 : List Oper := opsIn 16 f53
noncomputable def q53_43 : Q := .region 16 (fun _ => r53_16) [] false [0, 1, 2, 3, 4] []
noncomputable def q53_42 : Q := .seq (fun _ => q53_43) (fun _ => .ret)
noncomputable def q53_41 : Q := .cond (.tmp 88) (fun _ => q53_42) (fun _ => .skip)
noncomputable def q53_39 : Q := .seq (fun _ => q53_40) (fun _ => q53_41)
noncomputable def r53_17 : List Oper := opsIn 17 f53
noncomputable def q53_45 : Q := .region 17 (fun _ => r53_17) [] false [0, 1, 2, 3] []
noncomputable def r53_18 : List Oper := opsIn 18 f53
noncomputable def q53_47 : Q := .region 18 (fun _ => r53_18) [] false [0, 1, 2, 3, 4, 5, 6, 7, 8, 9, 10, 11] []
noncomputable def r53_19 : List Oper := opsIn 19 f53
noncomputable def q53_49 : Q := .region 19 (fun _ => r53_19) [] false [0, 1, 2, 3, 4, 5, 6, 7, 8, 9] []
noncomputable def r53_20 : List Oper := opsIn 20 f53
noncomputable def q53_51 : Q := .region 20 (fun _ => r53_20) [] true [0, 1, 2, 3, 4] [(1, ⟨false, false, [10]⟩), (2, ⟨false, false, [10]⟩)]
noncomputable def q53_50 : Q := .seq (fun _ => q53_51) (fun _ => .ret)
noncomputable def q53_48 : Q := .seq (fun _ => q53_49) (fun _ => q53_50)
noncomputable def q53_46 : Q := .seq (fun _ => q53_47) (fun _ => q53_48)
noncomputable def q53_44 : Q := .seq (fun _ => q53_45) (fun _ => q53_46)
noncomputable def q53_38 : Q := .seq (fun _ => q53_39) (fun _ => q53_44)
noncomputable def q53_32 : Q := .seq (fun _ => q53_33) (fun _ => q53_38)
noncomputable def q53_27 : Q := .seq (fun _ => q53_28) (fun _ => q53_32)
noncomputable def q53_25 : Q := .seq (fun _ => q53_26) (fun _ => q53_27)
noncomputable def q53_20 : Q := .seq (fun _ => q53_21) (fun _ => q53_25)
noncomputable def q53_18 : Q := .seq (fun _ => q53_19) (fun _ => q53_20)
noncomputable def q53_16 : Q := .seq (fun _ => q53_17) (fun _ => q53_18)
noncomputable def q53_10 : Q := .seq (fun _ => q53_11) (fun _ => q53_16)
noncomputable def q53_2 : Q := .seq (fun _ => q53_3) (fun _ => q53_10)
noncomputable def q53_0 : Q := .seq (fun _ => q53_1) (fun _ => q53_2)
noncomputable def q53 : Unit → Q := fun _ => q53_0
theorem ok53 : FnOk 53 q53 [.cell 10 25, .cell 11 43, .tmp 12] 115 := .of f53 func53 call53 (by kernel_rfl) (by kernel_rfl) (by kernel_rfl) (by kernel_rfl)

-- parcener/agent.Honest
noncomputable def r54_0 : List Oper := opsIn 0 f54
noncomputable def q54_1 : Q := .region 0 (fun _ => r54_0) [] false [0, 1, 2] []
noncomputable def r54_1 : List Oper := opsIn 1 f54
noncomputable def q54_4 : Q := .region 1 (fun _ => r54_1) [] false [0, 1, 2] []
noncomputable def r54_2 : List Oper := opsIn 2 f54
noncomputable def q54_6 : Q := .region 2 (fun _ => r54_2) [] false [0, 1] []
noncomputable def r54_3 : List Oper := opsIn 3 f54
noncomputable def q54_9 : Q := .region 3 (fun _ => r54_3) [] false [0, 1, 2] []
noncomputable def q54_8 : Q := .seq (fun _ => q54_9) (fun _ => .ret)
noncomputable def q54_7 : Q := .cond (.tmp 16) (fun _ => q54_8) (fun _ => .skip)
noncomputable def q54_5 : Q := .seq (fun _ => q54_6) (fun _ => q54_7)
noncomputable def q54_3 : Q := .seq (fun _ => q54_4) (fun _ => q54_5)
noncomputable def r54_4 : List Oper := opsIn 4 f54
noncomputable def q54_11 : Q := .region 4 (fun _ => r54_4) [] false [0] []
noncomputable def r54_5 : List Oper := opsIn 5 f54
noncomputable def q54_14 : Q := .region 5 (fun _ => r54_5) [] false [0, 1, 2, 3] []
noncomputable def r54_6 : List Oper := opsIn 6 f54
noncomputable def q54_18 : Q := .region 6 (fun _ => r54_6) [] false [0] []
noncomputable def q54_20 : Q := .cond (.tmp 22) (fun _ => .skip) (fun _ => (.exit 0))
noncomputable def r54_7 : List Oper := opsIn 7 f54
noncomputable def q54_24 : Q := .region 7 (fun _ => r54_7) [] false [0, 1, 2, 3] []
noncomputable def r54_8 : List Oper := opsIn 8 f54
noncomputable def q54_25 : Q := .region 8 (fun _ => r54_8) [] false [0, 1, 2, 3, 4, 5] []
noncomputable def q54_23 : Q := .seq (fun _ => q54_24) (fun _ => q54_25)
noncomputable def q54_22 : Q := .block 1 (fun _ => q54_23)
noncomputable def r54_9 : List Oper := opsIn 9 f54
noncomputable def q54_26 : Q := .region 9 (fun _ => r54_9) [] false [0, 1] []
noncomputable def q54_21 : Q := .seq (fun _ => q54_22) (fun _ => q54_26)
noncomputable def q54_19 : Q := .seq (fun _ => q54_20) (fun _ => q54_21)
noncomputable def q54_17 : Q := .seq (fun _ => q54_18) (fun _ => q54_19)
noncomputable def q54_16 : Q := .loop (fun _ => q54_17)
noncomputable def q54_15 : Q := .block 0 (fun _ => q54_16)
noncomputable def q54_13 : Q := .seq (fun _ => q54_14) (fun _ => q54_15)
noncomputable def r54_10 : List Oper := opsIn 10 f54
noncomputable def q54_28 : Q := .region 10 (fun _ => r54_10) [] false [0, 1, 2, 3, 4] []
noncomputable def r54_11 : List Oper := opsIn 11 f54
noncomputable def q54_31 : Q := .region 11 (fun _ => r54_11) [] false [0, 1, 2, 3] []
noncomputable def r54_12 : List Oper := opsIn 12 f54
noncomputable def q54_35 : Q := .region 12 (fun _ => r54_12) [] false [0] []
noncomputable def q54_37 : Q := .cond (.tmp 39) (fun _ => .skip) (fun _ => (.exit 2))
noncomputable def r54_13 : List Oper := opsIn 13 f54
noncomputable def q54_41 : Q := .region 13 (fun _ => r54_13) [] false [0, 1] []
noncomputable def r54_14 : List Oper := opsIn 14 f54
noncomputable def q54_43 : Q := .region 14 (fun _ => r54_14) [] false [0, 1, 2, 3, 4] []
noncomputable def r54_15 : List Oper := opsIn 15 f54
noncomputable def q54_45 : Q := .region 15 (fun _ => r54_15) [] false [0, 1, 2, 3, 4, 5, 6, 7] []
noncomputable def r54_16 : List Oper := opsIn 16 f54
noncomputable def q54_46 : Q := .region 16 (fun _ => r54_16) [4] false [0, 1, 2, 3, 4, 5, 6, 7, 8, 9, 10, 11] []
noncomputable def q54_44 : Q := .seq (fun _ => q54_45) (fun _ => q54_46)
noncomputable def q54_42 : Q := .seq (fun _ => q54_43) (fun _ => q54_44)
noncomputable def q54_40 : Q := .seq (fun _ => q54_41) (fun _ => q54_42)
noncomputable def q54_39 : Q := .block 3 (fun _ => q54_40)
noncomputable def r54_17 : List Oper := opsIn 17 f54
noncomputable def q54_47 : Q := .region 17 (fun _ => r54_17) [] false [0, 1] []
noncomputable def q54_38 : Q := .seq (fun _ => q54_39) (fun _ => q54_47)
noncomputable def q54_36 : Q := .seq (fun _ => q54_37) (fun _ => q54_38)
noncomputable def q54_34 : Q := .seq (fun _ => q54_35) (fun _ => q54_36)
noncomputable def q54_33 : Q := .loop (fun _ => q54_34)
noncomputable def q54_32 : Q := .block 2 (fun _ => q54_33)
noncomputable def q54_30 : Q := .seq (fun _ => q54_31) (fun _ => q54_32)
noncomputable def r54_18 : List Oper := opsIn 18 f54
noncomputable def q54_49 : Q := .region 18 (fun _ => r54_18) [] false [0, 1, 2] []
noncomputable def q54_48 : Q := .seq (fun _ => q54_49) (fun _ => .ret)
noncomputable def q54_29 : Q := .seq (fun _ => q54_30) (fun _ => q54_48)
noncomputable def q54_27 : Q := .seq (fun _ => q54_28) (fun _ => q54_29)
noncomputable def q54_12 : Q := .seq (fun _ => q54_13) (fun _ => q54_27)
noncomputable def q54_10 : Q := .seq (fun _ => q54_11) (fun _ => q54_12)
noncomputable def q54_2 : Q := .seq (fun _ => q54_3) (fun _ => q54_10)
noncomputable def q54_0 : Q := .seq (fun _ => q54_1) (fun _ => q54_2)
noncomputable def q54 : Unit → Q := fun _ => q54_0
theorem ok54 : FnOk 54 q54 [.tmp 2, .tmp 3] 64 := .of f54 func54 call54 (by kernel_rfl) (by kernel_rfl) (by kernel_rfl) (by kernel_rfl)

-- parcener/parcenerref36.Honest
noncomputable def r55_0 : List Oper := opsIn 0 f55
noncomputable def q55_1 : Q := .region 0 (fun _ => r55_0) [] false [0, 1, 2] []
noncomputable def r55_1 : List Oper := opsIn 1 f55
noncomputable def q55_4 : Q := .region 1 (fun _ => r55_1) [] false [0, 1, 2] []
noncomputable def r55_2 : List Oper := opsIn 2 f55
noncomputable def q55_6 : Q := .region 2 (fun _ => r55_2) [] false [0, 1] []
noncomputable def r55_3 : List Oper := opsIn 3 f55
noncomputable def q55_9 : Q := .region 3 (fun _ => r55_3) [] false [0, 1, 2] []
noncomputable def q55_8 : Q := .seq (fun _ => q55_9) (fun _ => .ret)
noncomputable def q55_7 : Q := .cond (.tmp 14) (fun _ => q55_8) (fun _ => .skip)
noncomputable def q55_5 : Q := .seq (fun _ => q55_6) (fun _ => q55_7)
noncomputable def q55_3 : Q := .seq (fun _ => q55_4) (fun _ => q55_5)
noncomputable def r55_4 : List Oper := opsIn 4 f55
noncomputable def q55_11 : Q := .region 4 (fun _ => r55_4) [] false [0, 1, 2, 3] []
noncomputable def r55_5 : List Oper := opsIn 5 f55
noncomputable def q55_13 : Q := .region 5 (fun _ => r55_5) [] false [0] []
noncomputable def r55_6 : List Oper := opsIn 6 f55
noncomputable def q55_16 : Q := .region 6 (fun _ => r55_6) [] false [0] []
noncomputable def r55_7 : List Oper := opsIn 7 f55
noncomputable def q55_21 : Q := .region 7 (fun _ => r55_7) [] false [0, 1, 2, 3, 4] []
noncomputable def q55_22 : Q := .cond (.tmp 23) (fun _ => .skip) (fun _ => (.exit 0))
noncomputable def q55_20 : Q := .seq (fun _ => q55_21) (fun _ => q55_22)
noncomputable def r55_9 : List Oper := opsIn 9 f55
noncomputable def q55_26 : Q := .region 9 (fun _ => r55_9) [] false [0] []
noncomputable def r55_10 : List Oper := opsIn 10 f55
noncomputable def q55_28 : Q := .region 10 (fun _ => r55_10) [] false [0, 1, 2, 3, 4] []
noncomputable def r55_11 : List Oper := opsIn 11 f55
noncomputable def q55_31 : Q := .region 11 (fun _ => r55_11) [] false [0] []
noncomputable def r55_12 : List Oper := opsIn 12 f55
noncomputable def q55_36 : Q := .region 12 (fun _ => r55_12) [] false [0, 1, 2, 3] []
noncomputable def q55_37 : Q := .cond (.tmp 33) (fun _ => .skip) (fun _ => (.exit 2))
noncomputable def q55_35 : Q := .seq (fun _ => q55_36) (fun _ => q55_37)
noncomputable def r55_14 : List Oper := opsIn 14 f55
noncomputable def q55_40 : Q := .region 14 (fun _ => r55_14) [1] false [0, 1, 2, 3, 4, 5, 6, 7, 8, 9] []
noncomputable def q55_39 : Q := .block 3 (fun _ => q55_40)
noncomputable def r55_13 : List Oper := opsIn 13 f55
noncomputable def q55_41 : Q := .region 13 (fun _ => r55_13) [] false [0, 1, 2] []
noncomputable def q55_38 : Q := .seq (fun _ => q55_39) (fun _ => q55_41)
noncomputable def q55_34 : Q := .seq (fun _ => q55_35) (fun _ => q55_38)
noncomputable def q55_33 : Q := .loop (fun _ => q55_34)
noncomputable def q55_32 : Q := .block 2 (fun _ => q55_33)
noncomputable def q55_30 : Q := .seq (fun _ => q55_31) (fun _ => q55_32)
noncomputable def r55_15 : List Oper := opsIn 15 f55
noncomputable def q55_42 : Q := .region 15 (fun _ => r55_15) [] false [0, 1, 2, 3, 4] []
noncomputable def q55_29 : Q := .seq (fun _ => q55_30) (fun _ => q55_42)
noncomputable def q55_27 : Q := .seq (fun _ => q55_28) (fun _ => q55_29)
noncomputable def q55_25 : Q := .seq (fun _ => q55_26) (fun _ => q55_27)
noncomputable def q55_24 : Q := .block 1 (fun _ => q55_25)
noncomputable def r55_8 : List Oper := opsIn 8 f55
noncomputable def q55_43 : Q := .region 8 (fun _ => r55_8) [] false [0, 1, 2] []
noncomputable def q55_23 : Q := .seq (fun _ => q55_24) (fun _ => q55_43)
noncomputable def q55_19 : Q := .seq (fun _ => q55_20) (fun _ => q55_23)
noncomputable def q55_18 : Q := .loop (fun _ => q55_19)
noncomputable def q55_17 : Q := .block 0 (fun _ => q55_18)
noncomputable def q55_15 : Q := .seq (fun _ => q55_16) (fun _ => q55_17)
noncomputable def r55_16 : List Oper := opsIn 16 f55
noncomputable def q55_45 : Q := .region 16 (fun _ => r55_16) [] false [0, 1, 2] []
noncomputable def q55_44 : Q := .seq (fun _ => q55_45) (fun _ => .ret)
noncomputable def q55_14 : Q := .seq (fun _ => q55_15) (fun _ => q55_44)
noncomputable def q55_12 : Q := .seq (fun _ => q55_13) (fun _ => q55_14)
noncomputable def q55_10 : Q := .seq (fun _ => q55_11) (fun _ => q55_12)
noncomputable def q55_2 : Q := .seq (fun _ => q55_3) (fun _ => q55_10)
noncomputable def q55_0 : Q := .seq (fun _ => q55_1) (fun _ => q55_2)
noncomputable def q55 : Unit → Q := fun _ => q55_0
theorem ok55 : FnOk 55 q55 [.tmp 2, .tmp 3] 50 := .of f55 func55 call55 (by kernel_rfl) (by kernel_rfl) (by kernel_rfl) (by kernel_rfl)

-- parcener/agent.Check
noncomputable def r56_0 : List Oper := opsIn 0 f56
noncomputable def q56_1 : Q := .region 0 (fun _ => r56_0) [] false [0, 1] []
noncomputable def r56_1 : List Oper := opsIn 1 f56
noncomputable def q56_4 : Q := .region 1 (fun _ => r56_1) [4] false [0, 1, 2, 3, 4, 5, 6, 7, 8, 9] []
noncomputable def r56_2 : List Oper := opsIn 2 f56
noncomputable def q56_7 : Q := .region 2 (fun _ => r56_2) [] false [0] []
noncomputable def q56_6 : Q := .seq (fun _ => q56_7) (fun _ => .ret)
noncomputable def q56_5 : Q := .cond (.tmp 20) (fun _ => q56_6) (fun _ => .skip)
noncomputable def q56_3 : Q := .seq (fun _ => q56_4) (fun _ => q56_5)
noncomputable def r56_3 : List Oper := opsIn 3 f56
noncomputable def q56_10 : Q := .region 3 (fun _ => r56_3) [] false [0, 1, 2, 3] []
noncomputable def r56_4 : List Oper := opsIn 4 f56
noncomputable def q56_13 : Q := .region 4 (fun _ => r56_4) [] false [0] []
noncomputable def q56_12 : Q := .seq (fun _ => q56_13) (fun _ => .ret)
noncomputable def q56_11 : Q := .cond (.tmp 24) (fun _ => q56_12) (fun _ => .skip)
noncomputable def q56_9 : Q := .seq (fun _ => q56_10) (fun _ => q56_11)
noncomputable def r56_5 : List Oper := opsIn 5 f56
noncomputable def q56_16 : Q := .region 5 (fun _ => r56_5) [] false [0, 1, 2, 3] []
noncomputable def r56_6 : List Oper := opsIn 6 f56
noncomputable def q56_20 : Q := .region 6 (fun _ => r56_6) [] false [0] []
noncomputable def q56_22 : Q := .cond (.tmp 29) (fun _ => .skip) (fun _ => (.exit 0))
noncomputable def r56_7 : List Oper := opsIn 7 f56
noncomputable def q56_26 : Q := .region 7 (fun _ => r56_7) [] false [0, 1, 2, 3] []
noncomputable def r56_8 : List Oper := opsIn 8 f56
noncomputable def q56_28 : Q := .region 8 (fun _ => r56_8) [] false [0, 1, 2, 3, 4, 5] []
noncomputable def r56_9 : List Oper := opsIn 9 f56
noncomputable def q56_32 : Q := .region 9 (fun _ => r56_9) [] false [0] []
noncomputable def q56_34 : Q := .cond (.tmp 38) (fun _ => .skip) (fun _ => (.exit 2))
noncomputable def r56_10 : List Oper := opsIn 10 f56
noncomputable def q56_38 : Q := .region 10 (fun _ => r56_10) [] false [0, 1, 2] []
noncomputable def r56_11 : List Oper := opsIn 11 f56
noncomputable def q56_40 : Q := .region 11 (fun _ => r56_11) [] false [0, 1, 2] []
noncomputable def r56_12 : List Oper := opsIn 12 f56
noncomputable def q56_42 : Q := .region 12 (fun _ => r56_12) [] false [0, 1] []
noncomputable def r56_13 : List Oper := opsIn 13 f56
noncomputable def q56_45 : Q := .region 13 (fun _ => r56_13) [] false [0, 1] []
noncomputable def q56_44 : Q := .seq (fun _ => q56_45) (fun _ => .ret)
noncomputable def q56_43 : Q := .cond (.tmp 43) (fun _ => q56_44) (fun _ => .skip)
noncomputable def q56_41 : Q := .seq (fun _ => q56_42) (fun _ => q56_43)
noncomputable def q56_39 : Q := .seq (fun _ => q56_40) (fun _ => q56_41)
noncomputable def q56_37 : Q := .seq (fun _ => q56_38) (fun _ => q56_39)
noncomputable def q56_36 : Q := .block 3 (fun _ => q56_37)
noncomputable def r56_14 : List Oper := opsIn 14 f56
noncomputable def q56_46 : Q := .region 14 (fun _ => r56_14) [] false [0, 1] []
noncomputable def q56_35 : Q := .seq (fun _ => q56_36) (fun _ => q56_46)
noncomputable def q56_33 : Q := .seq (fun _ => q56_34) (fun _ => q56_35)
noncomputable def q56_31 : Q := .seq (fun _ => q56_32) (fun _ => q56_33)
noncomputable def q56_30 : Q := .loop (fun _ => q56_31)
noncomputable def q56_29 : Q := .block 2 (fun _ => q56_30)
noncomputable def q56_27 : Q := .seq (fun _ => q56_28) (fun _ => q56_29)
noncomputable def q56_25 : Q := .seq (fun _ => q56_26) (fun _ => q56_27)
noncomputable def q56_24 : Q := .block 1 (fun _ => q56_25)
noncomputable def r56_15 : List Oper := opsIn 15 f56
noncomputable def q56_47 : Q := .region 15 (fun _ => r56_15) [] false [0, 1] []
noncomputable def q56_23 : Q := .seq (fun _ => q56_24) (fun _ => q56_47)
noncomputable def q56_21 : Q := .seq (fun _ => q56_22) (fun _ => q56_23)
noncomputable def q56_19 : Q := .seq (fun _ => q56_20) (fun _ => q56_21)
noncomputable def q56_18 : Q := .loop (fun _ => q56_19)
noncomputable def q56_17 : Q := .block 0 (fun _ => q56_18)
noncomputable def q56_15 : Q := .seq (fun _ => q56_16) (fun _ => q56_17)
noncomputable def r56_16 : List Oper := opsIn 16 f56
noncomputable def q56_49 : Q := .region 16 (fun _ => r56_16) [] false [0, 1, 2, 3, 4, 5, 6] []
noncomputable def r56_17 : List Oper := opsIn 17 f56
noncomputable def q56_52 : Q := .region 17 (fun _ => r56_17) [] false [0, 1, 2, 3] []
noncomputable def r56_18 : List Oper := opsIn 18 f56
noncomputable def q56_56 : Q := .region 18 (fun _ => r56_18) [] false [0] []
noncomputable def q56_58 : Q := .cond (.tmp 57) (fun _ => .skip) (fun _ => (.exit 4))
noncomputable def r56_19 : List Oper := opsIn 19 f56
noncomputable def q56_62 : Q := .region 19 (fun _ => r56_19) [] false [0, 1, 2, 3, 4, 5] []
noncomputable def r56_20 : List Oper := opsIn 20 f56
noncomputable def q56_64 : Q := .region 20 (fun _ => r56_20) [5, 12, 17, 22] true [0, 1, 2, 3, 4, 5, 6, 7, 8, 9, 10, 11, 12, 13, 14, 15, 16, 17, 18, 19, 20, 21, 22, 23, 24, 25, 26, 27, 28, 29, 30, 31] []
noncomputable def r56_21 : List Oper := opsIn 21 f56
noncomputable def q56_67 : Q := .region 21 (fun _ => r56_21) [] false [0] []
noncomputable def q56_66 : Q := .seq (fun _ => q56_67) (fun _ => .ret)
noncomputable def q56_65 : Q := .cond (.tmp 92) (fun _ => q56_66) (fun _ => .skip)
noncomputable def q56_63 : Q := .seq (fun _ => q56_64) (fun _ => q56_65)
noncomputable def q56_61 : Q := .seq (fun _ => q56_62) (fun _ => q56_63)
noncomputable def q56_60 : Q := .block 5 (fun _ => q56_61)
noncomputable def r56_22 : List Oper := opsIn 22 f56
noncomputable def q56_68 : Q := .region 22 (fun _ => r56_22) [] false [0, 1] []
noncomputable def q56_59 : Q := .seq (fun _ => q56_60) (fun _ => q56_68)
noncomputable def q56_57 : Q := .seq (fun _ => q56_58) (fun _ => q56_59)
noncomputable def q56_55 : Q := .seq (fun _ => q56_56) (fun _ => q56_57)
noncomputable def q56_54 : Q := .loop (fun _ => q56_55)
noncomputable def q56_53 : Q := .block 4 (fun _ => q56_54)
noncomputable def q56_51 : Q := .seq (fun _ => q56_52) (fun _ => q56_53)
noncomputable def r56_23 : List Oper := opsIn 23 f56
noncomputable def q56_70 : Q := .region 23 (fun _ => r56_23) [] false [0] []
noncomputable def q56_69 : Q := .seq (fun _ => q56_70) (fun _ => .ret)
noncomputable def q56_50 : Q := .seq (fun _ => q56_51) (fun _ => q56_69)
noncomputable def q56_48 : Q := .seq (fun _ => q56_49) (fun _ => q56_50)
noncomputable def q56_14 : Q := .seq (fun _ => q56_15) (fun _ => q56_48)
noncomputable def q56_8 : Q := .seq (fun _ => q56_9) (fun _ => q56_14)
noncomputable def q56_2 : Q := .seq (fun _ => q56_3) (fun _ => q56_8)
noncomputable def q56_0 : Q := .seq (fun _ => q56_1) (fun _ => q56_2)
noncomputable def q56 : Unit → Q := fun _ => q56_0
theorem ok56 : FnOk 56 q56 [.tmp 2] 94 := .of f56 func56 call56 (by kernel_rfl) (by kernel_rfl) (by kernel_rfl) (by kernel_rfl)

end Go.SX
