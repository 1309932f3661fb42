/- The functions of the program: the frame of their code, by numbers. Printed by genfn.py. -/
import Derived.Test.YtojdihbanakhgaaCoreB
import Derived.Test.YtojdihbanakhgaaProg
import Derived.KernelRfl
namespace Go.SX
open Go.Proofs.Try

-- parcener/parcenerlaw36.AgentRuns
noncomputable def r3_0 : List Oper := opsIn 0 f3
noncomputable def q3_1 : Q := .region 0 (fun _ => r3_0) [] false [0, 1] []
noncomputable def r3_1 : List Oper := opsIn 1 f3
noncomputable def q3_4 : Q := .region 1 (fun _ => r3_1) [2, 6, 12] false [0, 1, 2, 3, 4, 5, 6, 7, 8, 9, 10, 11, 12, 13, 14, 15, 16] []
noncomputable def r3_2 : List Oper := opsIn 2 f3
noncomputable def q3_7 : Q := .region 2 (fun _ => r3_2) [] false [0] []
noncomputable def q3_6 : Q := .seq (fun _ => q3_7) (fun _ => .ret)
noncomputable def q3_5 : Q := .cond (.tmp 29) (fun _ => q3_6) (fun _ => .skip)
noncomputable def q3_3 : Q := .seq (fun _ => q3_4) (fun _ => q3_5)
noncomputable def r3_3 : List Oper := opsIn 3 f3
noncomputable def q3_9 : Q := .region 3 (fun _ => r3_3) [] false [0, 1, 2, 3, 4, 5, 6, 7, 8, 9, 10] []
noncomputable def r3_4 : List Oper := opsIn 4 f3
noncomputable def q3_11 : Q := .region 4 (fun _ => r3_4) [] false [0, 1, 2, 3, 4, 5, 6, 7, 8, 9, 10] []
noncomputable def r3_5 : List Oper := opsIn 5 f3
noncomputable def q3_13 : Q := .region 5 (fun _ => r3_5) [3, 8, 13] false [0, 1, 2, 3, 4, 5, 6, 7, 8, 9, 10, 11, 12, 13, 14, 15, 16, 17, 18, 19, 20, 21, 22] []
noncomputable def q3_12 : Q := .seq (fun _ => q3_13) (fun _ => .ret)
noncomputable def q3_10 : Q := .seq (fun _ => q3_11) (fun _ => q3_12)
noncomputable def q3_8 : Q := .seq (fun _ => q3_9) (fun _ => q3_10)
noncomputable def q3_2 : Q := .seq (fun _ => q3_3) (fun _ => q3_8)
noncomputable def q3_0 : Q := .seq (fun _ => q3_1) (fun _ => q3_2)
noncomputable def q3 : Unit → Q := fun _ => q3_0
theorem ok3 : FnOk 3 q3 [.tmp 6] 66 := .of f3 func3 call3 (by kernel_rfl) (by kernel_rfl) (by kernel_rfl) (by kernel_rfl)

-- parcener/parcenerlaw02.CakeNames
noncomputable def r4_0 : List Oper := opsIn 0 f4
noncomputable def q4_1 : Q := .region 0 (fun _ => r4_0) [] false [0] []
noncomputable def r4_1 : List Oper := opsIn 1 f4
noncomputable def q4_3 : Q := .region 1 (fun _ => r4_1) [] false [0, 1, 2, 3, 4, 5, 6, 7] []
noncomputable def r4_2 : List Oper := opsIn 2 f4
noncomputable def q4_5 : Q := .region 2 (fun _ => r4_2) [] false [0, 1, 2, 3, 4, 5, 6, 7] []
noncomputable def r4_3 : List Oper := opsIn 3 f4
noncomputable def q4_7 : Q := .region 3 (fun _ => r4_3) [] false [0, 1, 2, 3, 4, 5, 6, 7] []
noncomputable def r4_4 : List Oper := opsIn 4 f4
noncomputable def q4_9 : Q := .region 4 (fun _ => r4_4) [] false [0, 1, 2, 3, 4, 5, 6, 7] []
noncomputable def r4_5 : List Oper := opsIn 5 f4
noncomputable def q4_11 : Q := .region 5 (fun _ => r4_5) [] false [0, 1, 2, 3, 4, 5, 6, 7, 8, 9] []
noncomputable def r4_6 : List Oper := opsIn 6 f4
noncomputable def q4_13 : Q := .region 6 (fun _ => r4_6) [] false [0, 1, 2, 3, 4, 5, 6, 7, 8, 9] []
noncomputable def r4_7 : List Oper := opsIn 7 f4
noncomputable def q4_15 : Q := .region 7 (fun _ => r4_7) [] false [0, 1, 2, 3, 4, 5, 6, 7, 8, 9] []
noncomputable def r4_8 : List Oper := opsIn 8 f4
noncomputable def q4_17 : Q := .region 8 (fun _ => r4_8) [] false [0, 1, 2, 3, 4, 5, 6, 7, 8, 9] []
noncomputable def r4_9 : List Oper := opsIn 9 f4
noncomputable def q4_19 : Q := .region 9 (fun _ => r4_9) [2, 6, 10, 14, 18, 25, 29, 33, 40, 44, 49, 53, 58, 62] true [0, 1, 2, 3, 4, 5, 6, 7, 8, 9, 10, 11, 12, 13, 14, 15, 16, 17, 18, 19, 20, 21, 22, 23, 24, 25, 26, 27, 28, 29, 30, 31, 32, 33, 34, 35, 36, 37, 38, 39, 40, 41, 42, 43, 44, 45, 46, 47, 48, 49, 50, 51, 52, 53, 54, 55, 56, 57, 58, 59, 60, 61, 62, 63, 64, 65, 66, 67] []
noncomputable def r4_10 : List Oper := opsIn 10 f4
noncomputable def q4_21 : Q := .region 10 (fun _ => r4_10) [] false [0, 1, 2, 3, 4, 5, 6, 7, 8, 9] []
noncomputable def r4_11 : List Oper := opsIn 11 f4
noncomputable def q4_23 : Q := .region 11 (fun _ => r4_11) [] false [0, 1, 2, 3, 4, 5, 6, 7, 8, 9] []
noncomputable def r4_12 : List Oper := opsIn 12 f4
noncomputable def q4_25 : Q := .region 12 (fun _ => r4_12) [] false [0, 1, 2, 3, 4, 5, 6, 7, 8, 9] []
noncomputable def r4_13 : List Oper := opsIn 13 f4
noncomputable def q4_27 : Q := .region 13 (fun _ => r4_13) [] false [0, 1, 2, 3, 4, 5, 6, 7, 8, 9] []
noncomputable def r4_14 : List Oper := opsIn 14 f4
noncomputable def q4_29 : Q := .region 14 (fun _ => r4_14) [] false [0, 1, 2, 3, 4, 5, 6, 7, 8, 9] []
noncomputable def r4_15 : List Oper := opsIn 15 f4
noncomputable def q4_31 : Q := .region 15 (fun _ => r4_15) [] false [0, 1, 2, 3, 4, 5, 6, 7, 8, 9] []
noncomputable def r4_16 : List Oper := opsIn 16 f4
noncomputable def q4_33 : Q := .region 16 (fun _ => r4_16) [] false [0, 1, 2, 3, 4, 5, 6, 7] []
noncomputable def r4_17 : List Oper := opsIn 17 f4
noncomputable def q4_35 : Q := .region 17 (fun _ => r4_17) [] false [0, 1, 2, 3, 4, 5, 6, 7] []
noncomputable def r4_18 : List Oper := opsIn 18 f4
noncomputable def q4_37 : Q := .region 18 (fun _ => r4_18) [] false [0, 1, 2, 3, 4, 5, 6, 7] []
noncomputable def r4_19 : List Oper := opsIn 19 f4
noncomputable def q4_39 : Q := .region 19 (fun _ => r4_19) [] false [0, 1, 2, 3, 4, 5, 6, 7, 8, 9] []
noncomputable def r4_20 : List Oper := opsIn 20 f4
noncomputable def q4_41 : Q := .region 20 (fun _ => r4_20) [2, 6, 10, 14, 18, 22, 26, 30, 34] false [0, 1, 2, 3, 4, 5, 6, 7, 8, 9, 10, 11, 12, 13, 14, 15, 16, 17, 18, 19, 20, 21, 22, 23, 24, 25, 26, 27, 28, 29, 30, 31, 32, 33, 34, 35, 36, 37, 38] []
noncomputable def r4_21 : List Oper := opsIn 21 f4
noncomputable def q4_43 : Q := .region 21 (fun _ => r4_21) [] false [0, 1, 2] []
noncomputable def r4_22 : List Oper := opsIn 22 f4
noncomputable def q4_45 : Q := .region 22 (fun _ => r4_22) [] false [0, 1] []
noncomputable def r4_23 : List Oper := opsIn 23 f4
noncomputable def q4_47 : Q := .region 23 (fun _ => r4_23) [3, 8, 15, 22, 29, 35, 41] false [0, 1, 2, 3, 4, 5, 6, 7, 8, 9, 10, 11, 12, 13, 14, 15, 16, 17, 18, 19, 20, 21, 22, 23, 24, 25, 26, 27, 28, 29, 30, 31, 32, 33, 34, 35, 36, 37, 38, 39, 40, 41, 42, 43, 44, 45, 46, 47] []
noncomputable def r4_24 : List Oper := opsIn 24 f4
noncomputable def q4_49 : Q := .region 24 (fun _ => r4_24) [0, 3, 6, 9] false [0, 1, 2, 3, 4, 5, 6, 7, 8, 9, 10, 11, 12] []
noncomputable def q4_48 : Q := .seq (fun _ => q4_49) (fun _ => .ret)
noncomputable def q4_46 : Q := .seq (fun _ => q4_47) (fun _ => q4_48)
noncomputable def q4_44 : Q := .seq (fun _ => q4_45) (fun _ => q4_46)
noncomputable def q4_42 : Q := .seq (fun _ => q4_43) (fun _ => q4_44)
noncomputable def q4_40 : Q := .seq (fun _ => q4_41) (fun _ => q4_42)
noncomputable def q4_38 : Q := .seq (fun _ => q4_39) (fun _ => q4_40)
noncomputable def q4_36 : Q := .seq (fun _ => q4_37) (fun _ => q4_38)
noncomputable def q4_34 : Q := .seq (fun _ => q4_35) (fun _ => q4_36)
noncomputable def q4_32 : Q := .seq (fun _ => q4_33) (fun _ => q4_34)
noncomputable def q4_30 : Q := .seq (fun _ => q4_31) (fun _ => q4_32)
noncomputable def q4_28 : Q := .seq (fun _ => q4_29) (fun _ => q4_30)
noncomputable def q4_26 : Q := .seq (fun _ => q4_27) (fun _ => q4_28)
noncomputable def q4_24 : Q := .seq (fun _ => q4_25) (fun _ => q4_26)
noncomputable def q4_22 : Q := .seq (fun _ => q4_23) (fun _ => q4_24)
noncomputable def q4_20 : Q := .seq (fun _ => q4_21) (fun _ => q4_22)
noncomputable def q4_18 : Q := .seq (fun _ => q4_19) (fun _ => q4_20)
noncomputable def q4_16 : Q := .seq (fun _ => q4_17) (fun _ => q4_18)
noncomputable def q4_14 : Q := .seq (fun _ => q4_15) (fun _ => q4_16)
noncomputable def q4_12 : Q := .seq (fun _ => q4_13) (fun _ => q4_14)
noncomputable def q4_10 : Q := .seq (fun _ => q4_11) (fun _ => q4_12)
noncomputable def q4_8 : Q := .seq (fun _ => q4_9) (fun _ => q4_10)
noncomputable def q4_6 : Q := .seq (fun _ => q4_7) (fun _ => q4_8)
noncomputable def q4_4 : Q := .seq (fun _ => q4_5) (fun _ => q4_6)
noncomputable def q4_2 : Q := .seq (fun _ => q4_3) (fun _ => q4_4)
noncomputable def q4_0 : Q := .seq (fun _ => q4_1) (fun _ => q4_2)
noncomputable def q4 : Unit → Q := fun _ => q4_0
theorem ok4 : FnOk 4 q4 [.tmp 0] 322 := .of f4 func4 call4 (by kernel_rfl) (by kernel_rfl) (by kernel_rfl) (by kernel_rfl)

-- parcener/parcenerlaw04.AskNames
noncomputable def r5_0 : List Oper := opsIn 0 f5
noncomputable def q5_1 : Q := .region 0 (fun _ => r5_0) [] false [0] []
noncomputable def r5_1 : List Oper := opsIn 1 f5
noncomputable def q5_3 : Q := .region 1 (fun _ => r5_1) [] false [0, 1, 2, 3] []
noncomputable def r5_2 : List Oper := opsIn 2 f5
noncomputable def q5_5 : Q := .region 2 (fun _ => r5_2) [] true [0, 1, 2, 3, 4] []
noncomputable def r5_3 : List Oper := opsIn 3 f5
noncomputable def q5_7 : Q := .region 3 (fun _ => r5_3) [] true [0, 1, 2, 3, 4, 5, 6, 7, 8, 9, 10, 11, 12] [(6, ⟨true, false, []⟩), (7, ⟨true, false, []⟩)]
noncomputable def r5_4 : List Oper := opsIn 4 f5
noncomputable def q5_9 : Q := .region 4 (fun _ => r5_4) [] true [0, 1, 2, 3, 4, 5, 6, 7, 8, 9, 10, 11, 12] [(6, ⟨true, false, []⟩), (7, ⟨true, false, []⟩)]
noncomputable def r5_5 : List Oper := opsIn 5 f5
noncomputable def q5_11 : Q := .region 5 (fun _ => r5_5) [] true [0, 1, 2, 3, 4, 5, 6, 7, 8, 9, 10, 11, 12] [(6, ⟨true, false, []⟩), (7, ⟨true, false, []⟩)]
noncomputable def r5_6 : List Oper := opsIn 6 f5
noncomputable def q5_13 : Q := .region 6 (fun _ => r5_6) [] true [0, 1, 2, 3, 4, 5, 6, 7, 8, 9, 10, 11, 12] [(6, ⟨true, false, []⟩), (7, ⟨true, false, []⟩)]
noncomputable def r5_7 : List Oper := opsIn 7 f5
noncomputable def q5_15 : Q := .region 7 (fun _ => r5_7) [] true [0, 1, 2, 3, 4, 5, 6, 7, 8, 9, 10, 11, 12] [(6, ⟨true, false, []⟩), (7, ⟨true, false, []⟩)]
noncomputable def r5_8 : List Oper := opsIn 8 f5
noncomputable def q5_17 : Q := .region 8 (fun _ => r5_8) [] false [0, 1, 2, 3, 4, 5, 6] []
noncomputable def r5_9 : List Oper := opsIn 9 f5
noncomputable def q5_19 : Q := .region 9 (fun _ => r5_9) [] false [0, 1, 2, 3, 4, 5, 6] []
noncomputable def r5_10 : List Oper := opsIn 10 f5
noncomputable def q5_21 : Q := .region 10 (fun _ => r5_10) [] false [0, 1, 2, 3, 4, 5, 6, 7] []
noncomputable def r5_11 : List Oper := opsIn 11 f5
noncomputable def q5_23 : Q := .region 11 (fun _ => r5_11) [] false [0, 1] []
noncomputable def r5_12 : List Oper := opsIn 12 f5
noncomputable def q5_25 : Q := .region 12 (fun _ => r5_12) [] false [0, 1, 2, 3, 4, 5, 6, 7, 8] []
noncomputable def r5_13 : List Oper := opsIn 13 f5
noncomputable def q5_27 : Q := .region 13 (fun _ => r5_13) [] false [0, 1, 2, 3, 4, 5, 6, 7] []
noncomputable def r5_14 : List Oper := opsIn 14 f5
noncomputable def q5_29 : Q := .region 14 (fun _ => r5_14) [] true [0, 1, 2, 3, 4, 5, 6, 7] []
noncomputable def r5_15 : List Oper := opsIn 15 f5
noncomputable def q5_31 : Q := .region 15 (fun _ => r5_15) [] false [0, 1, 2, 3, 4, 5, 6, 7] []
noncomputable def r5_16 : List Oper := opsIn 16 f5
noncomputable def q5_33 : Q := .region 16 (fun _ => r5_16) [2, 6, 10, 14, 18, 22, 26, 30, 34, 38] false [0, 1, 2, 3, 4, 5, 6, 7, 8, 9, 10, 11, 12, 13, 14, 15, 16, 17, 18, 19, 20, 21, 22, 23, 24, 25, 26, 27, 28, 29, 30, 31, 32, 33, 34, 35, 36, 37, 38, 39, 40, 41, 42] []
noncomputable def r5_17 : List Oper := opsIn 17 f5
noncomputable def q5_35 : Q := .region 17 (fun _ => r5_17) [] false [0, 1, 2, 3, 4, 5, 6, 7, 8, 9, 10, 11, 12, 13] []
noncomputable def r5_18 : List Oper := opsIn 18 f5
noncomputable def q5_37 : Q := .region 18 (fun _ => r5_18) [] false [0, 1, 2, 3, 4, 5, 6, 7] []
noncomputable def r5_19 : List Oper := opsIn 19 f5
noncomputable def q5_39 : Q := .region 19 (fun _ => r5_19) [] false [0, 1, 2, 3, 4] []
noncomputable def r5_20 : List Oper := opsIn 20 f5
noncomputable def q5_41 : Q := .region 20 (fun _ => r5_20) [] false [0, 1, 2, 3, 4, 5, 6, 7] []
noncomputable def r5_21 : List Oper := opsIn 21 f5
noncomputable def q5_43 : Q := .region 21 (fun _ => r5_21) [] false [0, 1, 2, 3] []
noncomputable def r5_22 : List Oper := opsIn 22 f5
noncomputable def q5_45 : Q := .region 22 (fun _ => r5_22) [] false [0, 1, 2, 3, 4, 5, 6, 7] []
noncomputable def r5_23 : List Oper := opsIn 23 f5
noncomputable def q5_47 : Q := .region 23 (fun _ => r5_23) [] true [0, 1, 2, 3, 4, 5, 6, 7, 8, 9, 10, 11, 12] [(6, ⟨true, false, []⟩), (7, ⟨true, false, []⟩)]
noncomputable def r5_24 : List Oper := opsIn 24 f5
noncomputable def q5_49 : Q := .region 24 (fun _ => r5_24) [2, 6, 10, 14, 18, 22, 26, 31, 37, 48, 53, 58] true [0, 1, 2, 3, 4, 5, 6, 7, 8, 9, 10, 11, 12, 13, 14, 15, 16, 17, 18, 19, 20, 21, 22, 23, 24, 25, 26, 27, 28, 29, 30, 31, 32, 33, 34, 35, 36, 37, 38, 39, 40, 41, 42, 44, 43, 45, 46, 47, 48, 49, 50, 51, 52, 53, 54, 55, 56, 57, 58, 59, 60, 61, 62] []
noncomputable def r5_25 : List Oper := opsIn 25 f5
noncomputable def q5_51 : Q := .region 25 (fun _ => r5_25) [0, 3, 6] false [0, 1, 2, 3, 4, 5, 6, 7, 8, 9] []
noncomputable def q5_50 : Q := .seq (fun _ => q5_51) (fun _ => .ret)
noncomputable def q5_48 : Q := .seq (fun _ => q5_49) (fun _ => q5_50)
noncomputable def q5_46 : Q := .seq (fun _ => q5_47) (fun _ => q5_48)
noncomputable def q5_44 : Q := .seq (fun _ => q5_45) (fun _ => q5_46)
noncomputable def q5_42 : Q := .seq (fun _ => q5_43) (fun _ => q5_44)
noncomputable def q5_40 : Q := .seq (fun _ => q5_41) (fun _ => q5_42)
noncomputable def q5_38 : Q := .seq (fun _ => q5_39) (fun _ => q5_40)
noncomputable def q5_36 : Q := .seq (fun _ => q5_37) (fun _ => q5_38)
noncomputable def q5_34 : Q := .seq (fun _ => q5_35) (fun _ => q5_36)
noncomputable def q5_32 : Q := .seq (fun _ => q5_33) (fun _ => q5_34)
noncomputable def q5_30 : Q := .seq (fun _ => q5_31) (fun _ => q5_32)
noncomputable def q5_28 : Q := .seq (fun _ => q5_29) (fun _ => q5_30)
noncomputable def q5_26 : Q := .seq (fun _ => q5_27) (fun _ => q5_28)
noncomputable def q5_24 : Q := .seq (fun _ => q5_25) (fun _ => q5_26)
noncomputable def q5_22 : Q := .seq (fun _ => q5_23) (fun _ => q5_24)
noncomputable def q5_20 : Q := .seq (fun _ => q5_21) (fun _ => q5_22)
noncomputable def q5_18 : Q := .seq (fun _ => q5_19) (fun _ => q5_20)
noncomputable def q5_16 : Q := .seq (fun _ => q5_17) (fun _ => q5_18)
noncomputable def q5_14 : Q := .seq (fun _ => q5_15) (fun _ => q5_16)
noncomputable def q5_12 : Q := .seq (fun _ => q5_13) (fun _ => q5_14)
noncomputable def q5_10 : Q := .seq (fun _ => q5_11) (fun _ => q5_12)
noncomputable def q5_8 : Q := .seq (fun _ => q5_9) (fun _ => q5_10)
noncomputable def q5_6 : Q := .seq (fun _ => q5_7) (fun _ => q5_8)
noncomputable def q5_4 : Q := .seq (fun _ => q5_5) (fun _ => q5_6)
noncomputable def q5_2 : Q := .seq (fun _ => q5_3) (fun _ => q5_4)
noncomputable def q5_0 : Q := .seq (fun _ => q5_1) (fun _ => q5_2)
noncomputable def q5 : Unit → Q := fun _ => q5_0
theorem ok5 : FnOk 5 q5 [.tmp 0] 286 := .of f5 func5 call5 (by kernel_rfl) (by kernel_rfl) (by kernel_rfl) (by kernel_rfl)

-- parcener/parcenerlaw04.AskReplays
noncomputable def r6_0 : List Oper := opsIn 0 f6
noncomputable def q6_1 : Q := .region 0 (fun _ => r6_0) [] false [0] []
noncomputable def r6_1 : List Oper := opsIn 1 f6
noncomputable def q6_4 : Q := .region 1 (fun _ => r6_1) [2] false [0, 1, 2, 3, 4, 5, 6] []
noncomputable def r6_2 : List Oper := opsIn 2 f6
noncomputable def q6_7 : Q := .region 2 (fun _ => r6_2) [] false [0, 1] []
noncomputable def q6_6 : Q := .seq (fun _ => q6_7) (fun _ => .ret)
noncomputable def q6_5 : Q := .cond (.tmp 21) (fun _ => q6_6) (fun _ => .skip)
noncomputable def q6_3 : Q := .seq (fun _ => q6_4) (fun _ => q6_5)
noncomputable def r6_3 : List Oper := opsIn 3 f6
noncomputable def q6_9 : Q := .region 3 (fun _ => r6_3) [] false [0, 1, 2, 3, 4, 5, 6, 7, 8, 9, 10] []
noncomputable def r6_4 : List Oper := opsIn 4 f6
noncomputable def q6_12 : Q := .region 4 (fun _ => r6_4) [] false [0, 1] []
noncomputable def r6_5 : List Oper := opsIn 5 f6
noncomputable def q6_15 : Q := .region 5 (fun _ => r6_5) [4] false [0, 1, 2, 3, 4, 5, 6, 7] []
noncomputable def q6_14 : Q := .seq (fun _ => q6_15) (fun _ => .ret)
noncomputable def q6_13 : Q := .cond (.tmp 31) (fun _ => q6_14) (fun _ => .skip)
noncomputable def q6_11 : Q := .seq (fun _ => q6_12) (fun _ => q6_13)
noncomputable def r6_6 : List Oper := opsIn 6 f6
noncomputable def q6_17 : Q := .region 6 (fun _ => r6_6) [] false [0, 1, 2, 3, 4, 5, 6, 7, 8] []
noncomputable def r6_7 : List Oper := opsIn 7 f6
noncomputable def q6_20 : Q := .region 7 (fun _ => r6_7) [2, 7, 14, 21] false [0, 1, 2, 3, 4, 5, 6, 7, 8, 9, 10, 11, 12, 13, 14, 15, 16, 17, 18, 19, 20, 21, 22, 23, 24, 25, 26, 27] []
noncomputable def r6_8 : List Oper := opsIn 8 f6
noncomputable def q6_23 : Q := .region 8 (fun _ => r6_8) [] false [0] []
noncomputable def q6_22 : Q := .seq (fun _ => q6_23) (fun _ => .ret)
noncomputable def q6_21 : Q := .cond (.tmp 73) (fun _ => q6_22) (fun _ => .skip)
noncomputable def q6_19 : Q := .seq (fun _ => q6_20) (fun _ => q6_21)
noncomputable def r6_9 : List Oper := opsIn 9 f6
noncomputable def q6_25 : Q := .region 9 (fun _ => r6_9) [] false [0] []
noncomputable def r6_10 : List Oper := opsIn 10 f6
noncomputable def q6_28 : Q := .region 10 (fun _ => r6_10) [] false [0] []
noncomputable def r6_11 : List Oper := opsIn 11 f6
noncomputable def q6_33 : Q := .region 11 (fun _ => r6_11) [] false [0, 1, 2, 3] []
noncomputable def q6_34 : Q := .cond (.tmp 77) (fun _ => .skip) (fun _ => (.exit 0))
noncomputable def q6_32 : Q := .seq (fun _ => q6_33) (fun _ => q6_34)
noncomputable def r6_13 : List Oper := opsIn 13 f6
noncomputable def q6_37 : Q := .region 13 (fun _ => r6_13) [] false [0, 1, 2, 3, 4, 5, 6] []
noncomputable def q6_36 : Q := .block 1 (fun _ => q6_37)
noncomputable def r6_12 : List Oper := opsIn 12 f6
noncomputable def q6_38 : Q := .region 12 (fun _ => r6_12) [] false [0, 1, 2] []
noncomputable def q6_35 : Q := .seq (fun _ => q6_36) (fun _ => q6_38)
noncomputable def q6_31 : Q := .seq (fun _ => q6_32) (fun _ => q6_35)
noncomputable def q6_30 : Q := .loop (fun _ => q6_31)
noncomputable def q6_29 : Q := .block 0 (fun _ => q6_30)
noncomputable def q6_27 : Q := .seq (fun _ => q6_28) (fun _ => q6_29)
noncomputable def r6_14 : List Oper := opsIn 14 f6
noncomputable def q6_40 : Q := .region 14 (fun _ => r6_14) [] false [0, 1, 2, 3, 4, 5, 6, 7, 8, 9, 10, 11] []
noncomputable def r6_15 : List Oper := opsIn 15 f6
noncomputable def q6_42 : Q := .region 15 (fun _ => r6_15) [3, 6, 11, 18] false [0, 1, 2, 3, 4, 5, 6, 7, 8, 9, 10, 11, 12, 13, 14, 15, 16, 17, 18, 19, 20, 21] []
noncomputable def q6_41 : Q := .seq (fun _ => q6_42) (fun _ => .ret)
noncomputable def q6_39 : Q := .seq (fun _ => q6_40) (fun _ => q6_41)
noncomputable def q6_26 : Q := .seq (fun _ => q6_27) (fun _ => q6_39)
noncomputable def q6_24 : Q := .seq (fun _ => q6_25) (fun _ => q6_26)
noncomputable def q6_18 : Q := .seq (fun _ => q6_19) (fun _ => q6_24)
noncomputable def q6_16 : Q := .seq (fun _ => q6_17) (fun _ => q6_18)
noncomputable def q6_10 : Q := .seq (fun _ => q6_11) (fun _ => q6_16)
noncomputable def q6_8 : Q := .seq (fun _ => q6_9) (fun _ => q6_10)
noncomputable def q6_2 : Q := .seq (fun _ => q6_3) (fun _ => q6_8)
noncomputable def q6_0 : Q := .seq (fun _ => q6_1) (fun _ => q6_2)
noncomputable def q6 : Unit → Q := fun _ => q6_0
theorem ok6 : FnOk 6 q6 [.tmp 4] 115 := .of f6 func6 call6 (by kernel_rfl) (by kernel_rfl) (by kernel_rfl) (by kernel_rfl)

-- parcener/parcenerlaw04.AskPrivate
noncomputable def r7_0 : List Oper := opsIn 0 f7
noncomputable def q7_1 : Q := .region 0 (fun _ => r7_0) [] false [0, 1, 2, 3] []
noncomputable def r7_1 : List Oper := opsIn 1 f7
noncomputable def q7_4 : Q := .region 1 (fun _ => r7_1) [2, 7, 13, 17] false [0, 1, 2, 3, 4, 5, 6, 7, 8, 9, 10, 11, 12, 13, 14, 15, 16, 17, 18, 19, 20, 21, 22, 23, 24] []
noncomputable def r7_2 : List Oper := opsIn 2 f7
noncomputable def q7_7 : Q := .region 2 (fun _ => r7_2) [] false [0, 1] []
noncomputable def q7_6 : Q := .seq (fun _ => q7_7) (fun _ => .ret)
noncomputable def q7_5 : Q := .cond (.tmp 53) (fun _ => q7_6) (fun _ => .skip)
noncomputable def q7_3 : Q := .seq (fun _ => q7_4) (fun _ => q7_5)
noncomputable def r7_3 : List Oper := opsIn 3 f7
noncomputable def q7_9 : Q := .region 3 (fun _ => r7_3) [] false [0, 1, 2, 3, 4, 5, 6, 7, 8, 9, 10, 11, 12, 13] []
noncomputable def r7_4 : List Oper := opsIn 4 f7
noncomputable def q7_11 : Q := .region 4 (fun _ => r7_4) [] true [0, 1, 2, 3, 4, 5, 6, 7, 8, 9, 10, 11, 12, 13] [(10, ⟨true, false, []⟩)]
noncomputable def r7_5 : List Oper := opsIn 5 f7
noncomputable def q7_13 : Q := .region 5 (fun _ => r7_5) [] false [0, 1, 2, 3, 4, 5, 6, 7, 8, 9, 10, 11, 12, 13] []
noncomputable def r7_6 : List Oper := opsIn 6 f7
noncomputable def q7_15 : Q := .region 6 (fun _ => r7_6) [] true [0, 1, 2, 3, 4, 5, 6, 7, 8, 9, 10, 11, 12, 13] [(10, ⟨true, false, []⟩)]
noncomputable def r7_7 : List Oper := opsIn 7 f7
noncomputable def q7_17 : Q := .region 7 (fun _ => r7_7) [] false [0, 1, 2, 3, 4] []
noncomputable def r7_8 : List Oper := opsIn 8 f7
noncomputable def q7_20 : Q := .region 8 (fun _ => r7_8) [2, 7, 10, 12, 16, 19, 22, 31, 34, 40, 43, 45, 49, 52, 55] false [0, 1, 2, 3, 4, 5, 6, 7, 8, 9, 10, 11, 12, 13, 14, 15, 16, 17, 18, 19, 20, 21, 22, 23, 24, 25, 26, 27, 28, 29, 30, 31, 32, 33, 34, 35, 36, 37, 38, 39, 40, 41, 42, 43, 44, 45, 46, 47, 48, 49, 50, 51, 52, 53, 54, 55, 56, 57, 58, 59, 60, 61, 62, 63] []
noncomputable def r7_9 : List Oper := opsIn 9 f7
noncomputable def q7_23 : Q := .region 9 (fun _ => r7_9) [] false [0] []
noncomputable def q7_22 : Q := .seq (fun _ => q7_23) (fun _ => .ret)
noncomputable def q7_21 : Q := .cond (.tmp 162) (fun _ => q7_22) (fun _ => .skip)
noncomputable def q7_19 : Q := .seq (fun _ => q7_20) (fun _ => q7_21)
noncomputable def r7_10 : List Oper := opsIn 10 f7
noncomputable def q7_26 : Q := .region 10 (fun _ => r7_10) [2, 11, 23] true [0, 1, 2, 3, 4, 5, 6, 7, 8, 9, 10, 11, 12, 13, 14, 15, 16, 17, 18, 19, 20, 21, 22, 23, 24, 25, 26, 27, 28, 29, 30, 31] []
noncomputable def r7_11 : List Oper := opsIn 11 f7
noncomputable def q7_29 : Q := .region 11 (fun _ => r7_11) [] false [0] []
noncomputable def q7_28 : Q := .seq (fun _ => q7_29) (fun _ => .ret)
noncomputable def q7_27 : Q := .cond (.tmp 194) (fun _ => q7_28) (fun _ => .skip)
noncomputable def q7_25 : Q := .seq (fun _ => q7_26) (fun _ => q7_27)
noncomputable def r7_12 : List Oper := opsIn 12 f7
noncomputable def q7_32 : Q := .region 12 (fun _ => r7_12) [2, 11] true [0, 1, 2, 3, 4, 5, 6, 7, 8, 9, 10, 11, 12, 13, 14, 15, 16, 17, 18, 19, 20, 21, 22, 23, 24, 25, 26] []
noncomputable def r7_13 : List Oper := opsIn 13 f7
noncomputable def q7_35 : Q := .region 13 (fun _ => r7_13) [] false [0] []
noncomputable def q7_34 : Q := .seq (fun _ => q7_35) (fun _ => .ret)
noncomputable def q7_33 : Q := .cond (.tmp 221) (fun _ => q7_34) (fun _ => .skip)
noncomputable def q7_31 : Q := .seq (fun _ => q7_32) (fun _ => q7_33)
noncomputable def r7_14 : List Oper := opsIn 14 f7
noncomputable def q7_37 : Q := .region 14 (fun _ => r7_14) [] false [0, 1, 2, 3, 4] []
noncomputable def r7_15 : List Oper := opsIn 15 f7
noncomputable def q7_39 : Q := .region 15 (fun _ => r7_15) [] true [0, 1, 2, 3, 4, 5, 6, 7, 8, 9, 10] []
noncomputable def r7_16 : List Oper := opsIn 16 f7
noncomputable def q7_42 : Q := .region 16 (fun _ => r7_16) [3] false [0, 1, 2, 3, 4, 5] []
noncomputable def r7_17 : List Oper := opsIn 17 f7
noncomputable def q7_45 : Q := .region 17 (fun _ => r7_17) [] false [0, 1] []
noncomputable def q7_44 : Q := .seq (fun _ => q7_45) (fun _ => .ret)
noncomputable def q7_43 : Q := .cond (.tmp 240) (fun _ => q7_44) (fun _ => .skip)
noncomputable def q7_41 : Q := .seq (fun _ => q7_42) (fun _ => q7_43)
noncomputable def r7_18 : List Oper := opsIn 18 f7
noncomputable def q7_47 : Q := .region 18 (fun _ => r7_18) [] false [0, 1, 2, 3, 4, 5, 6, 7, 8, 9, 10, 11, 12, 13] []
noncomputable def r7_19 : List Oper := opsIn 19 f7
noncomputable def q7_49 : Q := .region 19 (fun _ => r7_19) [] false [0, 1, 2, 3, 4, 5, 6, 7, 8, 9, 10, 11, 12, 13] []
noncomputable def r7_20 : List Oper := opsIn 20 f7
noncomputable def q7_51 : Q := .region 20 (fun _ => r7_20) [3, 8, 13, 18] false [0, 1, 2, 3, 4, 5, 6, 7, 8, 9, 10, 11, 12, 13, 14, 15, 16, 17, 18, 19, 20, 21] []
noncomputable def q7_50 : Q := .seq (fun _ => q7_51) (fun _ => .ret)
noncomputable def q7_48 : Q := .seq (fun _ => q7_49) (fun _ => q7_50)
noncomputable def q7_46 : Q := .seq (fun _ => q7_47) (fun _ => q7_48)
noncomputable def q7_40 : Q := .seq (fun _ => q7_41) (fun _ => q7_46)
noncomputable def q7_38 : Q := .seq (fun _ => q7_39) (fun _ => q7_40)
noncomputable def q7_36 : Q := .seq (fun _ => q7_37) (fun _ => q7_38)
noncomputable def q7_30 : Q := .seq (fun _ => q7_31) (fun _ => q7_36)
noncomputable def q7_24 : Q := .seq (fun _ => q7_25) (fun _ => q7_30)
noncomputable def q7_18 : Q := .seq (fun _ => q7_19) (fun _ => q7_24)
noncomputable def q7_16 : Q := .seq (fun _ => q7_17) (fun _ => q7_18)
noncomputable def q7_14 : Q := .seq (fun _ => q7_15) (fun _ => q7_16)
noncomputable def q7_12 : Q := .seq (fun _ => q7_13) (fun _ => q7_14)
noncomputable def q7_10 : Q := .seq (fun _ => q7_11) (fun _ => q7_12)
noncomputable def q7_8 : Q := .seq (fun _ => q7_9) (fun _ => q7_10)
noncomputable def q7_2 : Q := .seq (fun _ => q7_3) (fun _ => q7_8)
noncomputable def q7_0 : Q := .seq (fun _ => q7_1) (fun _ => q7_2)
noncomputable def q7 : Unit → Q := fun _ => q7_0
theorem ok7 : FnOk 7 q7 [.tmp 10] 281 := .of f7 func7 call7 (by kernel_rfl) (by kernel_rfl) (by kernel_rfl) (by kernel_rfl)

-- parcener/parcenerlaw36.AgentAsks
noncomputable def r8_0 : List Oper := opsIn 0 f8
noncomputable def q8_1 : Q := .region 0 (fun _ => r8_0) [] false [0, 1, 2, 3] []
noncomputable def r8_1 : List Oper := opsIn 1 f8
noncomputable def q8_4 : Q := .region 1 (fun _ => r8_1) [] false [0, 1] []
noncomputable def r8_2 : List Oper := opsIn 2 f8
noncomputable def q8_7 : Q := .region 2 (fun _ => r8_2) [] false [0] []
noncomputable def q8_6 : Q := .seq (fun _ => q8_7) (fun _ => .ret)
noncomputable def q8_5 : Q := .cond (.tmp 27) (fun _ => q8_6) (fun _ => .skip)
noncomputable def q8_3 : Q := .seq (fun _ => q8_4) (fun _ => q8_5)
noncomputable def r8_3 : List Oper := opsIn 3 f8
noncomputable def q8_9 : Q := .region 3 (fun _ => r8_3) [] false [0, 1, 2, 3] []
noncomputable def r8_4 : List Oper := opsIn 4 f8
noncomputable def q8_11 : Q := .region 4 (fun _ => r8_4) [] false [0, 1, 2, 3, 4, 5, 6, 7, 8] []
noncomputable def r8_5 : List Oper := opsIn 5 f8
noncomputable def q8_13 : Q := .region 5 (fun _ => r8_5) [] false [0, 1, 2, 3, 4, 5, 6, 7, 8] []
noncomputable def r8_6 : List Oper := opsIn 6 f8
noncomputable def q8_15 : Q := .region 6 (fun _ => r8_6) [] false [0, 1, 2, 3, 4, 5, 6, 7, 8, 9, 10, 11, 12, 13, 14] []
noncomputable def r8_7 : List Oper := opsIn 7 f8
noncomputable def q8_17 : Q := .region 7 (fun _ => r8_7) [] false [0, 1, 2, 3, 4, 5, 6, 7, 8, 9, 10, 11, 12, 13, 14] []
noncomputable def r8_8 : List Oper := opsIn 8 f8
noncomputable def q8_19 : Q := .region 8 (fun _ => r8_8) [] false [0, 1, 2, 3, 4, 5, 6] []
noncomputable def r8_9 : List Oper := opsIn 9 f8
noncomputable def q8_21 : Q := .region 9 (fun _ => r8_9) [] false [0, 1, 2, 3, 4, 5, 6] []
noncomputable def r8_10 : List Oper := opsIn 10 f8
noncomputable def q8_24 : Q := .region 10 (fun _ => r8_10) [5, 11, 16, 22, 27, 32, 38] true [0, 2, 1, 3, 4, 5, 6, 7, 8, 9, 10, 11, 12, 13, 14, 15, 16, 17, 18, 19, 20, 21, 22, 23, 24, 25, 26, 27, 28, 29, 30, 31, 32, 33, 34, 35, 36, 37, 38, 39, 40, 41, 42] []
noncomputable def r8_11 : List Oper := opsIn 11 f8
noncomputable def q8_27 : Q := .region 11 (fun _ => r8_11) [] false [0] []
noncomputable def q8_26 : Q := .seq (fun _ => q8_27) (fun _ => .ret)
noncomputable def q8_25 : Q := .cond (.tmp 114) (fun _ => q8_26) (fun _ => .skip)
noncomputable def q8_23 : Q := .seq (fun _ => q8_24) (fun _ => q8_25)
noncomputable def r8_12 : List Oper := opsIn 12 f8
noncomputable def q8_29 : Q := .region 12 (fun _ => r8_12) [] false [0, 1] [(1, ⟨false, true, []⟩)]
noncomputable def r8_13 : List Oper := opsIn 13 f8
noncomputable def q8_31 : Q := .region 13 (fun _ => r8_13) [] false [0, 1] [(1, ⟨false, true, []⟩)]
noncomputable def r8_14 : List Oper := opsIn 14 f8
noncomputable def q8_33 : Q := .region 14 (fun _ => r8_14) [] false [0, 1, 2, 3] []
noncomputable def q8_32 : Q := .seq (fun _ => q8_33) (fun _ => .ret)
noncomputable def q8_30 : Q := .seq (fun _ => q8_31) (fun _ => q8_32)
noncomputable def q8_28 : Q := .seq (fun _ => q8_29) (fun _ => q8_30)
noncomputable def q8_22 : Q := .seq (fun _ => q8_23) (fun _ => q8_28)
noncomputable def q8_20 : Q := .seq (fun _ => q8_21) (fun _ => q8_22)
noncomputable def q8_18 : Q := .seq (fun _ => q8_19) (fun _ => q8_20)
noncomputable def q8_16 : Q := .seq (fun _ => q8_17) (fun _ => q8_18)
noncomputable def q8_14 : Q := .seq (fun _ => q8_15) (fun _ => q8_16)
noncomputable def q8_12 : Q := .seq (fun _ => q8_13) (fun _ => q8_14)
noncomputable def q8_10 : Q := .seq (fun _ => q8_11) (fun _ => q8_12)
noncomputable def q8_8 : Q := .seq (fun _ => q8_9) (fun _ => q8_10)
noncomputable def q8_2 : Q := .seq (fun _ => q8_3) (fun _ => q8_8)
noncomputable def q8_0 : Q := .seq (fun _ => q8_1) (fun _ => q8_2)
noncomputable def q8 : Unit → Q := fun _ => q8_0
theorem ok8 : FnOk 8 q8 [.tmp 10] 122 := .of f8 func8 call8 (by kernel_rfl) (by kernel_rfl) (by kernel_rfl) (by kernel_rfl)

-- parcener/parcenerlaw36.AgentNames
noncomputable def r9_0 : List Oper := opsIn 0 f9
noncomputable def q9_1 : Q := .region 0 (fun _ => r9_0) [] false [0] []
noncomputable def r9_1 : List Oper := opsIn 1 f9
noncomputable def q9_3 : Q := .region 1 (fun _ => r9_1) [] false [0, 1, 2, 3, 4, 5, 6, 7, 8] []
noncomputable def r9_2 : List Oper := opsIn 2 f9
noncomputable def q9_5 : Q := .region 2 (fun _ => r9_2) [] false [0, 1, 2, 3, 4, 5, 6, 7, 8] []
noncomputable def r9_3 : List Oper := opsIn 3 f9
noncomputable def q9_7 : Q := .region 3 (fun _ => r9_3) [] false [0, 1, 2, 3, 4, 5] []
noncomputable def r9_4 : List Oper := opsIn 4 f9
noncomputable def q9_9 : Q := .region 4 (fun _ => r9_4) [] false [0, 1, 2, 3, 4, 5, 6, 7, 8, 9, 10] []
noncomputable def r9_5 : List Oper := opsIn 5 f9
noncomputable def q9_11 : Q := .region 5 (fun _ => r9_5) [] true [0, 1, 2, 3, 4, 5, 6, 7, 8, 9, 10, 11, 12, 13] []
noncomputable def r9_6 : List Oper := opsIn 6 f9
noncomputable def q9_13 : Q := .region 6 (fun _ => r9_6) [] false [0, 1, 2, 3, 4, 5, 6, 7, 8, 9, 10] []
noncomputable def r9_7 : List Oper := opsIn 7 f9
noncomputable def q9_15 : Q := .region 7 (fun _ => r9_7) [] false [0, 1, 2, 3, 4, 5, 6] []
noncomputable def r9_8 : List Oper := opsIn 8 f9
noncomputable def q9_17 : Q := .region 8 (fun _ => r9_8) [] false [0, 1, 2, 3, 4, 5, 6] []
noncomputable def r9_9 : List Oper := opsIn 9 f9
noncomputable def q9_19 : Q := .region 9 (fun _ => r9_9) [] false [0, 1, 2, 3, 4, 5, 6, 7, 8, 9, 10, 11, 12] []
noncomputable def r9_10 : List Oper := opsIn 10 f9
noncomputable def q9_21 : Q := .region 10 (fun _ => r9_10) [] false [0, 1, 2, 3, 4, 5, 6, 7, 8, 9, 10, 11, 12] []
noncomputable def r9_11 : List Oper := opsIn 11 f9
noncomputable def q9_23 : Q := .region 11 (fun _ => r9_11) [] false [0, 1, 2, 3, 4, 5, 6, 7, 8, 9, 10, 11, 12] []
noncomputable def r9_12 : List Oper := opsIn 12 f9
noncomputable def q9_25 : Q := .region 12 (fun _ => r9_12) [] false [0, 1, 2, 3, 4, 5, 6, 7, 8, 9, 10, 11, 12] []
noncomputable def r9_13 : List Oper := opsIn 13 f9
noncomputable def q9_27 : Q := .region 13 (fun _ => r9_13) [] true [0, 1, 2, 3, 4, 5, 6, 7, 8, 9, 10, 11, 12] [(6, ⟨true, false, []⟩), (7, ⟨true, false, []⟩)]
noncomputable def r9_14 : List Oper := opsIn 14 f9
noncomputable def q9_29 : Q := .region 14 (fun _ => r9_14) [] false [0, 1, 2, 3, 4, 5, 6] []
noncomputable def r9_15 : List Oper := opsIn 15 f9
noncomputable def q9_31 : Q := .region 15 (fun _ => r9_15) [] false [0, 1, 2, 3, 4, 5, 6, 7] []
noncomputable def r9_16 : List Oper := opsIn 16 f9
noncomputable def q9_33 : Q := .region 16 (fun _ => r9_16) [] false [0, 1, 2, 3, 4, 5, 6, 7, 8, 9, 10] []
noncomputable def r9_17 : List Oper := opsIn 17 f9
noncomputable def q9_35 : Q := .region 17 (fun _ => r9_17) [] false [0, 1, 2] []
noncomputable def r9_18 : List Oper := opsIn 18 f9
noncomputable def q9_37 : Q := .region 18 (fun _ => r9_18) [] false [0, 1, 2, 3, 4] []
noncomputable def r9_19 : List Oper := opsIn 19 f9
noncomputable def q9_39 : Q := .region 19 (fun _ => r9_19) [] false [0, 1, 2, 3, 4, 5, 6, 7, 8] []
noncomputable def r9_20 : List Oper := opsIn 20 f9
noncomputable def q9_41 : Q := .region 20 (fun _ => r9_20) [] false [0, 1, 2, 3, 4, 5, 6, 7, 8] []
noncomputable def r9_21 : List Oper := opsIn 21 f9
noncomputable def q9_43 : Q := .region 21 (fun _ => r9_21) [] false [0, 1, 2, 3, 4, 5] []
noncomputable def r9_22 : List Oper := opsIn 22 f9
noncomputable def q9_45 : Q := .region 22 (fun _ => r9_22) [] false [0, 1, 2, 3, 4, 5, 6, 7, 8] []
noncomputable def r9_23 : List Oper := opsIn 23 f9
noncomputable def q9_47 : Q := .region 23 (fun _ => r9_23) [] false [0, 1, 2, 3, 4, 5, 6, 7, 8] []
noncomputable def r9_24 : List Oper := opsIn 24 f9
noncomputable def q9_49 : Q := .region 24 (fun _ => r9_24) [] false [0, 1, 2, 3, 4, 5, 6, 7, 8] []
noncomputable def r9_25 : List Oper := opsIn 25 f9
noncomputable def q9_51 : Q := .region 25 (fun _ => r9_25) [] true [0, 1, 2, 3, 4, 5] []
noncomputable def r9_26 : List Oper := opsIn 26 f9
noncomputable def q9_53 : Q := .region 26 (fun _ => r9_26) [] false [0, 1, 2, 3, 4] []
noncomputable def r9_27 : List Oper := opsIn 27 f9
noncomputable def q9_55 : Q := .region 27 (fun _ => r9_27) [] false [0, 1, 2, 3, 4, 5, 6, 7, 8, 9, 10, 11, 12] []
noncomputable def r9_28 : List Oper := opsIn 28 f9
noncomputable def q9_57 : Q := .region 28 (fun _ => r9_28) [] true [0, 1, 2, 3, 4, 5, 6, 7, 8, 9, 10] [(5, ⟨true, false, []⟩), (6, ⟨true, false, []⟩)]
noncomputable def r9_29 : List Oper := opsIn 29 f9
noncomputable def q9_59 : Q := .region 29 (fun _ => r9_29) [] false [0, 1, 2] []
noncomputable def r9_30 : List Oper := opsIn 30 f9
noncomputable def q9_61 : Q := .region 30 (fun _ => r9_30) [] false [0, 1, 2] []
noncomputable def r9_31 : List Oper := opsIn 31 f9
noncomputable def q9_63 : Q := .region 31 (fun _ => r9_31) [2, 6, 10, 14, 18, 22, 26, 30, 34, 38, 42, 46, 50, 54, 59] false [0, 1, 2, 3, 4, 5, 6, 7, 8, 9, 10, 11, 12, 13, 14, 15, 16, 17, 18, 19, 20, 21, 22, 23, 24, 25, 26, 27, 28, 29, 30, 31, 32, 33, 34, 35, 36, 37, 38, 39, 40, 41, 42, 43, 44, 45, 46, 47, 48, 49, 50, 51, 52, 53, 54, 55, 56, 57, 58, 59, 60, 61, 62, 63, 64] []
noncomputable def r9_32 : List Oper := opsIn 32 f9
noncomputable def q9_66 : Q := .region 32 (fun _ => r9_32) [2, 6, 10, 16] false [0, 1, 2, 3, 4, 5, 6, 7, 8, 9, 10, 11, 12, 13, 14, 15, 16, 17, 18, 19] []
noncomputable def r9_33 : List Oper := opsIn 33 f9
noncomputable def q9_69 : Q := .region 33 (fun _ => r9_33) [] false [0] []
noncomputable def q9_68 : Q := .seq (fun _ => q9_69) (fun _ => .ret)
noncomputable def q9_67 : Q := .cond (.tmp 306) (fun _ => q9_68) (fun _ => .skip)
noncomputable def q9_65 : Q := .seq (fun _ => q9_66) (fun _ => q9_67)
noncomputable def r9_34 : List Oper := opsIn 34 f9
noncomputable def q9_71 : Q := .region 34 (fun _ => r9_34) [7, 16, 25, 30, 33, 38] true [0, 1, 2, 3, 4, 5, 6, 7, 8, 9, 10, 11, 12, 13, 14, 15, 16, 17, 18, 19, 20, 21, 22, 23, 24, 25, 26, 27, 28, 29, 30, 31, 32, 33, 34, 35, 36, 37, 38, 39, 40, 41] []
noncomputable def q9_70 : Q := .seq (fun _ => q9_71) (fun _ => .ret)
noncomputable def q9_64 : Q := .seq (fun _ => q9_65) (fun _ => q9_70)
noncomputable def q9_62 : Q := .seq (fun _ => q9_63) (fun _ => q9_64)
noncomputable def q9_60 : Q := .seq (fun _ => q9_61) (fun _ => q9_62)
noncomputable def q9_58 : Q := .seq (fun _ => q9_59) (fun _ => q9_60)
noncomputable def q9_56 : Q := .seq (fun _ => q9_57) (fun _ => q9_58)
noncomputable def q9_54 : Q := .seq (fun _ => q9_55) (fun _ => q9_56)
noncomputable def q9_52 : Q := .seq (fun _ => q9_53) (fun _ => q9_54)
noncomputable def q9_50 : Q := .seq (fun _ => q9_51) (fun _ => q9_52)
noncomputable def q9_48 : Q := .seq (fun _ => q9_49) (fun _ => q9_50)
noncomputable def q9_46 : Q := .seq (fun _ => q9_47) (fun _ => q9_48)
noncomputable def q9_44 : Q := .seq (fun _ => q9_45) (fun _ => q9_46)
noncomputable def q9_42 : Q := .seq (fun _ => q9_43) (fun _ => q9_44)
noncomputable def q9_40 : Q := .seq (fun _ => q9_41) (fun _ => q9_42)
noncomputable def q9_38 : Q := .seq (fun _ => q9_39) (fun _ => q9_40)
noncomputable def q9_36 : Q := .seq (fun _ => q9_37) (fun _ => q9_38)
noncomputable def q9_34 : Q := .seq (fun _ => q9_35) (fun _ => q9_36)
noncomputable def q9_32 : Q := .seq (fun _ => q9_33) (fun _ => q9_34)
noncomputable def q9_30 : Q := .seq (fun _ => q9_31) (fun _ => q9_32)
noncomputable def q9_28 : Q := .seq (fun _ => q9_29) (fun _ => q9_30)
noncomputable def q9_26 : Q := .seq (fun _ => q9_27) (fun _ => q9_28)
noncomputable def q9_24 : Q := .seq (fun _ => q9_25) (fun _ => q9_26)
noncomputable def q9_22 : Q := .seq (fun _ => q9_23) (fun _ => q9_24)
noncomputable def q9_20 : Q := .seq (fun _ => q9_21) (fun _ => q9_22)
noncomputable def q9_18 : Q := .seq (fun _ => q9_19) (fun _ => q9_20)
noncomputable def q9_16 : Q := .seq (fun _ => q9_17) (fun _ => q9_18)
noncomputable def q9_14 : Q := .seq (fun _ => q9_15) (fun _ => q9_16)
noncomputable def q9_12 : Q := .seq (fun _ => q9_13) (fun _ => q9_14)
noncomputable def q9_10 : Q := .seq (fun _ => q9_11) (fun _ => q9_12)
noncomputable def q9_8 : Q := .seq (fun _ => q9_9) (fun _ => q9_10)
noncomputable def q9_6 : Q := .seq (fun _ => q9_7) (fun _ => q9_8)
noncomputable def q9_4 : Q := .seq (fun _ => q9_5) (fun _ => q9_6)
noncomputable def q9_2 : Q := .seq (fun _ => q9_3) (fun _ => q9_4)
noncomputable def q9_0 : Q := .seq (fun _ => q9_1) (fun _ => q9_2)
noncomputable def q9 : Unit → Q := fun _ => q9_0
theorem ok9 : FnOk 9 q9 [.tmp 0] 348 := .of f9 func9 call9 (by kernel_rfl) (by kernel_rfl) (by kernel_rfl) (by kernel_rfl)

-- parcener/parcenerlaw36.AgentAlone
noncomputable def r10_0 : List Oper := opsIn 0 f10
noncomputable def q10_1 : Q := .region 0 (fun _ => r10_0) [] false [0] []
noncomputable def r10_1 : List Oper := opsIn 1 f10
noncomputable def q10_3 : Q := .region 1 (fun _ => r10_1) [] false [0, 1] []
noncomputable def r10_2 : List Oper := opsIn 2 f10
noncomputable def q10_6 : Q := .region 2 (fun _ => r10_2) [2, 6, 11, 18, 22, 28] false [0, 1, 2, 3, 4, 5, 6, 7, 8, 9, 10, 11, 12, 13, 14, 15, 16, 17, 18, 19, 20, 21, 22, 23, 24, 25, 26, 27, 28, 29, 30, 31] []
noncomputable def r10_3 : List Oper := opsIn 3 f10
noncomputable def q10_9 : Q := .region 3 (fun _ => r10_3) [] false [0, 1] []
noncomputable def q10_8 : Q := .seq (fun _ => q10_9) (fun _ => .ret)
noncomputable def q10_7 : Q := .cond (.tmp 55) (fun _ => q10_8) (fun _ => .skip)
noncomputable def q10_5 : Q := .seq (fun _ => q10_6) (fun _ => q10_7)
noncomputable def r10_4 : List Oper := opsIn 4 f10
noncomputable def q10_11 : Q := .region 4 (fun _ => r10_4) [] false [0, 1, 2, 3, 4, 5, 6, 7] []
noncomputable def r10_5 : List Oper := opsIn 5 f10
noncomputable def q10_13 : Q := .region 5 (fun _ => r10_5) [] false [0, 1, 2, 3, 4, 5, 6, 7, 8, 9, 10] []
noncomputable def r10_6 : List Oper := opsIn 6 f10
noncomputable def q10_16 : Q := .region 6 (fun _ => r10_6) [2] false [0, 1, 2, 3, 4, 5] []
noncomputable def r10_7 : List Oper := opsIn 7 f10
noncomputable def q10_19 : Q := .region 7 (fun _ => r10_7) [] false [0, 1] []
noncomputable def q10_18 : Q := .seq (fun _ => q10_19) (fun _ => .ret)
noncomputable def q10_17 : Q := .cond (.tmp 75) (fun _ => q10_18) (fun _ => .skip)
noncomputable def q10_15 : Q := .seq (fun _ => q10_16) (fun _ => q10_17)
noncomputable def r10_8 : List Oper := opsIn 8 f10
noncomputable def q10_21 : Q := .region 8 (fun _ => r10_8) [] false [0, 1, 2, 3, 4, 5, 6, 7, 8, 9, 10] []
noncomputable def r10_9 : List Oper := opsIn 9 f10
noncomputable def q10_24 : Q := .region 9 (fun _ => r10_9) [] false [0, 1] []
noncomputable def r10_10 : List Oper := opsIn 10 f10
noncomputable def q10_27 : Q := .region 10 (fun _ => r10_10) [] false [0, 1] []
noncomputable def q10_26 : Q := .seq (fun _ => q10_27) (fun _ => .ret)
noncomputable def q10_25 : Q := .cond (.tmp 85) (fun _ => q10_26) (fun _ => .skip)
noncomputable def q10_23 : Q := .seq (fun _ => q10_24) (fun _ => q10_25)
noncomputable def r10_11 : List Oper := opsIn 11 f10
noncomputable def q10_29 : Q := .region 11 (fun _ => r10_11) [] true [0, 1, 2, 3, 4, 5, 6, 7, 8, 9, 10, 11, 12] [(7, ⟨true, false, []⟩), (8, ⟨true, false, []⟩)]
noncomputable def r10_12 : List Oper := opsIn 12 f10
noncomputable def q10_32 : Q := .region 12 (fun _ => r10_12) [2, 10, 20] true [0, 1, 2, 3, 4, 5, 6, 7, 8, 9, 10, 11, 12, 13, 15, 16, 14, 17, 18, 19, 20, 21, 22, 23, 25, 26, 24, 27, 28, 29] []
noncomputable def r10_13 : List Oper := opsIn 13 f10
noncomputable def q10_35 : Q := .region 13 (fun _ => r10_13) [] false [0] []
noncomputable def q10_34 : Q := .seq (fun _ => q10_35) (fun _ => .ret)
noncomputable def q10_33 : Q := .cond (.tmp 125) (fun _ => q10_34) (fun _ => .skip)
noncomputable def q10_31 : Q := .seq (fun _ => q10_32) (fun _ => q10_33)
noncomputable def r10_14 : List Oper := opsIn 14 f10
noncomputable def q10_37 : Q := .region 14 (fun _ => r10_14) [] false [0, 1, 2, 3, 4, 5, 6, 7, 8, 9, 10] []
noncomputable def r10_15 : List Oper := opsIn 15 f10
noncomputable def q10_40 : Q := .region 15 (fun _ => r10_15) [2, 8, 11] false [0, 1, 2, 3, 4, 5, 6, 7, 8, 9, 10, 11, 12, 13, 14, 15, 16, 17] []
noncomputable def r10_16 : List Oper := opsIn 16 f10
noncomputable def q10_43 : Q := .region 16 (fun _ => r10_16) [] false [0] []
noncomputable def q10_42 : Q := .seq (fun _ => q10_43) (fun _ => .ret)
noncomputable def q10_41 : Q := .cond (.tmp 150) (fun _ => q10_42) (fun _ => .skip)
noncomputable def q10_39 : Q := .seq (fun _ => q10_40) (fun _ => q10_41)
noncomputable def r10_17 : List Oper := opsIn 17 f10
noncomputable def q10_45 : Q := .region 17 (fun _ => r10_17) [1] true [0, 1, 2, 3, 4, 5, 6, 7, 8, 9, 10, 12, 13, 14, 11, 15, 16, 17, 18] []
noncomputable def q10_44 : Q := .seq (fun _ => q10_45) (fun _ => .ret)
noncomputable def q10_38 : Q := .seq (fun _ => q10_39) (fun _ => q10_44)
noncomputable def q10_36 : Q := .seq (fun _ => q10_37) (fun _ => q10_38)
noncomputable def q10_30 : Q := .seq (fun _ => q10_31) (fun _ => q10_36)
noncomputable def q10_28 : Q := .seq (fun _ => q10_29) (fun _ => q10_30)
noncomputable def q10_22 : Q := .seq (fun _ => q10_23) (fun _ => q10_28)
noncomputable def q10_20 : Q := .seq (fun _ => q10_21) (fun _ => q10_22)
noncomputable def q10_14 : Q := .seq (fun _ => q10_15) (fun _ => q10_20)
noncomputable def q10_12 : Q := .seq (fun _ => q10_13) (fun _ => q10_14)
noncomputable def q10_10 : Q := .seq (fun _ => q10_11) (fun _ => q10_12)
noncomputable def q10_4 : Q := .seq (fun _ => q10_5) (fun _ => q10_10)
noncomputable def q10_2 : Q := .seq (fun _ => q10_3) (fun _ => q10_4)
noncomputable def q10_0 : Q := .seq (fun _ => q10_1) (fun _ => q10_2)
noncomputable def q10 : Unit → Q := fun _ => q10_0
theorem ok10 : FnOk 10 q10 [.tmp 8] 169 := .of f10 func10 call10 (by kernel_rfl) (by kernel_rfl) (by kernel_rfl) (by kernel_rfl)

-- parcener/parcenerlaw36.AgentUnused
noncomputable def r11_0 : List Oper := opsIn 0 f11
noncomputable def q11_1 : Q := .region 0 (fun _ => r11_0) [] false [0] []
noncomputable def r11_1 : List Oper := opsIn 1 f11
noncomputable def q11_3 : Q := .region 1 (fun _ => r11_1) [] false [0, 1] []
noncomputable def r11_2 : List Oper := opsIn 2 f11
noncomputable def q11_6 : Q := .region 2 (fun _ => r11_2) [2, 6, 11, 18] false [0, 1, 2, 3, 4, 5, 6, 7, 8, 9, 10, 11, 12, 13, 14, 15, 16, 17, 18, 19, 20, 21] []
noncomputable def r11_3 : List Oper := opsIn 3 f11
noncomputable def q11_9 : Q := .region 3 (fun _ => r11_3) [] false [0, 1] []
noncomputable def q11_8 : Q := .seq (fun _ => q11_9) (fun _ => .ret)
noncomputable def q11_7 : Q := .cond (.tmp 50) (fun _ => q11_8) (fun _ => .skip)
noncomputable def q11_5 : Q := .seq (fun _ => q11_6) (fun _ => q11_7)
noncomputable def r11_4 : List Oper := opsIn 4 f11
noncomputable def q11_11 : Q := .region 4 (fun _ => r11_4) [] false [0, 1, 2, 3, 4, 5, 6, 7] []
noncomputable def r11_5 : List Oper := opsIn 5 f11
noncomputable def q11_14 : Q := .region 5 (fun _ => r11_5) [] false [0, 1] []
noncomputable def r11_6 : List Oper := opsIn 6 f11
noncomputable def q11_17 : Q := .region 6 (fun _ => r11_6) [] false [0, 1] []
noncomputable def q11_16 : Q := .seq (fun _ => q11_17) (fun _ => .ret)
noncomputable def q11_15 : Q := .cond (.tmp 58) (fun _ => q11_16) (fun _ => .skip)
noncomputable def q11_13 : Q := .seq (fun _ => q11_14) (fun _ => q11_15)
noncomputable def r11_7 : List Oper := opsIn 7 f11
noncomputable def q11_19 : Q := .region 7 (fun _ => r11_7) [] false [0, 1, 2, 3, 4, 5, 6, 7, 8, 9, 10] []
noncomputable def r11_8 : List Oper := opsIn 8 f11
noncomputable def q11_22 : Q := .region 8 (fun _ => r11_8) [] false [0, 1, 2, 3, 4, 5] []
noncomputable def r11_9 : List Oper := opsIn 9 f11
noncomputable def q11_25 : Q := .region 9 (fun _ => r11_9) [] false [0] []
noncomputable def q11_24 : Q := .seq (fun _ => q11_25) (fun _ => .ret)
noncomputable def q11_23 : Q := .cond (.tmp 72) (fun _ => q11_24) (fun _ => .skip)
noncomputable def q11_21 : Q := .seq (fun _ => q11_22) (fun _ => q11_23)
noncomputable def r11_10 : List Oper := opsIn 10 f11
noncomputable def q11_27 : Q := .region 10 (fun _ => r11_10) [] false [0, 1] []
noncomputable def r11_11 : List Oper := opsIn 11 f11
noncomputable def q11_30 : Q := .region 11 (fun _ => r11_11) [] false [0] []
noncomputable def r11_12 : List Oper := opsIn 12 f11
noncomputable def q11_35 : Q := .region 12 (fun _ => r11_12) [] false [0, 1, 2, 3] []
noncomputable def q11_36 : Q := .cond (.tmp 76) (fun _ => .skip) (fun _ => (.exit 0))
noncomputable def q11_34 : Q := .seq (fun _ => q11_35) (fun _ => q11_36)
noncomputable def r11_14 : List Oper := opsIn 14 f11
noncomputable def q11_40 : Q := .region 14 (fun _ => r11_14) [] true [0, 1, 2, 3, 4, 5, 6, 7, 8, 9, 10, 11] [(4, ⟨true, false, []⟩), (5, ⟨true, false, []⟩), (6, ⟨false, false, [16]⟩), (7, ⟨false, false, [16]⟩), (10, ⟨false, false, [16]⟩)]
noncomputable def r11_15 : List Oper := opsIn 15 f11
noncomputable def q11_43 : Q := .region 15 (fun _ => r11_15) [3] true [0, 1, 2, 3, 4, 5, 6, 7, 8, 9, 10, 11, 12, 13] []
noncomputable def r11_16 : List Oper := opsIn 16 f11
noncomputable def q11_45 : Q := .region 16 (fun _ => r11_16) [] false [0, 1, 2, 3, 4, 5] []
noncomputable def q11_44 : Q := .cond (.tmp 100) (fun _ => q11_45) (fun _ => .skip)
noncomputable def q11_42 : Q := .seq (fun _ => q11_43) (fun _ => q11_44)
noncomputable def r11_17 : List Oper := opsIn 17 f11
noncomputable def q11_48 : Q := .region 17 (fun _ => r11_17) [] false [0, 1, 2] []
noncomputable def r11_18 : List Oper := opsIn 18 f11
noncomputable def q11_50 : Q := .region 18 (fun _ => r11_18) [] true [0, 1, 2, 3, 4, 5, 6, 7, 8, 9, 10, 11] []
noncomputable def q11_49 : Q := .cond (.tmp 108) (fun _ => q11_50) (fun _ => .skip)
noncomputable def q11_47 : Q := .seq (fun _ => q11_48) (fun _ => q11_49)
noncomputable def r11_19 : List Oper := opsIn 19 f11
noncomputable def q11_51 : Q := .region 19 (fun _ => r11_19) [] true [0, 1, 4, 5, 2, 3, 6, 7, 8, 9] []
noncomputable def q11_46 : Q := .seq (fun _ => q11_47) (fun _ => q11_51)
noncomputable def q11_41 : Q := .seq (fun _ => q11_42) (fun _ => q11_46)
noncomputable def q11_39 : Q := .seq (fun _ => q11_40) (fun _ => q11_41)
noncomputable def q11_38 : Q := .block 1 (fun _ => q11_39)
noncomputable def r11_13 : List Oper := opsIn 13 f11
noncomputable def q11_52 : Q := .region 13 (fun _ => r11_13) [] false [0, 1, 2] []
noncomputable def q11_37 : Q := .seq (fun _ => q11_38) (fun _ => q11_52)
noncomputable def q11_33 : Q := .seq (fun _ => q11_34) (fun _ => q11_37)
noncomputable def q11_32 : Q := .loop (fun _ => q11_33)
noncomputable def q11_31 : Q := .block 0 (fun _ => q11_32)
noncomputable def q11_29 : Q := .seq (fun _ => q11_30) (fun _ => q11_31)
noncomputable def r11_20 : List Oper := opsIn 20 f11
noncomputable def q11_54 : Q := .region 20 (fun _ => r11_20) [] false [0, 1, 2, 3, 4, 5, 6, 7] []
noncomputable def r11_21 : List Oper := opsIn 21 f11
noncomputable def q11_56 : Q := .region 21 (fun _ => r11_21) [] false [0, 1, 2, 3, 4, 5, 6, 7] []
noncomputable def r11_22 : List Oper := opsIn 22 f11
noncomputable def q11_59 : Q := .region 22 (fun _ => r11_22) [] false [0, 1] []
noncomputable def r11_23 : List Oper := opsIn 23 f11
noncomputable def q11_62 : Q := .region 23 (fun _ => r11_23) [] false [0, 1, 2, 3, 4, 5, 6, 7, 8, 9, 10] []
noncomputable def r11_24 : List Oper := opsIn 24 f11
noncomputable def q11_64 : Q := .region 24 (fun _ => r11_24) [6, 11] false [0, 1, 2, 3, 4, 5, 6, 7, 8, 9, 10, 11, 12, 13, 14, 15] []
noncomputable def r11_25 : List Oper := opsIn 25 f11
noncomputable def q11_67 : Q := .region 25 (fun _ => r11_25) [] false [0] []
noncomputable def q11_66 : Q := .seq (fun _ => q11_67) (fun _ => .ret)
noncomputable def q11_65 : Q := .cond (.tmp 162) (fun _ => q11_66) (fun _ => .skip)
noncomputable def q11_63 : Q := .seq (fun _ => q11_64) (fun _ => q11_65)
noncomputable def q11_61 : Q := .seq (fun _ => q11_62) (fun _ => q11_63)
noncomputable def q11_60 : Q := .cond (.tmp 139) (fun _ => q11_61) (fun _ => .skip)
noncomputable def q11_58 : Q := .seq (fun _ => q11_59) (fun _ => q11_60)
noncomputable def r11_26 : List Oper := opsIn 26 f11
noncomputable def q11_70 : Q := .region 26 (fun _ => r11_26) [] false [0, 1] []
noncomputable def r11_27 : List Oper := opsIn 27 f11
noncomputable def q11_73 : Q := .region 27 (fun _ => r11_27) [] false [0] []
noncomputable def q11_72 : Q := .seq (fun _ => q11_73) (fun _ => .ret)
noncomputable def q11_71 : Q := .cond (.tmp 164) (fun _ => q11_72) (fun _ => .skip)
noncomputable def q11_69 : Q := .seq (fun _ => q11_70) (fun _ => q11_71)
noncomputable def r11_28 : List Oper := opsIn 28 f11
noncomputable def q11_75 : Q := .region 28 (fun _ => r11_28) [] false [0, 1, 2, 3, 4, 5, 6, 7, 8, 9, 10] []
noncomputable def r11_29 : List Oper := opsIn 29 f11
noncomputable def q11_77 : Q := .region 29 (fun _ => r11_29) [1, 8, 13] false [0, 1, 2, 3, 4, 5, 6, 7, 8, 9, 10, 11, 12, 13, 14, 15, 16, 17, 18] []
noncomputable def q11_76 : Q := .seq (fun _ => q11_77) (fun _ => .ret)
noncomputable def q11_74 : Q := .seq (fun _ => q11_75) (fun _ => q11_76)
noncomputable def q11_68 : Q := .seq (fun _ => q11_69) (fun _ => q11_74)
noncomputable def q11_57 : Q := .seq (fun _ => q11_58) (fun _ => q11_68)
noncomputable def q11_55 : Q := .seq (fun _ => q11_56) (fun _ => q11_57)
noncomputable def q11_53 : Q := .seq (fun _ => q11_54) (fun _ => q11_55)
noncomputable def q11_28 : Q := .seq (fun _ => q11_29) (fun _ => q11_53)
noncomputable def q11_26 : Q := .seq (fun _ => q11_27) (fun _ => q11_28)
noncomputable def q11_20 : Q := .seq (fun _ => q11_21) (fun _ => q11_26)
noncomputable def q11_18 : Q := .seq (fun _ => q11_19) (fun _ => q11_20)
noncomputable def q11_12 : Q := .seq (fun _ => q11_13) (fun _ => q11_18)
noncomputable def q11_10 : Q := .seq (fun _ => q11_11) (fun _ => q11_12)
noncomputable def q11_4 : Q := .seq (fun _ => q11_5) (fun _ => q11_10)
noncomputable def q11_2 : Q := .seq (fun _ => q11_3) (fun _ => q11_4)
noncomputable def q11_0 : Q := .seq (fun _ => q11_1) (fun _ => q11_2)
noncomputable def q11 : Unit → Q := fun _ => q11_0
theorem ok11 : FnOk 11 q11 [.tmp 6] 190 := .of f11 func11 call11 (by kernel_rfl) (by kernel_rfl) (by kernel_rfl) (by kernel_rfl)

-- parcener/parcenerlaw36.AgentTrue
noncomputable def r12_0 : List Oper := opsIn 0 f12
noncomputable def q12_1 : Q := .region 0 (fun _ => r12_0) [] false [0] []
noncomputable def r12_1 : List Oper := opsIn 1 f12
noncomputable def q12_3 : Q := .region 1 (fun _ => r12_1) [] false [0, 1] []
noncomputable def r12_2 : List Oper := opsIn 2 f12
noncomputable def q12_6 : Q := .region 2 (fun _ => r12_2) [2, 7] false [0, 1, 2, 3, 4, 5, 6, 7, 8, 9, 10] []
noncomputable def r12_3 : List Oper := opsIn 3 f12
noncomputable def q12_9 : Q := .region 3 (fun _ => r12_3) [] false [0, 1] []
noncomputable def q12_8 : Q := .seq (fun _ => q12_9) (fun _ => .ret)
noncomputable def q12_7 : Q := .cond (.tmp 31) (fun _ => q12_8) (fun _ => .skip)
noncomputable def q12_5 : Q := .seq (fun _ => q12_6) (fun _ => q12_7)
noncomputable def r12_4 : List Oper := opsIn 4 f12
noncomputable def q12_11 : Q := .region 4 (fun _ => r12_4) [] false [0, 1, 2, 3, 4, 5, 6, 7] []
noncomputable def r12_5 : List Oper := opsIn 5 f12
noncomputable def q12_14 : Q := .region 5 (fun _ => r12_5) [] false [0, 1] []
noncomputable def r12_6 : List Oper := opsIn 6 f12
noncomputable def q12_17 : Q := .region 6 (fun _ => r12_6) [] false [0, 1] []
noncomputable def q12_16 : Q := .seq (fun _ => q12_17) (fun _ => .ret)
noncomputable def q12_15 : Q := .cond (.tmp 39) (fun _ => q12_16) (fun _ => .skip)
noncomputable def q12_13 : Q := .seq (fun _ => q12_14) (fun _ => q12_15)
noncomputable def r12_7 : List Oper := opsIn 7 f12
noncomputable def q12_19 : Q := .region 7 (fun _ => r12_7) [] false [0, 1, 2, 3, 4, 5, 6, 7, 8, 9, 10] []
noncomputable def r12_8 : List Oper := opsIn 8 f12
noncomputable def q12_21 : Q := .region 8 (fun _ => r12_8) [] false [0, 1, 2, 3, 4, 5, 6] []
noncomputable def r12_9 : List Oper := opsIn 9 f12
noncomputable def q12_24 : Q := .region 9 (fun _ => r12_9) [2, 9] false [0, 1, 2, 3, 4, 5, 6, 7, 8, 9, 10, 11, 12, 13, 14, 15, 16] []
noncomputable def r12_10 : List Oper := opsIn 10 f12
noncomputable def q12_27 : Q := .region 10 (fun _ => r12_10) [] false [0] []
noncomputable def q12_26 : Q := .seq (fun _ => q12_27) (fun _ => .ret)
noncomputable def q12_25 : Q := .cond (.tmp 69) (fun _ => q12_26) (fun _ => .skip)
noncomputable def q12_23 : Q := .seq (fun _ => q12_24) (fun _ => q12_25)
noncomputable def r12_11 : List Oper := opsIn 11 f12
noncomputable def q12_29 : Q := .region 11 (fun _ => r12_11) [] false [0] []
noncomputable def r12_12 : List Oper := opsIn 12 f12
noncomputable def q12_32 : Q := .region 12 (fun _ => r12_12) [] false [0] []
noncomputable def r12_13 : List Oper := opsIn 13 f12
noncomputable def q12_37 : Q := .region 13 (fun _ => r12_13) [] false [0, 1, 2, 3] []
noncomputable def q12_38 : Q := .cond (.tmp 73) (fun _ => .skip) (fun _ => (.exit 0))
noncomputable def q12_36 : Q := .seq (fun _ => q12_37) (fun _ => q12_38)
noncomputable def r12_15 : List Oper := opsIn 15 f12
noncomputable def q12_42 : Q := .region 15 (fun _ => r12_15) [] false [0, 1, 2, 3, 4] []
noncomputable def r12_16 : List Oper := opsIn 16 f12
noncomputable def q12_45 : Q := .region 16 (fun _ => r12_16) [6, 16] false [0, 1, 2, 3, 4, 5, 6, 7, 8, 9, 10, 11, 12, 13, 14, 15, 16, 17, 18, 19, 20, 21, 22] []
noncomputable def r12_17 : List Oper := opsIn 17 f12
noncomputable def q12_48 : Q := .region 17 (fun _ => r12_17) [] false [0] []
noncomputable def q12_47 : Q := .seq (fun _ => q12_48) (fun _ => .ret)
noncomputable def q12_46 : Q := .cond (.tmp 102) (fun _ => q12_47) (fun _ => .skip)
noncomputable def q12_44 : Q := .seq (fun _ => q12_45) (fun _ => q12_46)
noncomputable def r12_18 : List Oper := opsIn 18 f12
noncomputable def q12_50 : Q := .region 18 (fun _ => r12_18) [1] false [0, 1, 2, 3, 4, 5, 6, 7, 8, 9] []
noncomputable def r12_19 : List Oper := opsIn 19 f12
noncomputable def q12_52 : Q := .region 19 (fun _ => r12_19) [] false [0] []
noncomputable def r12_20 : List Oper := opsIn 20 f12
noncomputable def q12_57 : Q := .region 20 (fun _ => r12_20) [] false [0, 1, 2, 3] []
noncomputable def q12_58 : Q := .cond (.tmp 115) (fun _ => .skip) (fun _ => (.exit 2))
noncomputable def q12_56 : Q := .seq (fun _ => q12_57) (fun _ => q12_58)
noncomputable def r12_22 : List Oper := opsIn 22 f12
noncomputable def q12_62 : Q := .region 22 (fun _ => r12_22) [7] true [0, 1, 2, 3, 4, 5, 6, 7, 8, 9, 10, 11, 12, 13, 14, 15, 17, 18, 19, 20, 16, 21, 22] []
noncomputable def r12_23 : List Oper := opsIn 23 f12
noncomputable def q12_64 : Q := .region 23 (fun _ => r12_23) [] false [0, 1] []
noncomputable def r12_24 : List Oper := opsIn 24 f12
noncomputable def q12_67 : Q := .region 24 (fun _ => r12_24) [] false [0] []
noncomputable def q12_66 : Q := .seq (fun _ => q12_67) (fun _ => .ret)
noncomputable def q12_65 : Q := .cond (.tmp 141) (fun _ => q12_66) (fun _ => .skip)
noncomputable def q12_63 : Q := .seq (fun _ => q12_64) (fun _ => q12_65)
noncomputable def q12_61 : Q := .seq (fun _ => q12_62) (fun _ => q12_63)
noncomputable def q12_60 : Q := .block 3 (fun _ => q12_61)
noncomputable def r12_21 : List Oper := opsIn 21 f12
noncomputable def q12_68 : Q := .region 21 (fun _ => r12_21) [] false [0, 1, 2] []
noncomputable def q12_59 : Q := .seq (fun _ => q12_60) (fun _ => q12_68)
noncomputable def q12_55 : Q := .seq (fun _ => q12_56) (fun _ => q12_59)
noncomputable def q12_54 : Q := .loop (fun _ => q12_55)
noncomputable def q12_53 : Q := .block 2 (fun _ => q12_54)
noncomputable def q12_51 : Q := .seq (fun _ => q12_52) (fun _ => q12_53)
noncomputable def q12_49 : Q := .seq (fun _ => q12_50) (fun _ => q12_51)
noncomputable def q12_43 : Q := .seq (fun _ => q12_44) (fun _ => q12_49)
noncomputable def q12_41 : Q := .seq (fun _ => q12_42) (fun _ => q12_43)
noncomputable def q12_40 : Q := .block 1 (fun _ => q12_41)
noncomputable def r12_14 : List Oper := opsIn 14 f12
noncomputable def q12_69 : Q := .region 14 (fun _ => r12_14) [] false [0, 1, 2] []
noncomputable def q12_39 : Q := .seq (fun _ => q12_40) (fun _ => q12_69)
noncomputable def q12_35 : Q := .seq (fun _ => q12_36) (fun _ => q12_39)
noncomputable def q12_34 : Q := .loop (fun _ => q12_35)
noncomputable def q12_33 : Q := .block 0 (fun _ => q12_34)
noncomputable def q12_31 : Q := .seq (fun _ => q12_32) (fun _ => q12_33)
noncomputable def r12_25 : List Oper := opsIn 25 f12
noncomputable def q12_72 : Q := .region 25 (fun _ => r12_25) [] false [0, 1] []
noncomputable def r12_26 : List Oper := opsIn 26 f12
noncomputable def q12_75 : Q := .region 26 (fun _ => r12_26) [] false [0, 1] []
noncomputable def q12_74 : Q := .seq (fun _ => q12_75) (fun _ => .ret)
noncomputable def q12_73 : Q := .cond (.tmp 143) (fun _ => q12_74) (fun _ => .skip)
noncomputable def q12_71 : Q := .seq (fun _ => q12_72) (fun _ => q12_73)
noncomputable def r12_27 : List Oper := opsIn 27 f12
noncomputable def q12_77 : Q := .region 27 (fun _ => r12_27) [] true [0, 2, 3, 1, 4, 5, 6, 7, 8, 9] []
noncomputable def r12_28 : List Oper := opsIn 28 f12
noncomputable def q12_79 : Q := .region 28 (fun _ => r12_28) [1, 5] false [0, 1, 2, 3, 4, 5, 6, 7, 8, 9, 10, 11, 12] []
noncomputable def q12_78 : Q := .seq (fun _ => q12_79) (fun _ => .ret)
noncomputable def q12_76 : Q := .seq (fun _ => q12_77) (fun _ => q12_78)
noncomputable def q12_70 : Q := .seq (fun _ => q12_71) (fun _ => q12_76)
noncomputable def q12_30 : Q := .seq (fun _ => q12_31) (fun _ => q12_70)
noncomputable def q12_28 : Q := .seq (fun _ => q12_29) (fun _ => q12_30)
noncomputable def q12_22 : Q := .seq (fun _ => q12_23) (fun _ => q12_28)
noncomputable def q12_20 : Q := .seq (fun _ => q12_21) (fun _ => q12_22)
noncomputable def q12_18 : Q := .seq (fun _ => q12_19) (fun _ => q12_20)
noncomputable def q12_12 : Q := .seq (fun _ => q12_13) (fun _ => q12_18)
noncomputable def q12_10 : Q := .seq (fun _ => q12_11) (fun _ => q12_12)
noncomputable def q12_4 : Q := .seq (fun _ => q12_5) (fun _ => q12_10)
noncomputable def q12_2 : Q := .seq (fun _ => q12_3) (fun _ => q12_4)
noncomputable def q12_0 : Q := .seq (fun _ => q12_1) (fun _ => q12_2)
noncomputable def q12 : Unit → Q := fun _ => q12_0
theorem ok12 : FnOk 12 q12 [.tmp 4] 165 := .of f12 func12 call12 (by kernel_rfl) (by kernel_rfl) (by kernel_rfl) (by kernel_rfl)

-- parcener/parcenerlaw36.AgentParts
noncomputable def r13_0 : List Oper := opsIn 0 f13
noncomputable def q13_1 : Q := .region 0 (fun _ => r13_0) [] false [0, 1] []
noncomputable def r13_1 : List Oper := opsIn 1 f13
noncomputable def q13_3 : Q := .region 1 (fun _ => r13_1) [] false [0, 1] []
noncomputable def r13_2 : List Oper := opsIn 2 f13
noncomputable def q13_6 : Q := .region 2 (fun _ => r13_2) [2, 7, 12, 16, 22] false [0, 1, 2, 3, 4, 5, 6, 7, 8, 9, 10, 11, 12, 13, 14, 15, 16, 17, 18, 19, 20, 21, 22, 23, 24, 25] []
noncomputable def r13_3 : List Oper := opsIn 3 f13
noncomputable def q13_9 : Q := .region 3 (fun _ => r13_3) [] false [0, 1] []
noncomputable def q13_8 : Q := .seq (fun _ => q13_9) (fun _ => .ret)
noncomputable def q13_7 : Q := .cond (.tmp 46) (fun _ => q13_8) (fun _ => .skip)
noncomputable def q13_5 : Q := .seq (fun _ => q13_6) (fun _ => q13_7)
noncomputable def r13_4 : List Oper := opsIn 4 f13
noncomputable def q13_11 : Q := .region 4 (fun _ => r13_4) [] false [0, 1, 2, 3, 4, 5, 6, 7, 8, 9, 10] []
noncomputable def r13_5 : List Oper := opsIn 5 f13
noncomputable def q13_13 : Q := .region 5 (fun _ => r13_5) [] true [0, 1, 2, 3, 4, 5, 6, 7, 8, 9, 10, 11, 12] [(7, ⟨true, false, []⟩), (8, ⟨true, false, []⟩)]
noncomputable def r13_6 : List Oper := opsIn 6 f13
noncomputable def q13_16 : Q := .region 6 (fun _ => r13_6) [2, 8, 12, 17, 26, 34, 45] false [0, 1, 2, 3, 4, 5, 6, 7, 8, 9, 10, 11, 12, 13, 14, 15, 16, 17, 18, 19, 20, 21, 22, 23, 24, 25, 26, 27, 28, 29, 30, 31, 32, 33, 34, 35, 36, 37, 38, 39, 40, 41, 42, 43, 44, 45, 46, 47, 48, 49] []
noncomputable def r13_7 : List Oper := opsIn 7 f13
noncomputable def q13_19 : Q := .region 7 (fun _ => r13_7) [] false [0] []
noncomputable def q13_18 : Q := .seq (fun _ => q13_19) (fun _ => .ret)
noncomputable def q13_17 : Q := .cond (.tmp 113) (fun _ => q13_18) (fun _ => .skip)
noncomputable def q13_15 : Q := .seq (fun _ => q13_16) (fun _ => q13_17)
noncomputable def r13_8 : List Oper := opsIn 8 f13
noncomputable def q13_22 : Q := .region 8 (fun _ => r13_8) [] false [0] []
noncomputable def r13_9 : List Oper := opsIn 9 f13
noncomputable def q13_27 : Q := .region 9 (fun _ => r13_9) [] false [0, 1, 2] []
noncomputable def q13_28 : Q := .cond (.tmp 116) (fun _ => .skip) (fun _ => (.exit 0))
noncomputable def q13_26 : Q := .seq (fun _ => q13_27) (fun _ => q13_28)
noncomputable def r13_11 : List Oper := opsIn 11 f13
noncomputable def q13_32 : Q := .region 11 (fun _ => r13_11) [] false [0, 1, 2, 3, 4, 5, 6, 7, 8, 9, 10] []
noncomputable def r13_12 : List Oper := opsIn 12 f13
noncomputable def q13_34 : Q := .region 12 (fun _ => r13_12) [] false [0, 1, 2, 3, 4, 5, 6] []
noncomputable def r13_13 : List Oper := opsIn 13 f13
noncomputable def q13_36 : Q := .region 13 (fun _ => r13_13) [] true [0, 1, 2, 3, 4, 5] []
noncomputable def r13_14 : List Oper := opsIn 14 f13
noncomputable def q13_39 : Q := .region 14 (fun _ => r13_14) [] false [0] []
noncomputable def q13_38 : Q := .seq (fun _ => q13_39) (fun _ => .ret)
noncomputable def q13_37 : Q := .cond (.tmp 139) (fun _ => q13_38) (fun _ => .skip)
noncomputable def q13_35 : Q := .seq (fun _ => q13_36) (fun _ => q13_37)
noncomputable def q13_33 : Q := .seq (fun _ => q13_34) (fun _ => q13_35)
noncomputable def q13_31 : Q := .seq (fun _ => q13_32) (fun _ => q13_33)
noncomputable def q13_30 : Q := .block 1 (fun _ => q13_31)
noncomputable def r13_10 : List Oper := opsIn 10 f13
noncomputable def q13_40 : Q := .region 10 (fun _ => r13_10) [] false [0, 1, 2] []
noncomputable def q13_29 : Q := .seq (fun _ => q13_30) (fun _ => q13_40)
noncomputable def q13_25 : Q := .seq (fun _ => q13_26) (fun _ => q13_29)
noncomputable def q13_24 : Q := .loop (fun _ => q13_25)
noncomputable def q13_23 : Q := .block 0 (fun _ => q13_24)
noncomputable def q13_21 : Q := .seq (fun _ => q13_22) (fun _ => q13_23)
noncomputable def r13_15 : List Oper := opsIn 15 f13
noncomputable def q13_43 : Q := .region 15 (fun _ => r13_15) [] false [0] []
noncomputable def r13_16 : List Oper := opsIn 16 f13
noncomputable def q13_48 : Q := .region 16 (fun _ => r13_16) [5] false [0, 1, 2, 3, 4, 5, 6, 7, 8, 9, 10, 11] []
noncomputable def q13_49 : Q := .cond (.tmp 151) (fun _ => .skip) (fun _ => (.exit 2))
noncomputable def q13_47 : Q := .seq (fun _ => q13_48) (fun _ => q13_49)
noncomputable def r13_18 : List Oper := opsIn 18 f13
noncomputable def q13_53 : Q := .region 18 (fun _ => r13_18) [14] true [0, 1, 2, 3, 4, 5, 6, 7, 8, 9, 10, 11, 12, 13, 14, 15, 16, 17, 18, 19, 20, 21, 22, 23, 24, 25, 26, 27, 28] []
noncomputable def r13_19 : List Oper := opsIn 19 f13
noncomputable def q13_56 : Q := .region 19 (fun _ => r13_19) [] false [0] []
noncomputable def q13_55 : Q := .seq (fun _ => q13_56) (fun _ => .ret)
noncomputable def q13_54 : Q := .cond (.tmp 182) (fun _ => q13_55) (fun _ => .skip)
noncomputable def q13_52 : Q := .seq (fun _ => q13_53) (fun _ => q13_54)
noncomputable def q13_51 : Q := .block 3 (fun _ => q13_52)
noncomputable def r13_17 : List Oper := opsIn 17 f13
noncomputable def q13_57 : Q := .region 17 (fun _ => r13_17) [] false [0, 1, 2] []
noncomputable def q13_50 : Q := .seq (fun _ => q13_51) (fun _ => q13_57)
noncomputable def q13_46 : Q := .seq (fun _ => q13_47) (fun _ => q13_50)
noncomputable def q13_45 : Q := .loop (fun _ => q13_46)
noncomputable def q13_44 : Q := .block 2 (fun _ => q13_45)
noncomputable def q13_42 : Q := .seq (fun _ => q13_43) (fun _ => q13_44)
noncomputable def r13_20 : List Oper := opsIn 20 f13
noncomputable def q13_60 : Q := .region 20 (fun _ => r13_20) [] false [0, 1] []
noncomputable def r13_21 : List Oper := opsIn 21 f13
noncomputable def q13_63 : Q := .region 21 (fun _ => r13_21) [1, 6, 11] false [0, 1, 2, 3, 4, 5, 6, 7, 8, 9, 10, 11, 12, 13, 14, 15, 16] []
noncomputable def q13_62 : Q := .seq (fun _ => q13_63) (fun _ => .ret)
noncomputable def q13_61 : Q := .cond (.tmp 184) (fun _ => q13_62) (fun _ => .skip)
noncomputable def q13_59 : Q := .seq (fun _ => q13_60) (fun _ => q13_61)
noncomputable def r13_22 : List Oper := opsIn 22 f13
noncomputable def q13_65 : Q := .region 22 (fun _ => r13_22) [] true [0, 1, 2, 3, 4, 5, 6, 7, 8, 9, 10, 11, 12] [(7, ⟨true, false, []⟩), (8, ⟨true, false, []⟩)]
noncomputable def r13_23 : List Oper := opsIn 23 f13
noncomputable def q13_67 : Q := .region 23 (fun _ => r13_23) [1, 6, 13] false [0, 1, 2, 3, 4, 5, 6, 7, 8, 9, 10, 11, 12, 13, 14, 15, 16, 17, 18] []
noncomputable def q13_66 : Q := .seq (fun _ => q13_67) (fun _ => .ret)
noncomputable def q13_64 : Q := .seq (fun _ => q13_65) (fun _ => q13_66)
noncomputable def q13_58 : Q := .seq (fun _ => q13_59) (fun _ => q13_64)
noncomputable def q13_41 : Q := .seq (fun _ => q13_42) (fun _ => q13_58)
noncomputable def q13_20 : Q := .seq (fun _ => q13_21) (fun _ => q13_41)
noncomputable def q13_14 : Q := .seq (fun _ => q13_15) (fun _ => q13_20)
noncomputable def q13_12 : Q := .seq (fun _ => q13_13) (fun _ => q13_14)
noncomputable def q13_10 : Q := .seq (fun _ => q13_11) (fun _ => q13_12)
noncomputable def q13_4 : Q := .seq (fun _ => q13_5) (fun _ => q13_10)
noncomputable def q13_2 : Q := .seq (fun _ => q13_3) (fun _ => q13_4)
noncomputable def q13_0 : Q := .seq (fun _ => q13_1) (fun _ => q13_2)
noncomputable def q13 : Unit → Q := fun _ => q13_0
theorem ok13 : FnOk 13 q13 [.tmp 6] 228 := .of f13 func13 call13 (by kernel_rfl) (by kernel_rfl) (by kernel_rfl) (by kernel_rfl)

end Go.SX
