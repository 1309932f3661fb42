/- The functions of the program: the frame of their code, by numbers. Printed by genfn.py. -/
import Derived.Test.YtojdihbanakhgaaCoreB
import Derived.Test.YtojdihbanakhgaaProg
import Derived.KernelRfl
namespace Go.SX
open Go.Proofs.Try

-- parcener/parcenerref36.Great
noncomputable def r14_0 : List Oper := opsIn 0 f14
noncomputable def q14_1 : Q := .region 0 (fun _ => r14_0) [] false [0, 1] []
noncomputable def r14_1 : List Oper := opsIn 1 f14
noncomputable def q14_3 : Q := .region 1 (fun _ => r14_1) [3, 8, 15] false [0, 1, 2, 3, 4, 5, 6, 7, 8, 9, 10, 11, 12, 13, 14, 15, 16, 17, 18, 19, 20, 21] []
noncomputable def q14_2 : Q := .seq (fun _ => q14_3) (fun _ => .ret)
noncomputable def q14_0 : Q := .seq (fun _ => q14_1) (fun _ => q14_2)
noncomputable def q14 : Unit → Q := fun _ => q14_0
theorem ok14 : FnOk 14 q14 [.tmp 2] 24 := .of f14 func14 call14 (by kernel_rfl) (by kernel_rfl) (by kernel_rfl) (by kernel_rfl)

-- parcener/agent.Run
noncomputable def r15_0 : List Oper := opsIn 0 f15
noncomputable def q15_1 : Q := .region 0 (fun _ => r15_0) [] false [0, 1, 2, 3] []
noncomputable def r15_1 : List Oper := opsIn 1 f15
noncomputable def q15_4 : Q := .region 1 (fun _ => r15_1) [] false [0, 1, 2] []
noncomputable def r15_2 : List Oper := opsIn 2 f15
noncomputable def q15_6 : Q := .region 2 (fun _ => r15_2) [] false [0, 1] []
noncomputable def r15_3 : List Oper := opsIn 3 f15
noncomputable def q15_9 : Q := .region 3 (fun _ => r15_3) [] false [0, 1, 2, 3, 4] []
noncomputable def q15_8 : Q := .seq (fun _ => q15_9) (fun _ => .ret)
noncomputable def q15_7 : Q := .cond (.tmp 17) (fun _ => q15_8) (fun _ => .skip)
noncomputable def q15_5 : Q := .seq (fun _ => q15_6) (fun _ => q15_7)
noncomputable def q15_3 : Q := .seq (fun _ => q15_4) (fun _ => q15_5)
noncomputable def r15_4 : List Oper := opsIn 4 f15
noncomputable def q15_12 : Q := .region 4 (fun _ => r15_4) [] false [0, 1, 2] []
noncomputable def r15_5 : List Oper := opsIn 5 f15
noncomputable def q15_15 : Q := .region 5 (fun _ => r15_5) [] false [0, 1, 2, 3] []
noncomputable def q15_14 : Q := .seq (fun _ => q15_15) (fun _ => .ret)
noncomputable def q15_13 : Q := .cond (.tmp 22) (fun _ => q15_14) (fun _ => .skip)
noncomputable def q15_11 : Q := .seq (fun _ => q15_12) (fun _ => q15_13)
noncomputable def r15_6 : List Oper := opsIn 6 f15
noncomputable def q15_17 : Q := .region 6 (fun _ => r15_6) [] false [0, 1, 2] []
noncomputable def r15_7 : List Oper := opsIn 7 f15
noncomputable def q15_19 : Q := .region 7 (fun _ => r15_7) [] false [0, 1, 2] []
noncomputable def r15_8 : List Oper := opsIn 8 f15
noncomputable def q15_22 : Q := .region 8 (fun _ => r15_8) [] false [0, 1, 2] []
noncomputable def r15_9 : List Oper := opsIn 9 f15
noncomputable def q15_26 : Q := .region 9 (fun _ => r15_9) [] false [0] []
noncomputable def q15_28 : Q := .cond (.tmp 31) (fun _ => .skip) (fun _ => (.exit 0))
noncomputable def r15_10 : List Oper := opsIn 10 f15
noncomputable def q15_32 : Q := .region 10 (fun _ => r15_10) [] false [0, 1, 2, 3, 4, 5] []
noncomputable def r15_11 : List Oper := opsIn 11 f15
noncomputable def q15_34 : Q := .region 11 (fun _ => r15_11) [] false [0, 1, 2, 3, 4, 5, 6, 7, 8] [(2, ⟨false, true, []⟩)]
noncomputable def r15_12 : List Oper := opsIn 12 f15
noncomputable def q15_36 : Q := .region 12 (fun _ => r15_12) [] false [0, 1] []
noncomputable def r15_13 : List Oper := opsIn 13 f15
noncomputable def q15_39 : Q := .region 13 (fun _ => r15_13) [] false [0, 1, 2, 3, 4, 5, 6, 7, 8] []
noncomputable def q15_38 : Q := .seq (fun _ => q15_39) (fun _ => .ret)
noncomputable def q15_37 : Q := .cond (.tmp 42) (fun _ => q15_38) (fun _ => .skip)
noncomputable def q15_35 : Q := .seq (fun _ => q15_36) (fun _ => q15_37)
noncomputable def q15_33 : Q := .seq (fun _ => q15_34) (fun _ => q15_35)
noncomputable def q15_31 : Q := .seq (fun _ => q15_32) (fun _ => q15_33)
noncomputable def q15_30 : Q := .block 1 (fun _ => q15_31)
noncomputable def r15_14 : List Oper := opsIn 14 f15
noncomputable def q15_40 : Q := .region 14 (fun _ => r15_14) [] false [0, 1] []
noncomputable def q15_29 : Q := .seq (fun _ => q15_30) (fun _ => q15_40)
noncomputable def q15_27 : Q := .seq (fun _ => q15_28) (fun _ => q15_29)
noncomputable def q15_25 : Q := .seq (fun _ => q15_26) (fun _ => q15_27)
noncomputable def q15_24 : Q := .loop (fun _ => q15_25)
noncomputable def q15_23 : Q := .block 0 (fun _ => q15_24)
noncomputable def q15_21 : Q := .seq (fun _ => q15_22) (fun _ => q15_23)
noncomputable def r15_15 : List Oper := opsIn 15 f15
noncomputable def q15_42 : Q := .region 15 (fun _ => r15_15) [] false [0, 1, 2, 3, 4, 5, 6, 7, 8] []
noncomputable def q15_41 : Q := .seq (fun _ => q15_42) (fun _ => .ret)
noncomputable def q15_20 : Q := .seq (fun _ => q15_21) (fun _ => q15_41)
noncomputable def q15_18 : Q := .seq (fun _ => q15_19) (fun _ => q15_20)
noncomputable def q15_16 : Q := .seq (fun _ => q15_17) (fun _ => q15_18)
noncomputable def q15_10 : Q := .seq (fun _ => q15_11) (fun _ => q15_16)
noncomputable def q15_2 : Q := .seq (fun _ => q15_3) (fun _ => q15_10)
noncomputable def q15_0 : Q := .seq (fun _ => q15_1) (fun _ => q15_2)
noncomputable def q15 : Unit → Q := fun _ => q15_0
theorem ok15 : FnOk 15 q15 [.cell 4 25, .tmp 5, .tmp 6] 56 := .of f15 func15 call15 (by kernel_rfl) (by kernel_rfl) (by kernel_rfl) (by kernel_rfl)

-- parcener/parcenerref36.Run
noncomputable def r16_0 : List Oper := opsIn 0 f16
noncomputable def q16_1 : Q := .region 0 (fun _ => r16_0) [] false [0, 1, 2, 3] []
noncomputable def r16_1 : List Oper := opsIn 1 f16
noncomputable def q16_4 : Q := .region 1 (fun _ => r16_1) [] false [0, 1, 2] []
noncomputable def r16_2 : List Oper := opsIn 2 f16
noncomputable def q16_6 : Q := .region 2 (fun _ => r16_2) [] false [0, 1] []
noncomputable def r16_3 : List Oper := opsIn 3 f16
noncomputable def q16_9 : Q := .region 3 (fun _ => r16_3) [] false [0, 1, 2, 3, 4] []
noncomputable def q16_8 : Q := .seq (fun _ => q16_9) (fun _ => .ret)
noncomputable def q16_7 : Q := .cond (.tmp 16) (fun _ => q16_8) (fun _ => .skip)
noncomputable def q16_5 : Q := .seq (fun _ => q16_6) (fun _ => q16_7)
noncomputable def q16_3 : Q := .seq (fun _ => q16_4) (fun _ => q16_5)
noncomputable def r16_4 : List Oper := opsIn 4 f16
noncomputable def q16_12 : Q := .region 4 (fun _ => r16_4) [] false [0, 1, 2] []
noncomputable def r16_5 : List Oper := opsIn 5 f16
noncomputable def q16_15 : Q := .region 5 (fun _ => r16_5) [] false [0, 1, 2, 3] []
noncomputable def q16_14 : Q := .seq (fun _ => q16_15) (fun _ => .ret)
noncomputable def q16_13 : Q := .cond (.tmp 21) (fun _ => q16_14) (fun _ => .skip)
noncomputable def q16_11 : Q := .seq (fun _ => q16_12) (fun _ => q16_13)
noncomputable def r16_6 : List Oper := opsIn 6 f16
noncomputable def q16_17 : Q := .region 6 (fun _ => r16_6) [] false [0, 1, 2, 3] []
noncomputable def r16_7 : List Oper := opsIn 7 f16
noncomputable def q16_20 : Q := .region 7 (fun _ => r16_7) [] false [0] []
noncomputable def r16_8 : List Oper := opsIn 8 f16
noncomputable def q16_25 : Q := .region 8 (fun _ => r16_8) [] false [0, 1, 2, 3] []
noncomputable def q16_26 : Q := .cond (.tmp 28) (fun _ => .skip) (fun _ => (.exit 0))
noncomputable def q16_24 : Q := .seq (fun _ => q16_25) (fun _ => q16_26)
noncomputable def r16_10 : List Oper := opsIn 10 f16
noncomputable def q16_30 : Q := .region 10 (fun _ => r16_10) [] true [0, 1, 2, 3, 4, 5, 6, 7, 8, 9, 10, 11, 12, 13, 14, 15, 16, 17, 18, 19, 20, 21, 22, 23, 24, 25, 26, 27, 28, 29, 30] [(24, ⟨true, false, []⟩), (25, ⟨true, false, []⟩)]
noncomputable def r16_11 : List Oper := opsIn 11 f16
noncomputable def q16_33 : Q := .region 11 (fun _ => r16_11) [] false [0, 1] []
noncomputable def r16_12 : List Oper := opsIn 12 f16
noncomputable def q16_36 : Q := .region 12 (fun _ => r16_12) [] false [0, 1, 2, 3, 4, 5] []
noncomputable def q16_35 : Q := .seq (fun _ => q16_36) (fun _ => .ret)
noncomputable def q16_34 : Q := .cond (.tmp 58) (fun _ => q16_35) (fun _ => .skip)
noncomputable def q16_32 : Q := .seq (fun _ => q16_33) (fun _ => q16_34)
noncomputable def r16_13 : List Oper := opsIn 13 f16
noncomputable def q16_37 : Q := .region 13 (fun _ => r16_13) [] false [0, 1] []
noncomputable def q16_31 : Q := .seq (fun _ => q16_32) (fun _ => q16_37)
noncomputable def q16_29 : Q := .seq (fun _ => q16_30) (fun _ => q16_31)
noncomputable def q16_28 : Q := .block 1 (fun _ => q16_29)
noncomputable def r16_9 : List Oper := opsIn 9 f16
noncomputable def q16_38 : Q := .region 9 (fun _ => r16_9) [] false [0, 1, 2] []
noncomputable def q16_27 : Q := .seq (fun _ => q16_28) (fun _ => q16_38)
noncomputable def q16_23 : Q := .seq (fun _ => q16_24) (fun _ => q16_27)
noncomputable def q16_22 : Q := .loop (fun _ => q16_23)
noncomputable def q16_21 : Q := .block 0 (fun _ => q16_22)
noncomputable def q16_19 : Q := .seq (fun _ => q16_20) (fun _ => q16_21)
noncomputable def r16_14 : List Oper := opsIn 14 f16
noncomputable def q16_40 : Q := .region 14 (fun _ => r16_14) [] false [0, 1, 2, 3, 4, 5] []
noncomputable def q16_39 : Q := .seq (fun _ => q16_40) (fun _ => .ret)
noncomputable def q16_18 : Q := .seq (fun _ => q16_19) (fun _ => q16_39)
noncomputable def q16_16 : Q := .seq (fun _ => q16_17) (fun _ => q16_18)
noncomputable def q16_10 : Q := .seq (fun _ => q16_11) (fun _ => q16_16)
noncomputable def q16_2 : Q := .seq (fun _ => q16_3) (fun _ => q16_10)
noncomputable def q16_0 : Q := .seq (fun _ => q16_1) (fun _ => q16_2)
noncomputable def q16 : Unit → Q := fun _ => q16_0
theorem ok16 : FnOk 16 q16 [.cell 4 25, .tmp 5, .tmp 6] 66 := .of f16 func16 call16 (by kernel_rfl) (by kernel_rfl) (by kernel_rfl) (by kernel_rfl)

-- parcener/parcenerref36.Same
noncomputable def r17_0 : List Oper := opsIn 0 f17
noncomputable def q17_1 : Q := .region 0 (fun _ => r17_0) [] false [0, 1, 2] []
noncomputable def r17_1 : List Oper := opsIn 1 f17
noncomputable def q17_4 : Q := .region 1 (fun _ => r17_1) [7] false [0, 1, 2, 3, 4, 5, 6, 7, 8, 9, 10, 11, 12, 13, 14] []
noncomputable def r17_2 : List Oper := opsIn 2 f17
noncomputable def q17_7 : Q := .region 2 (fun _ => r17_2) [] false [0] []
noncomputable def q17_6 : Q := .seq (fun _ => q17_7) (fun _ => .ret)
noncomputable def q17_5 : Q := .cond (.tmp 22) (fun _ => q17_6) (fun _ => .skip)
noncomputable def q17_3 : Q := .seq (fun _ => q17_4) (fun _ => q17_5)
noncomputable def r17_3 : List Oper := opsIn 3 f17
noncomputable def q17_10 : Q := .region 3 (fun _ => r17_3) [] false [0] []
noncomputable def r17_4 : List Oper := opsIn 4 f17
noncomputable def q17_15 : Q := .region 4 (fun _ => r17_4) [] false [0, 1, 2, 3, 4] []
noncomputable def q17_16 : Q := .cond (.tmp 27) (fun _ => .skip) (fun _ => (.exit 0))
noncomputable def q17_14 : Q := .seq (fun _ => q17_15) (fun _ => q17_16)
noncomputable def r17_6 : List Oper := opsIn 6 f17
noncomputable def q17_20 : Q := .region 6 (fun _ => r17_6) [] true [0, 1, 2, 3, 4, 5, 6, 7, 8, 9, 10, 11, 12, 13] [(5, ⟨true, false, []⟩), (6, ⟨false, false, [6]⟩), (7, ⟨true, false, []⟩), (8, ⟨false, false, [6]⟩), (9, ⟨false, false, [6]⟩), (12, ⟨false, false, [6]⟩)]
noncomputable def r17_7 : List Oper := opsIn 7 f17
noncomputable def q17_22 : Q := .region 7 (fun _ => r17_7) [5, 12, 20] false [0, 1, 2, 3, 4, 5, 6, 7, 8, 9, 10, 11, 12, 13, 14, 15, 16, 17, 18, 19, 20, 21, 22, 23, 24, 25, 26, 27] []
noncomputable def r17_8 : List Oper := opsIn 8 f17
noncomputable def q17_25 : Q := .region 8 (fun _ => r17_8) [] false [0] []
noncomputable def q17_24 : Q := .seq (fun _ => q17_25) (fun _ => .ret)
noncomputable def q17_23 : Q := .cond (.tmp 67) (fun _ => q17_24) (fun _ => .skip)
noncomputable def q17_21 : Q := .seq (fun _ => q17_22) (fun _ => q17_23)
noncomputable def q17_19 : Q := .seq (fun _ => q17_20) (fun _ => q17_21)
noncomputable def q17_18 : Q := .block 1 (fun _ => q17_19)
noncomputable def r17_5 : List Oper := opsIn 5 f17
noncomputable def q17_26 : Q := .region 5 (fun _ => r17_5) [] false [0, 1, 2] []
noncomputable def q17_17 : Q := .seq (fun _ => q17_18) (fun _ => q17_26)
noncomputable def q17_13 : Q := .seq (fun _ => q17_14) (fun _ => q17_17)
noncomputable def q17_12 : Q := .loop (fun _ => q17_13)
noncomputable def q17_11 : Q := .block 0 (fun _ => q17_12)
noncomputable def q17_9 : Q := .seq (fun _ => q17_10) (fun _ => q17_11)
noncomputable def r17_9 : List Oper := opsIn 9 f17
noncomputable def q17_28 : Q := .region 9 (fun _ => r17_9) [] false [0] []
noncomputable def q17_27 : Q := .seq (fun _ => q17_28) (fun _ => .ret)
noncomputable def q17_8 : Q := .seq (fun _ => q17_9) (fun _ => q17_27)
noncomputable def q17_2 : Q := .seq (fun _ => q17_3) (fun _ => q17_8)
noncomputable def q17_0 : Q := .seq (fun _ => q17_1) (fun _ => q17_2)
noncomputable def q17 : Unit → Q := fun _ => q17_0
theorem ok17 : FnOk 17 q17 [.tmp 4] 68 := .of f17 func17 call17 (by kernel_rfl) (by kernel_rfl) (by kernel_rfl) (by kernel_rfl)

-- parcener/parcenerref04.SameLogs
noncomputable def r18_0 : List Oper := opsIn 0 f18
noncomputable def q18_1 : Q := .region 0 (fun _ => r18_0) [] false [0] []
noncomputable def r18_1 : List Oper := opsIn 1 f18
noncomputable def q18_4 : Q := .region 1 (fun _ => r18_1) [] false [0, 1, 2, 3, 4] []
noncomputable def r18_2 : List Oper := opsIn 2 f18
noncomputable def q18_7 : Q := .region 2 (fun _ => r18_2) [] false [0] []
noncomputable def q18_6 : Q := .seq (fun _ => q18_7) (fun _ => .ret)
noncomputable def q18_5 : Q := .cond (.tmp 10) (fun _ => q18_6) (fun _ => .skip)
noncomputable def q18_3 : Q := .seq (fun _ => q18_4) (fun _ => q18_5)
noncomputable def r18_3 : List Oper := opsIn 3 f18
noncomputable def q18_10 : Q := .region 3 (fun _ => r18_3) [] false [0] []
noncomputable def r18_4 : List Oper := opsIn 4 f18
noncomputable def q18_15 : Q := .region 4 (fun _ => r18_4) [] false [0, 1, 2, 3] []
noncomputable def q18_16 : Q := .cond (.tmp 14) (fun _ => .skip) (fun _ => (.exit 0))
noncomputable def q18_14 : Q := .seq (fun _ => q18_15) (fun _ => q18_16)
noncomputable def r18_6 : List Oper := opsIn 6 f18
noncomputable def q18_20 : Q := .region 6 (fun _ => r18_6) [] true [0, 1, 2, 3, 4, 5, 6, 7, 8] []
noncomputable def r18_7 : List Oper := opsIn 7 f18
noncomputable def q18_23 : Q := .region 7 (fun _ => r18_7) [] false [0] []
noncomputable def q18_22 : Q := .seq (fun _ => q18_23) (fun _ => .ret)
noncomputable def q18_21 : Q := .cond (.tmp 25) (fun _ => q18_22) (fun _ => .skip)
noncomputable def q18_19 : Q := .seq (fun _ => q18_20) (fun _ => q18_21)
noncomputable def q18_18 : Q := .block 1 (fun _ => q18_19)
noncomputable def r18_5 : List Oper := opsIn 5 f18
noncomputable def q18_24 : Q := .region 5 (fun _ => r18_5) [] false [0, 1, 2] []
noncomputable def q18_17 : Q := .seq (fun _ => q18_18) (fun _ => q18_24)
noncomputable def q18_13 : Q := .seq (fun _ => q18_14) (fun _ => q18_17)
noncomputable def q18_12 : Q := .loop (fun _ => q18_13)
noncomputable def q18_11 : Q := .block 0 (fun _ => q18_12)
noncomputable def q18_9 : Q := .seq (fun _ => q18_10) (fun _ => q18_11)
noncomputable def r18_8 : List Oper := opsIn 8 f18
noncomputable def q18_26 : Q := .region 8 (fun _ => r18_8) [] false [0] []
noncomputable def q18_25 : Q := .seq (fun _ => q18_26) (fun _ => .ret)
noncomputable def q18_8 : Q := .seq (fun _ => q18_9) (fun _ => q18_25)
noncomputable def q18_2 : Q := .seq (fun _ => q18_3) (fun _ => q18_8)
noncomputable def q18_0 : Q := .seq (fun _ => q18_1) (fun _ => q18_2)
noncomputable def q18 : Unit → Q := fun _ => q18_0
theorem ok18 : FnOk 18 q18 [.tmp 4] 26 := .of f18 func18 call18 (by kernel_rfl) (by kernel_rfl) (by kernel_rfl) (by kernel_rfl)

-- parcener/agent.Of
noncomputable def r19_0 : List Oper := opsIn 0 f19
noncomputable def q19_1 : Q := .region 0 (fun _ => r19_0) [] false [0] []
noncomputable def r19_1 : List Oper := opsIn 1 f19
noncomputable def q19_3 : Q := .region 1 (fun _ => r19_1) [] false [0] []
noncomputable def r19_2 : List Oper := opsIn 2 f19
noncomputable def q19_6 : Q := .region 2 (fun _ => r19_2) [] false [0, 1, 2] []
noncomputable def r19_3 : List Oper := opsIn 3 f19
noncomputable def q19_10 : Q := .region 3 (fun _ => r19_3) [] false [0] []
noncomputable def q19_12 : Q := .cond (.tmp 11) (fun _ => .skip) (fun _ => (.exit 0))
noncomputable def r19_4 : List Oper := opsIn 4 f19
noncomputable def q19_16 : Q := .region 4 (fun _ => r19_4) [] false [0, 1, 2, 3] []
noncomputable def r19_5 : List Oper := opsIn 5 f19
noncomputable def q19_18 : Q := .region 5 (fun _ => r19_5) [] false [0, 1, 2, 3] []
noncomputable def r19_6 : List Oper := opsIn 6 f19
noncomputable def q19_20 : Q := .region 6 (fun _ => r19_6) [] false [0, 1, 2, 3, 4] []
noncomputable def q19_19 : Q := .cond (.tmp 17) (fun _ => q19_20) (fun _ => .skip)
noncomputable def q19_17 : Q := .seq (fun _ => q19_18) (fun _ => q19_19)
noncomputable def q19_15 : Q := .seq (fun _ => q19_16) (fun _ => q19_17)
noncomputable def q19_14 : Q := .block 1 (fun _ => q19_15)
noncomputable def r19_7 : List Oper := opsIn 7 f19
noncomputable def q19_21 : Q := .region 7 (fun _ => r19_7) [] false [0, 1] []
noncomputable def q19_13 : Q := .seq (fun _ => q19_14) (fun _ => q19_21)
noncomputable def q19_11 : Q := .seq (fun _ => q19_12) (fun _ => q19_13)
noncomputable def q19_9 : Q := .seq (fun _ => q19_10) (fun _ => q19_11)
noncomputable def q19_8 : Q := .loop (fun _ => q19_9)
noncomputable def q19_7 : Q := .block 0 (fun _ => q19_8)
noncomputable def q19_5 : Q := .seq (fun _ => q19_6) (fun _ => q19_7)
noncomputable def r19_8 : List Oper := opsIn 8 f19
noncomputable def q19_23 : Q := .region 8 (fun _ => r19_8) [] false [0, 1] []
noncomputable def q19_22 : Q := .seq (fun _ => q19_23) (fun _ => .ret)
noncomputable def q19_4 : Q := .seq (fun _ => q19_5) (fun _ => q19_22)
noncomputable def q19_2 : Q := .seq (fun _ => q19_3) (fun _ => q19_4)
noncomputable def q19_0 : Q := .seq (fun _ => q19_1) (fun _ => q19_2)
noncomputable def q19 : Unit → Q := fun _ => q19_0
theorem ok19 : FnOk 19 q19 [.tmp 4] 24 := .of f19 func19 call19 (by kernel_rfl) (by kernel_rfl) (by kernel_rfl) (by kernel_rfl)

-- parcener/parcenerref36.Of
noncomputable def r20_0 : List Oper := opsIn 0 f20
noncomputable def q20_1 : Q := .region 0 (fun _ => r20_0) [] false [0] []
noncomputable def r20_1 : List Oper := opsIn 1 f20
noncomputable def q20_3 : Q := .region 1 (fun _ => r20_1) [] false [0] []
noncomputable def r20_2 : List Oper := opsIn 2 f20
noncomputable def q20_6 : Q := .region 2 (fun _ => r20_2) [] false [0] []
noncomputable def r20_3 : List Oper := opsIn 3 f20
noncomputable def q20_11 : Q := .region 3 (fun _ => r20_3) [] false [0, 1, 2, 3] []
noncomputable def q20_12 : Q := .cond (.tmp 10) (fun _ => .skip) (fun _ => (.exit 0))
noncomputable def q20_10 : Q := .seq (fun _ => q20_11) (fun _ => q20_12)
noncomputable def r20_5 : List Oper := opsIn 5 f20
noncomputable def q20_16 : Q := .region 5 (fun _ => r20_5) [] false [0, 1, 2, 3, 4, 5, 6] []
noncomputable def r20_6 : List Oper := opsIn 6 f20
noncomputable def q20_18 : Q := .region 6 (fun _ => r20_6) [] false [0, 1, 2, 3, 4, 5, 6, 7] []
noncomputable def q20_17 : Q := .cond (.tmp 19) (fun _ => q20_18) (fun _ => .skip)
noncomputable def q20_15 : Q := .seq (fun _ => q20_16) (fun _ => q20_17)
noncomputable def q20_14 : Q := .block 1 (fun _ => q20_15)
noncomputable def r20_4 : List Oper := opsIn 4 f20
noncomputable def q20_19 : Q := .region 4 (fun _ => r20_4) [] false [0, 1, 2] []
noncomputable def q20_13 : Q := .seq (fun _ => q20_14) (fun _ => q20_19)
noncomputable def q20_9 : Q := .seq (fun _ => q20_10) (fun _ => q20_13)
noncomputable def q20_8 : Q := .loop (fun _ => q20_9)
noncomputable def q20_7 : Q := .block 0 (fun _ => q20_8)
noncomputable def q20_5 : Q := .seq (fun _ => q20_6) (fun _ => q20_7)
noncomputable def r20_7 : List Oper := opsIn 7 f20
noncomputable def q20_21 : Q := .region 7 (fun _ => r20_7) [] false [0, 1] []
noncomputable def q20_20 : Q := .seq (fun _ => q20_21) (fun _ => .ret)
noncomputable def q20_4 : Q := .seq (fun _ => q20_5) (fun _ => q20_20)
noncomputable def q20_2 : Q := .seq (fun _ => q20_3) (fun _ => q20_4)
noncomputable def q20_0 : Q := .seq (fun _ => q20_1) (fun _ => q20_2)
noncomputable def q20 : Unit → Q := fun _ => q20_0
theorem ok20 : FnOk 20 q20 [.tmp 4] 28 := .of f20 func20 call20 (by kernel_rfl) (by kernel_rfl) (by kernel_rfl) (by kernel_rfl)

-- parcener/cake.Density
noncomputable def r21_0 : List Oper := opsIn 0 f21
noncomputable def q21_1 : Q := .region 0 (fun _ => r21_0) [] false [0, 1, 2, 3] []
noncomputable def r21_1 : List Oper := opsIn 1 f21
noncomputable def q21_4 : Q := .region 1 (fun _ => r21_1) [] false [0, 1, 2] []
noncomputable def r21_2 : List Oper := opsIn 2 f21
noncomputable def q21_6 : Q := .region 2 (fun _ => r21_2) [] false [0, 1] []
noncomputable def r21_3 : List Oper := opsIn 3 f21
noncomputable def q21_9 : Q := .region 3 (fun _ => r21_3) [] false [0, 1, 2] []
noncomputable def q21_8 : Q := .seq (fun _ => q21_9) (fun _ => .ret)
noncomputable def q21_7 : Q := .cond (.tmp 11) (fun _ => q21_8) (fun _ => .skip)
noncomputable def q21_5 : Q := .seq (fun _ => q21_6) (fun _ => q21_7)
noncomputable def q21_3 : Q := .seq (fun _ => q21_4) (fun _ => q21_5)
noncomputable def r21_4 : List Oper := opsIn 4 f21
noncomputable def q21_12 : Q := .region 4 (fun _ => r21_4) [] false [0, 1, 2, 3] []
noncomputable def r21_5 : List Oper := opsIn 5 f21
noncomputable def q21_15 : Q := .region 5 (fun _ => r21_5) [] false [0, 1] []
noncomputable def q21_14 : Q := .seq (fun _ => q21_15) (fun _ => .ret)
noncomputable def q21_13 : Q := .cond (.tmp 16) (fun _ => q21_14) (fun _ => .skip)
noncomputable def q21_11 : Q := .seq (fun _ => q21_12) (fun _ => q21_13)
noncomputable def r21_6 : List Oper := opsIn 6 f21
noncomputable def q21_17 : Q := .region 6 (fun _ => r21_6) [] false [0, 1, 2, 3, 4] []
noncomputable def r21_7 : List Oper := opsIn 7 f21
noncomputable def q21_23 : Q := .region 7 (fun _ => r21_7) [] true [0, 1, 2, 3, 4, 5, 6, 7] []
noncomputable def q21_24 : Q := .cond (.tmp 28) (fun _ => .skip) (fun _ => (.exit 0))
noncomputable def q21_22 : Q := .seq (fun _ => q21_23) (fun _ => q21_24)
noncomputable def r21_8 : List Oper := opsIn 8 f21
noncomputable def q21_26 : Q := .region 8 (fun _ => r21_8) [] false [0, 1, 2] []
noncomputable def q21_25 : Q := .block 1 (fun _ => q21_26)
noncomputable def q21_21 : Q := .seq (fun _ => q21_22) (fun _ => q21_25)
noncomputable def q21_20 : Q := .loop (fun _ => q21_21)
noncomputable def q21_19 : Q := .block 0 (fun _ => q21_20)
noncomputable def r21_9 : List Oper := opsIn 9 f21
noncomputable def q21_28 : Q := .region 9 (fun _ => r21_9) [] false [0, 1, 2, 3, 4, 5, 6] []
noncomputable def q21_27 : Q := .seq (fun _ => q21_28) (fun _ => .ret)
noncomputable def q21_18 : Q := .seq (fun _ => q21_19) (fun _ => q21_27)
noncomputable def q21_16 : Q := .seq (fun _ => q21_17) (fun _ => q21_18)
noncomputable def q21_10 : Q := .seq (fun _ => q21_11) (fun _ => q21_16)
noncomputable def q21_2 : Q := .seq (fun _ => q21_3) (fun _ => q21_10)
noncomputable def q21_0 : Q := .seq (fun _ => q21_1) (fun _ => q21_2)
noncomputable def q21 : Unit → Q := fun _ => q21_0
theorem ok21 : FnOk 21 q21 [.tmp 4, .tmp 5] 36 := .of f21 func21 call21 (by kernel_rfl) (by kernel_rfl) (by kernel_rfl) (by kernel_rfl)

-- parcener/parcenerlaw02.given
noncomputable def r22_0 : List Oper := opsIn 0 f22
noncomputable def q22_1 : Q := .region 0 (fun _ => r22_0) [] false [0] []
noncomputable def r22_1 : List Oper := opsIn 1 f22
noncomputable def q22_3 : Q := .region 1 (fun _ => r22_1) [] false [0, 1, 2, 3] []
noncomputable def q22_2 : Q := .seq (fun _ => q22_3) (fun _ => .ret)
noncomputable def q22_0 : Q := .seq (fun _ => q22_1) (fun _ => q22_2)
noncomputable def q22 : Unit → Q := fun _ => q22_0
theorem ok22 : FnOk 22 q22 [.cell 0 40] 4 := .of f22 func22 call22 (by kernel_rfl) (by kernel_rfl) (by kernel_rfl) (by kernel_rfl)

-- parcener/parcenerlaw02.of
noncomputable def r23_0 : List Oper := opsIn 0 f23
noncomputable def q23_1 : Q := .region 0 (fun _ => r23_0) [] false [0] []
noncomputable def r23_1 : List Oper := opsIn 1 f23
noncomputable def q23_3 : Q := .region 1 (fun _ => r23_1) [] false [0, 1, 2] []
noncomputable def q23_2 : Q := .seq (fun _ => q23_3) (fun _ => .ret)
noncomputable def q23_0 : Q := .seq (fun _ => q23_1) (fun _ => q23_2)
noncomputable def q23 : Unit → Q := fun _ => q23_0
theorem ok23 : FnOk 23 q23 [.cell 2 43] 5 := .of f23 func23 call23 (by kernel_rfl) (by kernel_rfl) (by kernel_rfl) (by kernel_rfl)

-- parcener/cake.Part
noncomputable def r24_0 : List Oper := opsIn 0 f24
noncomputable def q24_1 : Q := .region 0 (fun _ => r24_0) [] false [0, 1, 2] []
noncomputable def r24_1 : List Oper := opsIn 1 f24
noncomputable def q24_4 : Q := .region 1 (fun _ => r24_1) [] false [0, 1, 2] []
noncomputable def r24_2 : List Oper := opsIn 2 f24
noncomputable def q24_6 : Q := .region 2 (fun _ => r24_2) [] false [0, 1] []
noncomputable def r24_3 : List Oper := opsIn 3 f24
noncomputable def q24_9 : Q := .region 3 (fun _ => r24_3) [] false [0, 1, 2, 3] []
noncomputable def q24_8 : Q := .seq (fun _ => q24_9) (fun _ => .ret)
noncomputable def q24_7 : Q := .cond (.tmp 17) (fun _ => q24_8) (fun _ => .skip)
noncomputable def q24_5 : Q := .seq (fun _ => q24_6) (fun _ => q24_7)
noncomputable def q24_3 : Q := .seq (fun _ => q24_4) (fun _ => q24_5)
noncomputable def r24_4 : List Oper := opsIn 4 f24
noncomputable def q24_12 : Q := .region 4 (fun _ => r24_4) [2, 8] false [0, 1, 2, 3, 4, 5, 6, 7, 8, 9, 10, 11, 12] []
noncomputable def r24_5 : List Oper := opsIn 5 f24
noncomputable def q24_15 : Q := .region 5 (fun _ => r24_5) [] false [0, 1, 2] []
noncomputable def q24_14 : Q := .seq (fun _ => q24_15) (fun _ => .ret)
noncomputable def q24_13 : Q := .cond (.tmp 32) (fun _ => q24_14) (fun _ => .skip)
noncomputable def q24_11 : Q := .seq (fun _ => q24_12) (fun _ => q24_13)
noncomputable def r24_6 : List Oper := opsIn 6 f24
noncomputable def q24_17 : Q := .region 6 (fun _ => r24_6) [] false [0] []
noncomputable def r24_7 : List Oper := opsIn 7 f24
noncomputable def q24_23 : Q := .region 7 (fun _ => r24_7) [] false [0, 1, 2, 3, 4, 5, 6, 7] []
noncomputable def q24_24 : Q := .cond (.tmp 41) (fun _ => .skip) (fun _ => (.exit 0))
noncomputable def q24_22 : Q := .seq (fun _ => q24_23) (fun _ => q24_24)
noncomputable def r24_8 : List Oper := opsIn 8 f24
noncomputable def q24_26 : Q := .region 8 (fun _ => r24_8) [] false [0, 1, 2] []
noncomputable def q24_25 : Q := .block 1 (fun _ => q24_26)
noncomputable def q24_21 : Q := .seq (fun _ => q24_22) (fun _ => q24_25)
noncomputable def q24_20 : Q := .loop (fun _ => q24_21)
noncomputable def q24_19 : Q := .block 0 (fun _ => q24_20)
noncomputable def r24_9 : List Oper := opsIn 9 f24
noncomputable def q24_28 : Q := .region 9 (fun _ => r24_9) [] false [0, 1] []
noncomputable def r24_10 : List Oper := opsIn 10 f24
noncomputable def q24_34 : Q := .region 10 (fun _ => r24_10) [] false [0, 1, 2, 3, 4, 5, 6, 7] []
noncomputable def q24_35 : Q := .cond (.tmp 52) (fun _ => .skip) (fun _ => (.exit 2))
noncomputable def q24_33 : Q := .seq (fun _ => q24_34) (fun _ => q24_35)
noncomputable def r24_11 : List Oper := opsIn 11 f24
noncomputable def q24_37 : Q := .region 11 (fun _ => r24_11) [] false [0, 1, 2] []
noncomputable def q24_36 : Q := .block 3 (fun _ => q24_37)
noncomputable def q24_32 : Q := .seq (fun _ => q24_33) (fun _ => q24_36)
noncomputable def q24_31 : Q := .loop (fun _ => q24_32)
noncomputable def q24_30 : Q := .block 2 (fun _ => q24_31)
noncomputable def r24_12 : List Oper := opsIn 12 f24
noncomputable def q24_39 : Q := .region 12 (fun _ => r24_12) [] false [0, 1, 2, 3, 4, 5, 6, 7, 8, 9, 10, 11, 12, 13, 14, 15] []
noncomputable def r24_13 : List Oper := opsIn 13 f24
noncomputable def q24_42 : Q := .region 13 (fun _ => r24_13) [] false [0, 1, 2, 3, 4, 5, 6, 7] []
noncomputable def r24_14 : List Oper := opsIn 14 f24
noncomputable def q24_46 : Q := .region 14 (fun _ => r24_14) [] false [0] []
noncomputable def q24_48 : Q := .cond (.tmp 77) (fun _ => .skip) (fun _ => (.exit 4))
noncomputable def r24_15 : List Oper := opsIn 15 f24
noncomputable def q24_52 : Q := .region 15 (fun _ => r24_15) [] false [0, 1, 2] []
noncomputable def r24_16 : List Oper := opsIn 16 f24
noncomputable def q24_53 : Q := .region 16 (fun _ => r24_16) [] false [0, 1, 2, 3, 4, 5, 6, 7, 8, 9, 10] []
noncomputable def q24_51 : Q := .seq (fun _ => q24_52) (fun _ => q24_53)
noncomputable def q24_50 : Q := .block 5 (fun _ => q24_51)
noncomputable def r24_17 : List Oper := opsIn 17 f24
noncomputable def q24_54 : Q := .region 17 (fun _ => r24_17) [] false [0, 1] []
noncomputable def q24_49 : Q := .seq (fun _ => q24_50) (fun _ => q24_54)
noncomputable def q24_47 : Q := .seq (fun _ => q24_48) (fun _ => q24_49)
noncomputable def q24_45 : Q := .seq (fun _ => q24_46) (fun _ => q24_47)
noncomputable def q24_44 : Q := .loop (fun _ => q24_45)
noncomputable def q24_43 : Q := .block 4 (fun _ => q24_44)
noncomputable def q24_41 : Q := .seq (fun _ => q24_42) (fun _ => q24_43)
noncomputable def r24_18 : List Oper := opsIn 18 f24
noncomputable def q24_56 : Q := .region 18 (fun _ => r24_18) [] false [0, 1, 2, 3, 4, 5, 6, 7, 8] []
noncomputable def r24_19 : List Oper := opsIn 19 f24
noncomputable def q24_59 : Q := .region 19 (fun _ => r24_19) [] false [0, 1, 2] []
noncomputable def r24_20 : List Oper := opsIn 20 f24
noncomputable def q24_62 : Q := .region 20 (fun _ => r24_20) [] false [0, 1, 2] []
noncomputable def q24_61 : Q := .seq (fun _ => q24_62) (fun _ => .ret)
noncomputable def q24_60 : Q := .cond (.tmp 101) (fun _ => q24_61) (fun _ => .skip)
noncomputable def q24_58 : Q := .seq (fun _ => q24_59) (fun _ => q24_60)
noncomputable def r24_21 : List Oper := opsIn 21 f24
noncomputable def q24_64 : Q := .region 21 (fun _ => r24_21) [] false [0, 1, 2] []
noncomputable def q24_63 : Q := .seq (fun _ => q24_64) (fun _ => .ret)
noncomputable def q24_57 : Q := .seq (fun _ => q24_58) (fun _ => q24_63)
noncomputable def q24_55 : Q := .seq (fun _ => q24_56) (fun _ => q24_57)
noncomputable def q24_40 : Q := .seq (fun _ => q24_41) (fun _ => q24_55)
noncomputable def q24_38 : Q := .seq (fun _ => q24_39) (fun _ => q24_40)
noncomputable def q24_29 : Q := .seq (fun _ => q24_30) (fun _ => q24_38)
noncomputable def q24_27 : Q := .seq (fun _ => q24_28) (fun _ => q24_29)
noncomputable def q24_18 : Q := .seq (fun _ => q24_19) (fun _ => q24_27)
noncomputable def q24_16 : Q := .seq (fun _ => q24_17) (fun _ => q24_18)
noncomputable def q24_10 : Q := .seq (fun _ => q24_11) (fun _ => q24_16)
noncomputable def q24_2 : Q := .seq (fun _ => q24_3) (fun _ => q24_10)
noncomputable def q24_0 : Q := .seq (fun _ => q24_1) (fun _ => q24_2)
noncomputable def q24 : Unit → Q := fun _ => q24_0
theorem ok24 : FnOk 24 q24 [.cell 6 40, .tmp 7] 104 := .of f24 func24 call24 (by kernel_rfl) (by kernel_rfl) (by kernel_rfl) (by kernel_rfl)

-- parcener/cake.Normal
noncomputable def r25_0 : List Oper := opsIn 0 f25
noncomputable def q25_1 : Q := .region 0 (fun _ => r25_0) [] false [0, 1, 2] []
noncomputable def r25_1 : List Oper := opsIn 1 f25
noncomputable def q25_4 : Q := .region 1 (fun _ => r25_1) [] false [0, 1, 2] []
noncomputable def r25_2 : List Oper := opsIn 2 f25
noncomputable def q25_6 : Q := .region 2 (fun _ => r25_2) [] false [0, 1] []
noncomputable def r25_3 : List Oper := opsIn 3 f25
noncomputable def q25_9 : Q := .region 3 (fun _ => r25_3) [] false [0, 1, 2, 3] []
noncomputable def q25_8 : Q := .seq (fun _ => q25_9) (fun _ => .ret)
noncomputable def q25_7 : Q := .cond (.tmp 10) (fun _ => q25_8) (fun _ => .skip)
noncomputable def q25_5 : Q := .seq (fun _ => q25_6) (fun _ => q25_7)
noncomputable def q25_3 : Q := .seq (fun _ => q25_4) (fun _ => q25_5)
noncomputable def r25_4 : List Oper := opsIn 4 f25
noncomputable def q25_11 : Q := .region 4 (fun _ => r25_4) [] true [0, 1, 2, 3, 4, 5, 6, 7, 8] []
noncomputable def r25_5 : List Oper := opsIn 5 f25
noncomputable def q25_14 : Q := .region 5 (fun _ => r25_5) [] false [0, 1, 2, 3] []
noncomputable def r25_6 : List Oper := opsIn 6 f25
noncomputable def q25_18 : Q := .region 6 (fun _ => r25_6) [] false [0] []
noncomputable def q25_20 : Q := .cond (.tmp 24) (fun _ => .skip) (fun _ => (.exit 0))
noncomputable def r25_7 : List Oper := opsIn 7 f25
noncomputable def q25_24 : Q := .region 7 (fun _ => r25_7) [] false [0, 1] []
noncomputable def r25_8 : List Oper := opsIn 8 f25
noncomputable def q25_26 : Q := .region 8 (fun _ => r25_8) [2] true [0, 1, 2, 3, 4, 5, 6, 7, 8, 9, 10, 11, 12, 13, 14, 15] []
noncomputable def r25_9 : List Oper := opsIn 9 f25
noncomputable def q25_28 : Q := .region 9 (fun _ => r25_9) [] true [0, 1, 2, 3, 4, 5, 6, 7, 8, 9, 10] []
noncomputable def q25_27 : Q := .cond (.tmp 41) (fun _ => q25_28) (fun _ => .skip)
noncomputable def q25_25 : Q := .seq (fun _ => q25_26) (fun _ => q25_27)
noncomputable def q25_23 : Q := .seq (fun _ => q25_24) (fun _ => q25_25)
noncomputable def q25_22 : Q := .block 1 (fun _ => q25_23)
noncomputable def r25_10 : List Oper := opsIn 10 f25
noncomputable def q25_29 : Q := .region 10 (fun _ => r25_10) [] false [0, 1] []
noncomputable def q25_21 : Q := .seq (fun _ => q25_22) (fun _ => q25_29)
noncomputable def q25_19 : Q := .seq (fun _ => q25_20) (fun _ => q25_21)
noncomputable def q25_17 : Q := .seq (fun _ => q25_18) (fun _ => q25_19)
noncomputable def q25_16 : Q := .loop (fun _ => q25_17)
noncomputable def q25_15 : Q := .block 0 (fun _ => q25_16)
noncomputable def q25_13 : Q := .seq (fun _ => q25_14) (fun _ => q25_15)
noncomputable def r25_11 : List Oper := opsIn 11 f25
noncomputable def q25_31 : Q := .region 11 (fun _ => r25_11) [] false [0, 1, 2, 3, 4, 5, 6, 7] []
noncomputable def r25_12 : List Oper := opsIn 12 f25
noncomputable def q25_33 : Q := .region 12 (fun _ => r25_12) [] false [0, 1, 2] []
noncomputable def q25_32 : Q := .seq (fun _ => q25_33) (fun _ => .ret)
noncomputable def q25_30 : Q := .seq (fun _ => q25_31) (fun _ => q25_32)
noncomputable def q25_12 : Q := .seq (fun _ => q25_13) (fun _ => q25_30)
noncomputable def q25_10 : Q := .seq (fun _ => q25_11) (fun _ => q25_12)
noncomputable def q25_2 : Q := .seq (fun _ => q25_3) (fun _ => q25_10)
noncomputable def q25_0 : Q := .seq (fun _ => q25_1) (fun _ => q25_2)
noncomputable def q25 : Unit → Q := fun _ => q25_0
theorem ok25 : FnOk 25 q25 [.cell 2 40, .tmp 3] 61 := .of f25 func25 call25 (by kernel_rfl) (by kernel_rfl) (by kernel_rfl) (by kernel_rfl)

-- parcener/cake.Value
noncomputable def r26_0 : List Oper := opsIn 0 f26
noncomputable def q26_1 : Q := .region 0 (fun _ => r26_0) [] false [0, 1, 2, 3, 4] []
noncomputable def r26_1 : List Oper := opsIn 1 f26
noncomputable def q26_4 : Q := .region 1 (fun _ => r26_1) [] false [0, 1, 2] []
noncomputable def r26_2 : List Oper := opsIn 2 f26
noncomputable def q26_6 : Q := .region 2 (fun _ => r26_2) [] false [0, 1] []
noncomputable def r26_3 : List Oper := opsIn 3 f26
noncomputable def q26_9 : Q := .region 3 (fun _ => r26_3) [] false [0, 1, 2, 3] []
noncomputable def q26_8 : Q := .seq (fun _ => q26_9) (fun _ => .ret)
noncomputable def q26_7 : Q := .cond (.tmp 20) (fun _ => q26_8) (fun _ => .skip)
noncomputable def q26_5 : Q := .seq (fun _ => q26_6) (fun _ => q26_7)
noncomputable def q26_3 : Q := .seq (fun _ => q26_4) (fun _ => q26_5)
noncomputable def r26_4 : List Oper := opsIn 4 f26
noncomputable def q26_12 : Q := .region 4 (fun _ => r26_4) [4, 10] false [0, 1, 2, 3, 4, 5, 6, 7, 8, 9, 10, 11, 12, 13, 14] []
noncomputable def r26_5 : List Oper := opsIn 5 f26
noncomputable def q26_15 : Q := .region 5 (fun _ => r26_5) [] false [0, 1, 2] []
noncomputable def q26_14 : Q := .seq (fun _ => q26_15) (fun _ => .ret)
noncomputable def q26_13 : Q := .cond (.tmp 37) (fun _ => q26_14) (fun _ => .skip)
noncomputable def q26_11 : Q := .seq (fun _ => q26_12) (fun _ => q26_13)
noncomputable def r26_6 : List Oper := opsIn 6 f26
noncomputable def q26_17 : Q := .region 6 (fun _ => r26_6) [] false [0, 1, 2] []
noncomputable def r26_7 : List Oper := opsIn 7 f26
noncomputable def q26_19 : Q := .region 7 (fun _ => r26_7) [] false [0, 1, 2] []
noncomputable def r26_8 : List Oper := opsIn 8 f26
noncomputable def q26_22 : Q := .region 8 (fun _ => r26_8) [] false [0, 1, 2, 3] []
noncomputable def r26_9 : List Oper := opsIn 9 f26
noncomputable def q26_26 : Q := .region 9 (fun _ => r26_9) [] false [0] []
noncomputable def q26_28 : Q := .cond (.tmp 45) (fun _ => .skip) (fun _ => (.exit 0))
noncomputable def r26_10 : List Oper := opsIn 10 f26
noncomputable def q26_32 : Q := .region 10 (fun _ => r26_10) [] false [0, 1, 2, 3, 4] []
noncomputable def r26_11 : List Oper := opsIn 11 f26
noncomputable def q26_34 : Q := .region 11 (fun _ => r26_11) [] false [0, 1, 2, 3, 4, 5, 6, 7, 8] []
noncomputable def r26_12 : List Oper := opsIn 12 f26
noncomputable def q26_37 : Q := .region 12 (fun _ => r26_12) [] false [0, 1, 2] []
noncomputable def r26_13 : List Oper := opsIn 13 f26
noncomputable def q26_39 : Q := .region 13 (fun _ => r26_13) [] false [0, 1] []
noncomputable def q26_38 : Q := .cond (.tmp 58) (fun _ => q26_39) (fun _ => .skip)
noncomputable def q26_36 : Q := .seq (fun _ => q26_37) (fun _ => q26_38)
noncomputable def r26_14 : List Oper := opsIn 14 f26
noncomputable def q26_42 : Q := .region 14 (fun _ => r26_14) [2] false [0, 1, 2, 3, 4, 5, 6, 7] []
noncomputable def r26_15 : List Oper := opsIn 15 f26
noncomputable def q26_46 : Q := .region 15 (fun _ => r26_15) [] false [0, 1, 2] []
noncomputable def r26_16 : List Oper := opsIn 16 f26
noncomputable def q26_48 : Q := .region 16 (fun _ => r26_16) [] false [0, 1] []
noncomputable def q26_47 : Q := .cond (.tmp 70) (fun _ => q26_48) (fun _ => .skip)
noncomputable def q26_45 : Q := .seq (fun _ => q26_46) (fun _ => q26_47)
noncomputable def q26_44 : Q := .seq (fun _ => q26_45) (fun _ => (.exit 1))
noncomputable def q26_43 : Q := .cond (.tmp 67) (fun _ => q26_44) (fun _ => .skip)
noncomputable def q26_41 : Q := .seq (fun _ => q26_42) (fun _ => q26_43)
noncomputable def r26_17 : List Oper := opsIn 17 f26
noncomputable def q26_50 : Q := .region 17 (fun _ => r26_17) [] false [0, 1, 2, 3, 4, 5, 6, 7, 8] []
noncomputable def r26_18 : List Oper := opsIn 18 f26
noncomputable def q26_53 : Q := .region 18 (fun _ => r26_18) [] false [0, 1] []
noncomputable def r26_19 : List Oper := opsIn 19 f26
noncomputable def q26_56 : Q := .region 19 (fun _ => r26_19) [] false [0, 1, 2, 3] []
noncomputable def q26_55 : Q := .seq (fun _ => q26_56) (fun _ => .ret)
noncomputable def q26_54 : Q := .cond (.tmp 79) (fun _ => q26_55) (fun _ => .skip)
noncomputable def q26_52 : Q := .seq (fun _ => q26_53) (fun _ => q26_54)
noncomputable def r26_20 : List Oper := opsIn 20 f26
noncomputable def q26_58 : Q := .region 20 (fun _ => r26_20) [] true [0, 1, 2, 3, 4, 5, 6, 7, 8, 9] [(6, ⟨true, false, []⟩)]
noncomputable def r26_21 : List Oper := opsIn 21 f26
noncomputable def q26_61 : Q := .region 21 (fun _ => r26_21) [] false [0, 1] []
noncomputable def r26_22 : List Oper := opsIn 22 f26
noncomputable def q26_64 : Q := .region 22 (fun _ => r26_22) [] false [0, 1, 2, 3] []
noncomputable def q26_63 : Q := .seq (fun _ => q26_64) (fun _ => .ret)
noncomputable def q26_62 : Q := .cond (.tmp 90) (fun _ => q26_63) (fun _ => .skip)
noncomputable def q26_60 : Q := .seq (fun _ => q26_61) (fun _ => q26_62)
noncomputable def r26_23 : List Oper := opsIn 23 f26
noncomputable def q26_67 : Q := .region 23 (fun _ => r26_23) [] false [0, 1, 2, 3, 4, 5, 6, 7] []
noncomputable def r26_24 : List Oper := opsIn 24 f26
noncomputable def q26_69 : Q := .region 24 (fun _ => r26_24) [] false [0, 1] []
noncomputable def r26_25 : List Oper := opsIn 25 f26
noncomputable def q26_72 : Q := .region 25 (fun _ => r26_25) [] false [0, 1, 2, 3] []
noncomputable def q26_71 : Q := .seq (fun _ => q26_72) (fun _ => .ret)
noncomputable def q26_70 : Q := .cond (.tmp 100) (fun _ => q26_71) (fun _ => .skip)
noncomputable def q26_68 : Q := .seq (fun _ => q26_69) (fun _ => q26_70)
noncomputable def q26_66 : Q := .seq (fun _ => q26_67) (fun _ => q26_68)
noncomputable def r26_26 : List Oper := opsIn 26 f26
noncomputable def q26_73 : Q := .region 26 (fun _ => r26_26) [] false [0, 1] []
noncomputable def q26_65 : Q := .seq (fun _ => q26_66) (fun _ => q26_73)
noncomputable def q26_59 : Q := .seq (fun _ => q26_60) (fun _ => q26_65)
noncomputable def q26_57 : Q := .seq (fun _ => q26_58) (fun _ => q26_59)
noncomputable def q26_51 : Q := .seq (fun _ => q26_52) (fun _ => q26_57)
noncomputable def q26_49 : Q := .seq (fun _ => q26_50) (fun _ => q26_51)
noncomputable def q26_40 : Q := .seq (fun _ => q26_41) (fun _ => q26_49)
noncomputable def q26_35 : Q := .seq (fun _ => q26_36) (fun _ => q26_40)
noncomputable def q26_33 : Q := .seq (fun _ => q26_34) (fun _ => q26_35)
noncomputable def q26_31 : Q := .seq (fun _ => q26_32) (fun _ => q26_33)
noncomputable def q26_30 : Q := .block 1 (fun _ => q26_31)
noncomputable def r26_27 : List Oper := opsIn 27 f26
noncomputable def q26_74 : Q := .region 27 (fun _ => r26_27) [] false [0, 1] []
noncomputable def q26_29 : Q := .seq (fun _ => q26_30) (fun _ => q26_74)
noncomputable def q26_27 : Q := .seq (fun _ => q26_28) (fun _ => q26_29)
noncomputable def q26_25 : Q := .seq (fun _ => q26_26) (fun _ => q26_27)
noncomputable def q26_24 : Q := .loop (fun _ => q26_25)
noncomputable def q26_23 : Q := .block 0 (fun _ => q26_24)
noncomputable def q26_21 : Q := .seq (fun _ => q26_22) (fun _ => q26_23)
noncomputable def r26_28 : List Oper := opsIn 28 f26
noncomputable def q26_76 : Q := .region 28 (fun _ => r26_28) [] false [0, 1, 2] []
noncomputable def q26_75 : Q := .seq (fun _ => q26_76) (fun _ => .ret)
noncomputable def q26_20 : Q := .seq (fun _ => q26_21) (fun _ => q26_75)
noncomputable def q26_18 : Q := .seq (fun _ => q26_19) (fun _ => q26_20)
noncomputable def q26_16 : Q := .seq (fun _ => q26_17) (fun _ => q26_18)
noncomputable def q26_10 : Q := .seq (fun _ => q26_11) (fun _ => q26_16)
noncomputable def q26_2 : Q := .seq (fun _ => q26_3) (fun _ => q26_10)
noncomputable def q26_0 : Q := .seq (fun _ => q26_1) (fun _ => q26_2)
noncomputable def q26 : Unit → Q := fun _ => q26_0
theorem ok26 : FnOk 26 q26 [.cell 6 43, .tmp 7] 106 := .of f26 func26 call26 (by kernel_rfl) (by kernel_rfl) (by kernel_rfl) (by kernel_rfl)

-- parcener/cake.Mark
noncomputable def r27_0 : List Oper := opsIn 0 f27
noncomputable def q27_1 : Q := .region 0 (fun _ => r27_0) [] false [0, 1, 2, 3, 4] []
noncomputable def r27_1 : List Oper := opsIn 1 f27
noncomputable def q27_4 : Q := .region 1 (fun _ => r27_1) [] false [0, 1, 2] []
noncomputable def r27_2 : List Oper := opsIn 2 f27
noncomputable def q27_6 : Q := .region 2 (fun _ => r27_2) [] false [0, 1] []
noncomputable def r27_3 : List Oper := opsIn 3 f27
noncomputable def q27_9 : Q := .region 3 (fun _ => r27_3) [] false [0, 1, 2, 3] []
noncomputable def q27_8 : Q := .seq (fun _ => q27_9) (fun _ => .ret)
noncomputable def q27_7 : Q := .cond (.tmp 15) (fun _ => q27_8) (fun _ => .skip)
noncomputable def q27_5 : Q := .seq (fun _ => q27_6) (fun _ => q27_7)
noncomputable def q27_3 : Q := .seq (fun _ => q27_4) (fun _ => q27_5)
noncomputable def r27_4 : List Oper := opsIn 4 f27
noncomputable def q27_12 : Q := .region 4 (fun _ => r27_4) [4, 9] false [0, 1, 2, 3, 4, 5, 6, 7, 8, 9, 10, 11, 12, 13] []
noncomputable def r27_5 : List Oper := opsIn 5 f27
noncomputable def q27_15 : Q := .region 5 (fun _ => r27_5) [] false [0, 1, 2] []
noncomputable def q27_14 : Q := .seq (fun _ => q27_15) (fun _ => .ret)
noncomputable def q27_13 : Q := .cond (.tmp 31) (fun _ => q27_14) (fun _ => .skip)
noncomputable def q27_11 : Q := .seq (fun _ => q27_12) (fun _ => q27_13)
noncomputable def r27_6 : List Oper := opsIn 6 f27
noncomputable def q27_18 : Q := .region 6 (fun _ => r27_6) [] false [0, 1, 2] []
noncomputable def r27_7 : List Oper := opsIn 7 f27
noncomputable def q27_21 : Q := .region 7 (fun _ => r27_7) [] false [0, 1, 2] []
noncomputable def q27_20 : Q := .seq (fun _ => q27_21) (fun _ => .ret)
noncomputable def q27_19 : Q := .cond (.tmp 35) (fun _ => q27_20) (fun _ => .skip)
noncomputable def q27_17 : Q := .seq (fun _ => q27_18) (fun _ => q27_19)
noncomputable def r27_8 : List Oper := opsIn 8 f27
noncomputable def q27_23 : Q := .region 8 (fun _ => r27_8) [] false [0] []
noncomputable def r27_9 : List Oper := opsIn 9 f27
noncomputable def q27_25 : Q := .region 9 (fun _ => r27_9) [] false [0, 1] []
noncomputable def r27_10 : List Oper := opsIn 10 f27
noncomputable def q27_27 : Q := .region 10 (fun _ => r27_10) [] false [0, 1, 2, 3, 4] [(3, ⟨false, true, []⟩)]
noncomputable def r27_11 : List Oper := opsIn 11 f27
noncomputable def q27_30 : Q := .region 11 (fun _ => r27_11) [] false [0, 1] []
noncomputable def r27_12 : List Oper := opsIn 12 f27
noncomputable def q27_32 : Q := .region 12 (fun _ => r27_12) [] false [0, 1] []
noncomputable def q27_31 : Q := .cond (.tmp 42) (fun _ => q27_32) (fun _ => .skip)
noncomputable def q27_29 : Q := .seq (fun _ => q27_30) (fun _ => q27_31)
noncomputable def r27_13 : List Oper := opsIn 13 f27
noncomputable def q27_35 : Q := .region 13 (fun _ => r27_13) [] false [0, 1] []
noncomputable def r27_14 : List Oper := opsIn 14 f27
noncomputable def q27_38 : Q := .region 14 (fun _ => r27_14) [] true [0, 1, 2, 3] [(1, ⟨false, false, [6]⟩), (2, ⟨false, false, [6]⟩)]
noncomputable def q27_37 : Q := .seq (fun _ => q27_38) (fun _ => .ret)
noncomputable def q27_36 : Q := .cond (.tmp 45) (fun _ => q27_37) (fun _ => .skip)
noncomputable def q27_34 : Q := .seq (fun _ => q27_35) (fun _ => q27_36)
noncomputable def r27_15 : List Oper := opsIn 15 f27
noncomputable def q27_40 : Q := .region 15 (fun _ => r27_15) [] false [0, 1, 2] []
noncomputable def q27_39 : Q := .seq (fun _ => q27_40) (fun _ => .ret)
noncomputable def q27_33 : Q := .seq (fun _ => q27_34) (fun _ => q27_39)
noncomputable def q27_28 : Q := .seq (fun _ => q27_29) (fun _ => q27_33)
noncomputable def q27_26 : Q := .seq (fun _ => q27_27) (fun _ => q27_28)
noncomputable def q27_24 : Q := .seq (fun _ => q27_25) (fun _ => q27_26)
noncomputable def q27_22 : Q := .seq (fun _ => q27_23) (fun _ => q27_24)
noncomputable def q27_16 : Q := .seq (fun _ => q27_17) (fun _ => q27_22)
noncomputable def q27_10 : Q := .seq (fun _ => q27_11) (fun _ => q27_16)
noncomputable def q27_2 : Q := .seq (fun _ => q27_3) (fun _ => q27_10)
noncomputable def q27_0 : Q := .seq (fun _ => q27_1) (fun _ => q27_2)
noncomputable def q27 : Unit → Q := fun _ => q27_0
theorem ok27 : FnOk 27 q27 [.cell 6 43, .tmp 7] 49 := .of f27 func27 call27 (by kernel_rfl) (by kernel_rfl) (by kernel_rfl) (by kernel_rfl)

-- parcener/parcenerref02.Same
noncomputable def r28_0 : List Oper := opsIn 0 f28
noncomputable def q28_1 : Q := .region 0 (fun _ => r28_0) [] false [0, 1, 2] []
noncomputable def r28_1 : List Oper := opsIn 1 f28
noncomputable def q28_4 : Q := .region 1 (fun _ => r28_1) [5, 14] false [0, 1, 2, 3, 4, 5, 6, 7, 8, 9, 10, 11, 12, 13, 14, 15, 16, 17, 18, 19, 20, 21, 22] []
noncomputable def r28_2 : List Oper := opsIn 2 f28
noncomputable def q28_7 : Q := .region 2 (fun _ => r28_2) [] false [0] []
noncomputable def q28_6 : Q := .seq (fun _ => q28_7) (fun _ => .ret)
noncomputable def q28_5 : Q := .cond (.tmp 29) (fun _ => q28_6) (fun _ => .skip)
noncomputable def q28_3 : Q := .seq (fun _ => q28_4) (fun _ => q28_5)
noncomputable def r28_3 : List Oper := opsIn 3 f28
noncomputable def q28_10 : Q := .region 3 (fun _ => r28_3) [] false [0] []
noncomputable def r28_4 : List Oper := opsIn 4 f28
noncomputable def q28_15 : Q := .region 4 (fun _ => r28_4) [] false [0, 1, 2, 3, 4] []
noncomputable def q28_16 : Q := .cond (.tmp 34) (fun _ => .skip) (fun _ => (.exit 0))
noncomputable def q28_14 : Q := .seq (fun _ => q28_15) (fun _ => q28_16)
noncomputable def r28_6 : List Oper := opsIn 6 f28
noncomputable def q28_20 : Q := .region 6 (fun _ => r28_6) [] true [0, 1, 2, 3, 4, 5, 6, 7, 8, 9, 10] []
noncomputable def r28_7 : List Oper := opsIn 7 f28
noncomputable def q28_23 : Q := .region 7 (fun _ => r28_7) [] false [0] []
noncomputable def q28_22 : Q := .seq (fun _ => q28_23) (fun _ => .ret)
noncomputable def q28_21 : Q := .cond (.tmp 47) (fun _ => q28_22) (fun _ => .skip)
noncomputable def q28_19 : Q := .seq (fun _ => q28_20) (fun _ => q28_21)
noncomputable def q28_18 : Q := .block 1 (fun _ => q28_19)
noncomputable def r28_5 : List Oper := opsIn 5 f28
noncomputable def q28_24 : Q := .region 5 (fun _ => r28_5) [] false [0, 1, 2] []
noncomputable def q28_17 : Q := .seq (fun _ => q28_18) (fun _ => q28_24)
noncomputable def q28_13 : Q := .seq (fun _ => q28_14) (fun _ => q28_17)
noncomputable def q28_12 : Q := .loop (fun _ => q28_13)
noncomputable def q28_11 : Q := .block 0 (fun _ => q28_12)
noncomputable def q28_9 : Q := .seq (fun _ => q28_10) (fun _ => q28_11)
noncomputable def r28_8 : List Oper := opsIn 8 f28
noncomputable def q28_27 : Q := .region 8 (fun _ => r28_8) [] false [0] []
noncomputable def r28_9 : List Oper := opsIn 9 f28
noncomputable def q28_32 : Q := .region 9 (fun _ => r28_9) [] false [0, 1, 2, 3, 4] []
noncomputable def q28_33 : Q := .cond (.tmp 52) (fun _ => .skip) (fun _ => (.exit 2))
noncomputable def q28_31 : Q := .seq (fun _ => q28_32) (fun _ => q28_33)
noncomputable def r28_11 : List Oper := opsIn 11 f28
noncomputable def q28_37 : Q := .region 11 (fun _ => r28_11) [] true [0, 1, 2, 3, 4, 5, 6, 7, 8, 9, 10] []
noncomputable def r28_12 : List Oper := opsIn 12 f28
noncomputable def q28_40 : Q := .region 12 (fun _ => r28_12) [] false [0] []
noncomputable def q28_39 : Q := .seq (fun _ => q28_40) (fun _ => .ret)
noncomputable def q28_38 : Q := .cond (.tmp 65) (fun _ => q28_39) (fun _ => .skip)
noncomputable def q28_36 : Q := .seq (fun _ => q28_37) (fun _ => q28_38)
noncomputable def q28_35 : Q := .block 3 (fun _ => q28_36)
noncomputable def r28_10 : List Oper := opsIn 10 f28
noncomputable def q28_41 : Q := .region 10 (fun _ => r28_10) [] false [0, 1, 2] []
noncomputable def q28_34 : Q := .seq (fun _ => q28_35) (fun _ => q28_41)
noncomputable def q28_30 : Q := .seq (fun _ => q28_31) (fun _ => q28_34)
noncomputable def q28_29 : Q := .loop (fun _ => q28_30)
noncomputable def q28_28 : Q := .block 2 (fun _ => q28_29)
noncomputable def q28_26 : Q := .seq (fun _ => q28_27) (fun _ => q28_28)
noncomputable def r28_13 : List Oper := opsIn 13 f28
noncomputable def q28_43 : Q := .region 13 (fun _ => r28_13) [] false [0] []
noncomputable def q28_42 : Q := .seq (fun _ => q28_43) (fun _ => .ret)
noncomputable def q28_25 : Q := .seq (fun _ => q28_26) (fun _ => q28_42)
noncomputable def q28_8 : Q := .seq (fun _ => q28_9) (fun _ => q28_25)
noncomputable def q28_2 : Q := .seq (fun _ => q28_3) (fun _ => q28_8)
noncomputable def q28_0 : Q := .seq (fun _ => q28_1) (fun _ => q28_2)
noncomputable def q28 : Unit → Q := fun _ => q28_0
theorem ok28 : FnOk 28 q28 [.tmp 4] 66 := .of f28 func28 call28 (by kernel_rfl) (by kernel_rfl) (by kernel_rfl) (by kernel_rfl)

-- parcener/cake.Check
noncomputable def r29_0 : List Oper := opsIn 0 f29
noncomputable def q29_1 : Q := .region 0 (fun _ => r29_0) [] false [0, 1] []
noncomputable def r29_1 : List Oper := opsIn 1 f29
noncomputable def q29_3 : Q := .region 1 (fun _ => r29_1) [] false [0, 1, 2, 3] []
noncomputable def r29_2 : List Oper := opsIn 2 f29
noncomputable def q29_6 : Q := .region 2 (fun _ => r29_2) [3] false [0, 1, 2, 3, 4, 5, 6] []
noncomputable def r29_3 : List Oper := opsIn 3 f29
noncomputable def q29_9 : Q := .region 3 (fun _ => r29_3) [] false [0] []
noncomputable def q29_8 : Q := .seq (fun _ => q29_9) (fun _ => .ret)
noncomputable def q29_7 : Q := .cond (.tmp 14) (fun _ => q29_8) (fun _ => .skip)
noncomputable def q29_5 : Q := .seq (fun _ => q29_6) (fun _ => q29_7)
noncomputable def r29_4 : List Oper := opsIn 4 f29
noncomputable def q29_12 : Q := .region 4 (fun _ => r29_4) [3, 7, 15, 22] true [0, 1, 2, 3, 4, 5, 6, 7, 8, 9, 10, 11, 12, 13, 14, 15, 16, 17, 18, 19, 20, 21, 22, 23, 24, 25, 26, 27, 28, 29, 30, 31, 32] []
noncomputable def r29_5 : List Oper := opsIn 5 f29
noncomputable def q29_15 : Q := .region 5 (fun _ => r29_5) [] false [0] []
noncomputable def q29_14 : Q := .seq (fun _ => q29_15) (fun _ => .ret)
noncomputable def q29_13 : Q := .cond (.tmp 47) (fun _ => q29_14) (fun _ => .skip)
noncomputable def q29_11 : Q := .seq (fun _ => q29_12) (fun _ => q29_13)
noncomputable def r29_6 : List Oper := opsIn 6 f29
noncomputable def q29_18 : Q := .region 6 (fun _ => r29_6) [] false [0, 1, 2] []
noncomputable def r29_7 : List Oper := opsIn 7 f29
noncomputable def q29_22 : Q := .region 7 (fun _ => r29_7) [] false [0] []
noncomputable def q29_24 : Q := .cond (.tmp 51) (fun _ => .skip) (fun _ => (.exit 0))
noncomputable def r29_8 : List Oper := opsIn 8 f29
noncomputable def q29_28 : Q := .region 8 (fun _ => r29_8) [] false [0, 1] []
noncomputable def r29_9 : List Oper := opsIn 9 f29
noncomputable def q29_30 : Q := .region 9 (fun _ => r29_9) [] true [0, 1, 2, 3, 4, 5, 6, 7, 8, 9, 10, 11] []
noncomputable def r29_10 : List Oper := opsIn 10 f29
noncomputable def q29_33 : Q := .region 10 (fun _ => r29_10) [] false [0] []
noncomputable def q29_32 : Q := .seq (fun _ => q29_33) (fun _ => .ret)
noncomputable def q29_31 : Q := .cond (.tmp 64) (fun _ => q29_32) (fun _ => .skip)
noncomputable def q29_29 : Q := .seq (fun _ => q29_30) (fun _ => q29_31)
noncomputable def q29_27 : Q := .seq (fun _ => q29_28) (fun _ => q29_29)
noncomputable def q29_26 : Q := .block 1 (fun _ => q29_27)
noncomputable def r29_11 : List Oper := opsIn 11 f29
noncomputable def q29_34 : Q := .region 11 (fun _ => r29_11) [] false [0, 1] []
noncomputable def q29_25 : Q := .seq (fun _ => q29_26) (fun _ => q29_34)
noncomputable def q29_23 : Q := .seq (fun _ => q29_24) (fun _ => q29_25)
noncomputable def q29_21 : Q := .seq (fun _ => q29_22) (fun _ => q29_23)
noncomputable def q29_20 : Q := .loop (fun _ => q29_21)
noncomputable def q29_19 : Q := .block 0 (fun _ => q29_20)
noncomputable def q29_17 : Q := .seq (fun _ => q29_18) (fun _ => q29_19)
noncomputable def r29_12 : List Oper := opsIn 12 f29
noncomputable def q29_37 : Q := .region 12 (fun _ => r29_12) [4, 10] false [0, 1, 2, 3, 4, 5, 6, 7, 8, 9, 10, 11, 12, 13, 14, 15] []
noncomputable def r29_13 : List Oper := opsIn 13 f29
noncomputable def q29_40 : Q := .region 13 (fun _ => r29_13) [] false [0] []
noncomputable def q29_39 : Q := .seq (fun _ => q29_40) (fun _ => .ret)
noncomputable def q29_38 : Q := .cond (.tmp 81) (fun _ => q29_39) (fun _ => .skip)
noncomputable def q29_36 : Q := .seq (fun _ => q29_37) (fun _ => q29_38)
noncomputable def r29_14 : List Oper := opsIn 14 f29
noncomputable def q29_42 : Q := .region 14 (fun _ => r29_14) [] false [0] []
noncomputable def q29_41 : Q := .seq (fun _ => q29_42) (fun _ => .ret)
noncomputable def q29_35 : Q := .seq (fun _ => q29_36) (fun _ => q29_41)
noncomputable def q29_16 : Q := .seq (fun _ => q29_17) (fun _ => q29_35)
noncomputable def q29_10 : Q := .seq (fun _ => q29_11) (fun _ => q29_16)
noncomputable def q29_4 : Q := .seq (fun _ => q29_5) (fun _ => q29_10)
noncomputable def q29_2 : Q := .seq (fun _ => q29_3) (fun _ => q29_4)
noncomputable def q29_0 : Q := .seq (fun _ => q29_1) (fun _ => q29_2)
noncomputable def q29 : Unit → Q := fun _ => q29_0
theorem ok29 : FnOk 29 q29 [.tmp 2] 82 := .of f29 func29 call29 (by kernel_rfl) (by kernel_rfl) (by kernel_rfl) (by kernel_rfl)

-- parcener/cake.Same
noncomputable def r30_0 : List Oper := opsIn 0 f30
noncomputable def q30_1 : Q := .region 0 (fun _ => r30_0) [] false [0, 1, 2] []
noncomputable def r30_1 : List Oper := opsIn 1 f30
noncomputable def q30_3 : Q := .region 1 (fun _ => r30_1) [5, 12] false [0, 1, 2, 3, 4, 5, 6, 7, 8, 9, 10, 11, 12, 13, 14, 15, 16, 17, 18, 19] []
noncomputable def q30_2 : Q := .seq (fun _ => q30_3) (fun _ => .ret)
noncomputable def q30_0 : Q := .seq (fun _ => q30_1) (fun _ => q30_2)
noncomputable def q30 : Unit → Q := fun _ => q30_0
theorem ok30 : FnOk 30 q30 [.tmp 4] 24 := .of f30 func30 call30 (by kernel_rfl) (by kernel_rfl) (by kernel_rfl) (by kernel_rfl)

-- parcener/parcenerlaw02.alive
noncomputable def r31_0 : List Oper := opsIn 0 f31
noncomputable def q31_1 : Q := .region 0 (fun _ => r31_0) [] false [0] []
noncomputable def r31_1 : List Oper := opsIn 1 f31
noncomputable def q31_3 : Q := .region 1 (fun _ => r31_1) [] false [0, 1, 2, 3, 4, 5, 6] []
noncomputable def r31_2 : List Oper := opsIn 2 f31
noncomputable def q31_5 : Q := .region 2 (fun _ => r31_2) [] false [0, 1, 2, 3, 4, 5, 6, 7, 8, 9] []
noncomputable def r31_3 : List Oper := opsIn 3 f31
noncomputable def q31_7 : Q := .region 3 (fun _ => r31_3) [] false [0, 1, 2, 3, 4, 5, 6, 7, 8, 9] []
noncomputable def r31_4 : List Oper := opsIn 4 f31
noncomputable def q31_9 : Q := .region 4 (fun _ => r31_4) [] false [0, 1, 2, 3, 4, 5, 6, 7, 8, 9] []
noncomputable def r31_5 : List Oper := opsIn 5 f31
noncomputable def q31_11 : Q := .region 5 (fun _ => r31_5) [] false [0, 1, 2, 3, 4, 5, 6, 7, 8, 9] []
noncomputable def r31_6 : List Oper := opsIn 6 f31
noncomputable def q31_13 : Q := .region 6 (fun _ => r31_6) [] false [0, 1, 2, 3, 4, 5, 6, 7, 8, 9] []
noncomputable def r31_7 : List Oper := opsIn 7 f31
noncomputable def q31_15 : Q := .region 7 (fun _ => r31_7) [2, 6, 10, 15, 19, 24, 28, 33, 37, 41] true [0, 1, 2, 3, 4, 5, 6, 7, 8, 9, 10, 11, 12, 13, 14, 15, 16, 17, 18, 19, 20, 21, 22, 23, 24, 25, 26, 27, 28, 29, 30, 31, 32, 33, 34, 35, 36, 37, 38, 39, 40, 41, 42, 43, 44, 45, 46] []
noncomputable def q31_14 : Q := .seq (fun _ => q31_15) (fun _ => .ret)
noncomputable def q31_12 : Q := .seq (fun _ => q31_13) (fun _ => q31_14)
noncomputable def q31_10 : Q := .seq (fun _ => q31_11) (fun _ => q31_12)
noncomputable def q31_8 : Q := .seq (fun _ => q31_9) (fun _ => q31_10)
noncomputable def q31_6 : Q := .seq (fun _ => q31_7) (fun _ => q31_8)
noncomputable def q31_4 : Q := .seq (fun _ => q31_5) (fun _ => q31_6)
noncomputable def q31_2 : Q := .seq (fun _ => q31_3) (fun _ => q31_4)
noncomputable def q31_0 : Q := .seq (fun _ => q31_1) (fun _ => q31_2)
noncomputable def q31 : Unit → Q := fun _ => q31_0
theorem ok31 : FnOk 31 q31 [.tmp 0] 99 := .of f31 func31 call31 (by kernel_rfl) (by kernel_rfl) (by kernel_rfl) (by kernel_rfl)

-- parcener/parcenerlaw04.two
noncomputable def r32_0 : List Oper := opsIn 0 f32
noncomputable def q32_1 : Q := .region 0 (fun _ => r32_0) [] false [0] []
noncomputable def r32_1 : List Oper := opsIn 1 f32
noncomputable def q32_3 : Q := .region 1 (fun _ => r32_1) [] false [0, 1, 2, 3, 4, 5, 6, 7] []
noncomputable def q32_2 : Q := .seq (fun _ => q32_3) (fun _ => .ret)
noncomputable def q32_0 : Q := .seq (fun _ => q32_1) (fun _ => q32_2)
noncomputable def q32 : Unit → Q := fun _ => q32_0
theorem ok32 : FnOk 32 q32 [.tmp 0] 8 := .of f32 func32 call32 (by kernel_rfl) (by kernel_rfl) (by kernel_rfl) (by kernel_rfl)

-- parcener/ask.Value
noncomputable def r33_0 : List Oper := opsIn 0 f33
noncomputable def q33_1 : Q := .region 0 (fun _ => r33_0) [] false [0, 1, 2, 3, 4, 5] []
noncomputable def r33_1 : List Oper := opsIn 1 f33
noncomputable def q33_3 : Q := .region 1 (fun _ => r33_1) [] false [0, 1, 2, 3] []
noncomputable def r33_2 : List Oper := opsIn 2 f33
noncomputable def q33_5 : Q := .region 2 (fun _ => r33_2) [] false [0, 1, 2, 3, 4, 5, 6, 7, 8, 9, 10, 11, 12, 13] []
noncomputable def q33_4 : Q := .seq (fun _ => q33_5) (fun _ => .ret)
noncomputable def q33_2 : Q := .seq (fun _ => q33_3) (fun _ => q33_4)
noncomputable def q33_0 : Q := .seq (fun _ => q33_1) (fun _ => q33_2)
noncomputable def q33 : Unit → Q := fun _ => q33_0
theorem ok33 : FnOk 33 q33 [.cell 8 56, .cell 9 43, .tmp 10] 25 := .of f33 func33 call33 (by kernel_rfl) (by kernel_rfl) (by kernel_rfl) (by kernel_rfl)

-- parcener/parcenerlaw04.of
noncomputable def r34_0 : List Oper := opsIn 0 f34
noncomputable def q34_1 : Q := .region 0 (fun _ => r34_0) [] false [0] []
noncomputable def r34_1 : List Oper := opsIn 1 f34
noncomputable def q34_3 : Q := .region 1 (fun _ => r34_1) [] false [0, 1, 2] []
noncomputable def q34_2 : Q := .seq (fun _ => q34_3) (fun _ => .ret)
noncomputable def q34_0 : Q := .seq (fun _ => q34_1) (fun _ => q34_2)
noncomputable def q34 : Unit → Q := fun _ => q34_0
theorem ok34 : FnOk 34 q34 [.cell 2 43] 5 := .of f34 func34 call34 (by kernel_rfl) (by kernel_rfl) (by kernel_rfl) (by kernel_rfl)

-- parcener/ask.Mark
noncomputable def r35_0 : List Oper := opsIn 0 f35
noncomputable def q35_1 : Q := .region 0 (fun _ => r35_0) [] false [0, 1, 2, 3, 4, 5] []
noncomputable def r35_1 : List Oper := opsIn 1 f35
noncomputable def q35_3 : Q := .region 1 (fun _ => r35_1) [] false [0, 1, 2, 3] []
noncomputable def r35_2 : List Oper := opsIn 2 f35
noncomputable def q35_5 : Q := .region 2 (fun _ => r35_2) [] false [0, 1, 2, 3, 4, 5, 6, 7, 8, 9, 10, 11, 12, 13] []
noncomputable def q35_4 : Q := .seq (fun _ => q35_5) (fun _ => .ret)
noncomputable def q35_2 : Q := .seq (fun _ => q35_3) (fun _ => q35_4)
noncomputable def q35_0 : Q := .seq (fun _ => q35_1) (fun _ => q35_2)
noncomputable def q35 : Unit → Q := fun _ => q35_0
theorem ok35 : FnOk 35 q35 [.cell 8 56, .cell 9 43, .tmp 10] 25 := .of f35 func35 call35 (by kernel_rfl) (by kernel_rfl) (by kernel_rfl) (by kernel_rfl)

end Go.SX
