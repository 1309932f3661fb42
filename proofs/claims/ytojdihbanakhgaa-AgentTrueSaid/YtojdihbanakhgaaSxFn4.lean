/- The functions of the program: the frame of their code, by numbers. Printed by genfn.py. -/
import Derived.Test.YtojdihbanakhgaaCoreB
import Derived.Test.YtojdihbanakhgaaProg
import Derived.KernelRfl
namespace Go.SX
open Go.Proofs.Try

-- parcener/ratio.Div
noncomputable def r82_0 : List Oper := opsIn 0 f82
noncomputable def q82_1 : Q := .region 0 (fun _ => r82_0) [] false [0, 1, 2, 3] []
noncomputable def r82_1 : List Oper := opsIn 1 f82
noncomputable def q82_4 : Q := .region 1 (fun _ => r82_1) [] false [0, 1, 2, 3] []
noncomputable def r82_2 : List Oper := opsIn 2 f82
noncomputable def q82_6 : Q := .region 2 (fun _ => r82_2) [] false [0, 1] []
noncomputable def r82_3 : List Oper := opsIn 3 f82
noncomputable def q82_9 : Q := .region 3 (fun _ => r82_3) [] false [0, 1, 2, 3] []
noncomputable def q82_8 : Q := .seq (fun _ => q82_9) (fun _ => .ret)
noncomputable def q82_7 : Q := .cond (.tmp 11) (fun _ => q82_8) (fun _ => .skip)
noncomputable def q82_5 : Q := .seq (fun _ => q82_6) (fun _ => q82_7)
noncomputable def q82_3 : Q := .seq (fun _ => q82_4) (fun _ => q82_5)
noncomputable def r82_4 : List Oper := opsIn 4 f82
noncomputable def q82_13 : Q := .region 4 (fun _ => r82_4) [] false [0, 1, 2, 3] []
noncomputable def r82_5 : List Oper := opsIn 5 f82
noncomputable def q82_16 : Q := .region 5 (fun _ => r82_5) [] false [0, 1, 2] []
noncomputable def q82_15 : Q := .seq (fun _ => q82_16) (fun _ => .ret)
noncomputable def r82_6 : List Oper := opsIn 6 f82
noncomputable def q82_18 : Q := .region 6 (fun _ => r82_6) [] false [0, 1, 2, 3] []
noncomputable def r82_7 : List Oper := opsIn 7 f82
noncomputable def q82_21 : Q := .region 7 (fun _ => r82_7) [] false [0, 1, 2, 3, 4, 5, 6, 7, 8, 9, 10, 11, 12] []
noncomputable def q82_20 : Q := .seq (fun _ => q82_21) (fun _ => .ret)
noncomputable def q82_19 : Q := .cond (.tmp 19) (fun _ => q82_20) (fun _ => .skip)
noncomputable def q82_17 : Q := .seq (fun _ => q82_18) (fun _ => q82_19)
noncomputable def q82_14 : Q := .cond (.tmp 14) (fun _ => q82_15) (fun _ => q82_17)
noncomputable def q82_12 : Q := .seq (fun _ => q82_13) (fun _ => q82_14)
noncomputable def q82_11 : Q := .block 0 (fun _ => q82_12)
noncomputable def r82_8 : List Oper := opsIn 8 f82
noncomputable def q82_23 : Q := .region 8 (fun _ => r82_8) [] false [0, 1, 2, 3, 4, 5, 6, 7, 8, 9, 10] []
noncomputable def q82_22 : Q := .seq (fun _ => q82_23) (fun _ => .ret)
noncomputable def q82_10 : Q := .seq (fun _ => q82_11) (fun _ => q82_22)
noncomputable def q82_2 : Q := .seq (fun _ => q82_3) (fun _ => q82_10)
noncomputable def q82_0 : Q := .seq (fun _ => q82_1) (fun _ => q82_2)
noncomputable def q82 : Unit → Q := fun _ => q82_0
theorem ok82 : FnOk 82 q82 [.cell 4 43, .tmp 5] 43 := .of f82 func82 call82 (by kernel_rfl) (by kernel_rfl) (by kernel_rfl) (by kernel_rfl)

-- slices.Min[[]int,int]
noncomputable def r83_0 : List Oper := opsIn 0 f83
noncomputable def q83_1 : Q := .region 0 (fun _ => r83_0) [] false [0] []
noncomputable def r83_1 : List Oper := opsIn 1 f83
noncomputable def q83_4 : Q := .region 1 (fun _ => r83_1) [] false [0, 1, 2] []
noncomputable def r83_2 : List Oper := opsIn 2 f83
noncomputable def q83_6 : Q := .region 2 (fun _ => r83_2) [] false [0, 1] []
noncomputable def q83_5 : Q := .cond (.tmp 7) (fun _ => q83_6) (fun _ => .skip)
noncomputable def q83_3 : Q := .seq (fun _ => q83_4) (fun _ => q83_5)
noncomputable def r83_3 : List Oper := opsIn 3 f83
noncomputable def q83_8 : Q := .region 3 (fun _ => r83_3) [] false [0, 1, 2, 3] []
noncomputable def r83_4 : List Oper := opsIn 4 f83
noncomputable def q83_11 : Q := .region 4 (fun _ => r83_4) [] false [0] []
noncomputable def r83_5 : List Oper := opsIn 5 f83
noncomputable def q83_16 : Q := .region 5 (fun _ => r83_5) [] false [0, 1, 2, 3] []
noncomputable def q83_17 : Q := .cond (.tmp 15) (fun _ => .skip) (fun _ => (.exit 0))
noncomputable def q83_15 : Q := .seq (fun _ => q83_16) (fun _ => q83_17)
noncomputable def r83_7 : List Oper := opsIn 7 f83
noncomputable def q83_20 : Q := .region 7 (fun _ => r83_7) [] false [0, 1, 2, 3, 4, 5, 6] []
noncomputable def q83_19 : Q := .block 1 (fun _ => q83_20)
noncomputable def r83_6 : List Oper := opsIn 6 f83
noncomputable def q83_21 : Q := .region 6 (fun _ => r83_6) [] false [0, 1, 2] []
noncomputable def q83_18 : Q := .seq (fun _ => q83_19) (fun _ => q83_21)
noncomputable def q83_14 : Q := .seq (fun _ => q83_15) (fun _ => q83_18)
noncomputable def q83_13 : Q := .loop (fun _ => q83_14)
noncomputable def q83_12 : Q := .block 0 (fun _ => q83_13)
noncomputable def q83_10 : Q := .seq (fun _ => q83_11) (fun _ => q83_12)
noncomputable def r83_8 : List Oper := opsIn 8 f83
noncomputable def q83_23 : Q := .region 8 (fun _ => r83_8) [] false [0, 1] []
noncomputable def q83_22 : Q := .seq (fun _ => q83_23) (fun _ => .ret)
noncomputable def q83_9 : Q := .seq (fun _ => q83_10) (fun _ => q83_22)
noncomputable def q83_7 : Q := .seq (fun _ => q83_8) (fun _ => q83_9)
noncomputable def q83_2 : Q := .seq (fun _ => q83_3) (fun _ => q83_7)
noncomputable def q83_0 : Q := .seq (fun _ => q83_1) (fun _ => q83_2)
noncomputable def q83 : Unit → Q := fun _ => q83_0
theorem ok83 : FnOk 83 q83 [.tmp 2] 25 := .of f83 func83 call83 (by kernel_rfl) (by kernel_rfl) (by kernel_rfl) (by kernel_rfl)

-- slices.Max[[]int,int]
noncomputable def r84_0 : List Oper := opsIn 0 f84
noncomputable def q84_1 : Q := .region 0 (fun _ => r84_0) [] false [0] []
noncomputable def r84_1 : List Oper := opsIn 1 f84
noncomputable def q84_4 : Q := .region 1 (fun _ => r84_1) [] false [0, 1, 2] []
noncomputable def r84_2 : List Oper := opsIn 2 f84
noncomputable def q84_6 : Q := .region 2 (fun _ => r84_2) [] false [0, 1] []
noncomputable def q84_5 : Q := .cond (.tmp 7) (fun _ => q84_6) (fun _ => .skip)
noncomputable def q84_3 : Q := .seq (fun _ => q84_4) (fun _ => q84_5)
noncomputable def r84_3 : List Oper := opsIn 3 f84
noncomputable def q84_8 : Q := .region 3 (fun _ => r84_3) [] false [0, 1, 2, 3] []
noncomputable def r84_4 : List Oper := opsIn 4 f84
noncomputable def q84_11 : Q := .region 4 (fun _ => r84_4) [] false [0] []
noncomputable def r84_5 : List Oper := opsIn 5 f84
noncomputable def q84_16 : Q := .region 5 (fun _ => r84_5) [] false [0, 1, 2, 3] []
noncomputable def q84_17 : Q := .cond (.tmp 15) (fun _ => .skip) (fun _ => (.exit 0))
noncomputable def q84_15 : Q := .seq (fun _ => q84_16) (fun _ => q84_17)
noncomputable def r84_7 : List Oper := opsIn 7 f84
noncomputable def q84_20 : Q := .region 7 (fun _ => r84_7) [] false [0, 1, 2, 3, 4, 5, 6] []
noncomputable def q84_19 : Q := .block 1 (fun _ => q84_20)
noncomputable def r84_6 : List Oper := opsIn 6 f84
noncomputable def q84_21 : Q := .region 6 (fun _ => r84_6) [] false [0, 1, 2] []
noncomputable def q84_18 : Q := .seq (fun _ => q84_19) (fun _ => q84_21)
noncomputable def q84_14 : Q := .seq (fun _ => q84_15) (fun _ => q84_18)
noncomputable def q84_13 : Q := .loop (fun _ => q84_14)
noncomputable def q84_12 : Q := .block 0 (fun _ => q84_13)
noncomputable def q84_10 : Q := .seq (fun _ => q84_11) (fun _ => q84_12)
noncomputable def r84_8 : List Oper := opsIn 8 f84
noncomputable def q84_23 : Q := .region 8 (fun _ => r84_8) [] false [0, 1] []
noncomputable def q84_22 : Q := .seq (fun _ => q84_23) (fun _ => .ret)
noncomputable def q84_9 : Q := .seq (fun _ => q84_10) (fun _ => q84_22)
noncomputable def q84_7 : Q := .seq (fun _ => q84_8) (fun _ => q84_9)
noncomputable def q84_2 : Q := .seq (fun _ => q84_3) (fun _ => q84_7)
noncomputable def q84_0 : Q := .seq (fun _ => q84_1) (fun _ => q84_2)
noncomputable def q84 : Unit → Q := fun _ => q84_0
theorem ok84 : FnOk 84 q84 [.tmp 2] 25 := .of f84 func84 call84 (by kernel_rfl) (by kernel_rfl) (by kernel_rfl) (by kernel_rfl)

-- slices.Equal[[]int,int]
noncomputable def r85_0 : List Oper := opsIn 0 f85
noncomputable def q85_1 : Q := .region 0 (fun _ => r85_0) [] false [0] []
noncomputable def r85_1 : List Oper := opsIn 1 f85
noncomputable def q85_4 : Q := .region 1 (fun _ => r85_1) [] false [0, 1, 2, 3, 4] []
noncomputable def r85_2 : List Oper := opsIn 2 f85
noncomputable def q85_7 : Q := .region 2 (fun _ => r85_2) [] false [0] []
noncomputable def q85_6 : Q := .seq (fun _ => q85_7) (fun _ => .ret)
noncomputable def q85_5 : Q := .cond (.tmp 10) (fun _ => q85_6) (fun _ => .skip)
noncomputable def q85_3 : Q := .seq (fun _ => q85_4) (fun _ => q85_5)
noncomputable def r85_3 : List Oper := opsIn 3 f85
noncomputable def q85_10 : Q := .region 3 (fun _ => r85_3) [] false [0, 1, 2] []
noncomputable def r85_4 : List Oper := opsIn 4 f85
noncomputable def q85_14 : Q := .region 4 (fun _ => r85_4) [] false [0] []
noncomputable def q85_16 : Q := .cond (.tmp 14) (fun _ => .skip) (fun _ => (.exit 0))
noncomputable def r85_5 : List Oper := opsIn 5 f85
noncomputable def q85_20 : Q := .region 5 (fun _ => r85_5) [] false [0, 1] []
noncomputable def r85_6 : List Oper := opsIn 6 f85
noncomputable def q85_22 : Q := .region 6 (fun _ => r85_6) [] true [0, 1, 2, 3, 4, 5, 6, 7, 8] []
noncomputable def r85_7 : List Oper := opsIn 7 f85
noncomputable def q85_25 : Q := .region 7 (fun _ => r85_7) [] false [0] []
noncomputable def q85_24 : Q := .seq (fun _ => q85_25) (fun _ => .ret)
noncomputable def q85_23 : Q := .cond (.tmp 24) (fun _ => q85_24) (fun _ => .skip)
noncomputable def q85_21 : Q := .seq (fun _ => q85_22) (fun _ => q85_23)
noncomputable def q85_19 : Q := .seq (fun _ => q85_20) (fun _ => q85_21)
noncomputable def q85_18 : Q := .block 1 (fun _ => q85_19)
noncomputable def r85_8 : List Oper := opsIn 8 f85
noncomputable def q85_26 : Q := .region 8 (fun _ => r85_8) [] false [0, 1] []
noncomputable def q85_17 : Q := .seq (fun _ => q85_18) (fun _ => q85_26)
noncomputable def q85_15 : Q := .seq (fun _ => q85_16) (fun _ => q85_17)
noncomputable def q85_13 : Q := .seq (fun _ => q85_14) (fun _ => q85_15)
noncomputable def q85_12 : Q := .loop (fun _ => q85_13)
noncomputable def q85_11 : Q := .block 0 (fun _ => q85_12)
noncomputable def q85_9 : Q := .seq (fun _ => q85_10) (fun _ => q85_11)
noncomputable def r85_9 : List Oper := opsIn 9 f85
noncomputable def q85_28 : Q := .region 9 (fun _ => r85_9) [] false [0] []
noncomputable def q85_27 : Q := .seq (fun _ => q85_28) (fun _ => .ret)
noncomputable def q85_8 : Q := .seq (fun _ => q85_9) (fun _ => q85_27)
noncomputable def q85_2 : Q := .seq (fun _ => q85_3) (fun _ => q85_8)
noncomputable def q85_0 : Q := .seq (fun _ => q85_1) (fun _ => q85_2)
noncomputable def q85 : Unit → Q := fun _ => q85_0
theorem ok85 : FnOk 85 q85 [.tmp 4] 26 := .of f85 func85 call85 (by kernel_rfl) (by kernel_rfl) (by kernel_rfl) (by kernel_rfl)

-- parcener/cake.Total
noncomputable def r86_0 : List Oper := opsIn 0 f86
noncomputable def q86_1 : Q := .region 0 (fun _ => r86_0) [] false [0, 1, 2] []
noncomputable def r86_1 : List Oper := opsIn 1 f86
noncomputable def q86_4 : Q := .region 1 (fun _ => r86_1) [] false [0, 1, 2] []
noncomputable def r86_2 : List Oper := opsIn 2 f86
noncomputable def q86_6 : Q := .region 2 (fun _ => r86_2) [] false [0, 1] []
noncomputable def r86_3 : List Oper := opsIn 3 f86
noncomputable def q86_9 : Q := .region 3 (fun _ => r86_3) [] false [0, 1, 2] []
noncomputable def q86_8 : Q := .seq (fun _ => q86_9) (fun _ => .ret)
noncomputable def q86_7 : Q := .cond (.tmp 11) (fun _ => q86_8) (fun _ => .skip)
noncomputable def q86_5 : Q := .seq (fun _ => q86_6) (fun _ => q86_7)
noncomputable def q86_3 : Q := .seq (fun _ => q86_4) (fun _ => q86_5)
noncomputable def r86_4 : List Oper := opsIn 4 f86
noncomputable def q86_11 : Q := .region 4 (fun _ => r86_4) [] false [0] []
noncomputable def r86_5 : List Oper := opsIn 5 f86
noncomputable def q86_14 : Q := .region 5 (fun _ => r86_5) [] false [0, 1, 2, 3] []
noncomputable def r86_6 : List Oper := opsIn 6 f86
noncomputable def q86_18 : Q := .region 6 (fun _ => r86_6) [] false [0] []
noncomputable def q86_20 : Q := .cond (.tmp 17) (fun _ => .skip) (fun _ => (.exit 0))
noncomputable def r86_7 : List Oper := opsIn 7 f86
noncomputable def q86_24 : Q := .region 7 (fun _ => r86_7) [] false [0, 1, 2, 3, 4] []
noncomputable def r86_8 : List Oper := opsIn 8 f86
noncomputable def q86_25 : Q := .region 8 (fun _ => r86_8) [] true [0, 1, 2, 3, 4, 5, 6, 7, 8, 9, 10, 11, 12, 13, 14, 15, 16] []
noncomputable def q86_23 : Q := .seq (fun _ => q86_24) (fun _ => q86_25)
noncomputable def q86_22 : Q := .block 1 (fun _ => q86_23)
noncomputable def r86_9 : List Oper := opsIn 9 f86
noncomputable def q86_26 : Q := .region 9 (fun _ => r86_9) [] false [0, 1] []
noncomputable def q86_21 : Q := .seq (fun _ => q86_22) (fun _ => q86_26)
noncomputable def q86_19 : Q := .seq (fun _ => q86_20) (fun _ => q86_21)
noncomputable def q86_17 : Q := .seq (fun _ => q86_18) (fun _ => q86_19)
noncomputable def q86_16 : Q := .loop (fun _ => q86_17)
noncomputable def q86_15 : Q := .block 0 (fun _ => q86_16)
noncomputable def q86_13 : Q := .seq (fun _ => q86_14) (fun _ => q86_15)
noncomputable def r86_10 : List Oper := opsIn 10 f86
noncomputable def q86_28 : Q := .region 10 (fun _ => r86_10) [] false [0, 1, 2] []
noncomputable def q86_27 : Q := .seq (fun _ => q86_28) (fun _ => .ret)
noncomputable def q86_12 : Q := .seq (fun _ => q86_13) (fun _ => q86_27)
noncomputable def q86_10 : Q := .seq (fun _ => q86_11) (fun _ => q86_12)
noncomputable def q86_2 : Q := .seq (fun _ => q86_3) (fun _ => q86_10)
noncomputable def q86_0 : Q := .seq (fun _ => q86_1) (fun _ => q86_2)
noncomputable def q86 : Unit → Q := fun _ => q86_0
theorem ok86 : FnOk 86 q86 [.tmp 2, .tmp 3] 39 := .of f86 func86 call86 (by kernel_rfl) (by kernel_rfl) (by kernel_rfl) (by kernel_rfl)

-- (parcener/ask.office).ask
noncomputable def r87_0 : List Oper := opsIn 0 f87
noncomputable def q87_1 : Q := .region 0 (fun _ => r87_0) [] false [0, 1, 2, 3, 4] []
noncomputable def r87_1 : List Oper := opsIn 1 f87
noncomputable def q87_4 : Q := .region 1 (fun _ => r87_1) [] false [0, 1, 2, 3] []
noncomputable def r87_2 : List Oper := opsIn 2 f87
noncomputable def q87_6 : Q := .region 2 (fun _ => r87_2) [] false [0, 1] []
noncomputable def r87_3 : List Oper := opsIn 3 f87
noncomputable def q87_9 : Q := .region 3 (fun _ => r87_3) [] false [0, 1, 2, 3, 4, 5] []
noncomputable def q87_8 : Q := .seq (fun _ => q87_9) (fun _ => .ret)
noncomputable def q87_7 : Q := .cond (.tmp 17) (fun _ => q87_8) (fun _ => .skip)
noncomputable def q87_5 : Q := .seq (fun _ => q87_6) (fun _ => q87_7)
noncomputable def q87_3 : Q := .seq (fun _ => q87_4) (fun _ => q87_5)
noncomputable def r87_4 : List Oper := opsIn 4 f87
noncomputable def q87_12 : Q := .region 4 (fun _ => r87_4) [] false [0, 1, 2, 3, 4] []
noncomputable def r87_5 : List Oper := opsIn 5 f87
noncomputable def q87_15 : Q := .region 5 (fun _ => r87_5) [] false [0, 1, 2, 3, 4] []
noncomputable def q87_14 : Q := .seq (fun _ => q87_15) (fun _ => .ret)
noncomputable def q87_13 : Q := .cond (.tmp 25) (fun _ => q87_14) (fun _ => .skip)
noncomputable def q87_11 : Q := .seq (fun _ => q87_12) (fun _ => q87_13)
noncomputable def r87_6 : List Oper := opsIn 6 f87
noncomputable def q87_17 : Q := .region 6 (fun _ => r87_6) [] false [0, 1, 2, 3, 4, 5, 6, 7, 8, 9, 10, 11, 12, 13] [(7, ⟨false, true, []⟩)]
noncomputable def r87_7 : List Oper := opsIn 7 f87
noncomputable def q87_20 : Q := .region 7 (fun _ => r87_7) [] false [0, 1] []
noncomputable def r87_8 : List Oper := opsIn 8 f87
noncomputable def q87_23 : Q := .region 8 (fun _ => r87_8) [] false [0, 1, 2, 3, 4, 5] []
noncomputable def q87_22 : Q := .seq (fun _ => q87_23) (fun _ => .ret)
noncomputable def q87_21 : Q := .cond (.tmp 40) (fun _ => q87_22) (fun _ => .skip)
noncomputable def q87_19 : Q := .seq (fun _ => q87_20) (fun _ => q87_21)
noncomputable def r87_9 : List Oper := opsIn 9 f87
noncomputable def q87_26 : Q := .region 9 (fun _ => r87_9) [] false [0, 1, 2, 3, 4] []
noncomputable def r87_10 : List Oper := opsIn 10 f87
noncomputable def q87_29 : Q := .region 10 (fun _ => r87_10) [] false [0, 1, 2, 3, 4] []
noncomputable def q87_28 : Q := .seq (fun _ => q87_29) (fun _ => .ret)
noncomputable def q87_27 : Q := .cond (.tmp 48) (fun _ => q87_28) (fun _ => .skip)
noncomputable def q87_25 : Q := .seq (fun _ => q87_26) (fun _ => q87_27)
noncomputable def r87_11 : List Oper := opsIn 11 f87
noncomputable def q87_31 : Q := .region 11 (fun _ => r87_11) [] false [0, 1, 2] []
noncomputable def r87_12 : List Oper := opsIn 12 f87
noncomputable def q87_33 : Q := .region 12 (fun _ => r87_12) [] false [0, 1, 2, 3, 4, 5, 6] []
noncomputable def r87_13 : List Oper := opsIn 13 f87
noncomputable def q87_35 : Q := .region 13 (fun _ => r87_13) [] true [0, 1, 2, 4, 5, 6, 7, 9, 13, 3, 8, 10, 11, 12, 14, 15, 16] [(13, ⟨false, false, [6]⟩), (14, ⟨false, false, [6]⟩)]
noncomputable def q87_34 : Q := .seq (fun _ => q87_35) (fun _ => .ret)
noncomputable def q87_32 : Q := .seq (fun _ => q87_33) (fun _ => q87_34)
noncomputable def q87_30 : Q := .seq (fun _ => q87_31) (fun _ => q87_32)
noncomputable def q87_24 : Q := .seq (fun _ => q87_25) (fun _ => q87_30)
noncomputable def q87_18 : Q := .seq (fun _ => q87_19) (fun _ => q87_24)
noncomputable def q87_16 : Q := .seq (fun _ => q87_17) (fun _ => q87_18)
noncomputable def q87_10 : Q := .seq (fun _ => q87_11) (fun _ => q87_16)
noncomputable def q87_2 : Q := .seq (fun _ => q87_3) (fun _ => q87_10)
noncomputable def q87_0 : Q := .seq (fun _ => q87_1) (fun _ => q87_2)
noncomputable def q87 : Unit → Q := fun _ => q87_0
theorem ok87 : FnOk 87 q87 [.cell 6 56, .cell 7 43, .tmp 8] 73 := .of f87 func87 call87 (by kernel_rfl) (by kernel_rfl) (by kernel_rfl) (by kernel_rfl)

-- (parcener/ask.office).value
noncomputable def r88_0 : List Oper := opsIn 0 f88
noncomputable def q88_1 : Q := .region 0 (fun _ => r88_0) [] false [0, 1, 2, 3, 4] []
noncomputable def r88_1 : List Oper := opsIn 1 f88
noncomputable def q88_3 : Q := .region 1 (fun _ => r88_1) [] true [0, 1, 2, 3, 4, 5, 6, 7, 8, 9, 10, 11, 12] []
noncomputable def q88_2 : Q := .seq (fun _ => q88_3) (fun _ => .ret)
noncomputable def q88_0 : Q := .seq (fun _ => q88_1) (fun _ => q88_2)
noncomputable def q88 : Unit → Q := fun _ => q88_0
theorem ok88 : FnOk 88 q88 [.cell 8 43, .tmp 9] 21 := .of f88 func88 call88 (by kernel_rfl) (by kernel_rfl) (by kernel_rfl) (by kernel_rfl)

-- (parcener/ask.office).mark
noncomputable def r89_0 : List Oper := opsIn 0 f89
noncomputable def q89_1 : Q := .region 0 (fun _ => r89_0) [] false [0, 1, 2, 3, 4] []
noncomputable def r89_1 : List Oper := opsIn 1 f89
noncomputable def q89_3 : Q := .region 1 (fun _ => r89_1) [] true [0, 1, 2, 3, 4, 5, 6, 7, 8, 9, 10, 11, 12] []
noncomputable def q89_2 : Q := .seq (fun _ => q89_3) (fun _ => .ret)
noncomputable def q89_0 : Q := .seq (fun _ => q89_1) (fun _ => q89_2)
noncomputable def q89 : Unit → Q := fun _ => q89_0
theorem ok89 : FnOk 89 q89 [.cell 8 43, .tmp 9] 21 := .of f89 func89 call89 (by kernel_rfl) (by kernel_rfl) (by kernel_rfl) (by kernel_rfl)

-- parcener/ask.Check
noncomputable def r90_0 : List Oper := opsIn 0 f90
noncomputable def q90_1 : Q := .region 0 (fun _ => r90_0) [] false [0, 1] []
noncomputable def r90_1 : List Oper := opsIn 1 f90
noncomputable def q90_4 : Q := .region 1 (fun _ => r90_1) [4] false [0, 1, 2, 3, 4, 5, 6, 7, 8, 9] []
noncomputable def r90_2 : List Oper := opsIn 2 f90
noncomputable def q90_7 : Q := .region 2 (fun _ => r90_2) [] false [0] []
noncomputable def q90_6 : Q := .seq (fun _ => q90_7) (fun _ => .ret)
noncomputable def q90_5 : Q := .cond (.tmp 17) (fun _ => q90_6) (fun _ => .skip)
noncomputable def q90_3 : Q := .seq (fun _ => q90_4) (fun _ => q90_5)
noncomputable def r90_3 : List Oper := opsIn 3 f90
noncomputable def q90_10 : Q := .region 3 (fun _ => r90_3) [] false [0, 1, 2, 3] []
noncomputable def r90_4 : List Oper := opsIn 4 f90
noncomputable def q90_13 : Q := .region 4 (fun _ => r90_4) [] false [0] []
noncomputable def q90_12 : Q := .seq (fun _ => q90_13) (fun _ => .ret)
noncomputable def q90_11 : Q := .cond (.tmp 21) (fun _ => q90_12) (fun _ => .skip)
noncomputable def q90_9 : Q := .seq (fun _ => q90_10) (fun _ => q90_11)
noncomputable def r90_5 : List Oper := opsIn 5 f90
noncomputable def q90_16 : Q := .region 5 (fun _ => r90_5) [] false [0, 1, 2, 3] []
noncomputable def r90_6 : List Oper := opsIn 6 f90
noncomputable def q90_20 : Q := .region 6 (fun _ => r90_6) [] false [0] []
noncomputable def q90_22 : Q := .cond (.tmp 26) (fun _ => .skip) (fun _ => (.exit 0))
noncomputable def r90_7 : List Oper := opsIn 7 f90
noncomputable def q90_26 : Q := .region 7 (fun _ => r90_7) [] false [0, 1, 2, 3] []
noncomputable def r90_8 : List Oper := opsIn 8 f90
noncomputable def q90_28 : Q := .region 8 (fun _ => r90_8) [] false [0, 1, 2] []
noncomputable def r90_9 : List Oper := opsIn 9 f90
noncomputable def q90_30 : Q := .region 9 (fun _ => r90_9) [] false [0, 1] []
noncomputable def r90_10 : List Oper := opsIn 10 f90
noncomputable def q90_33 : Q := .region 10 (fun _ => r90_10) [] false [0, 1] []
noncomputable def q90_32 : Q := .seq (fun _ => q90_33) (fun _ => .ret)
noncomputable def q90_31 : Q := .cond (.tmp 32) (fun _ => q90_32) (fun _ => .skip)
noncomputable def q90_29 : Q := .seq (fun _ => q90_30) (fun _ => q90_31)
noncomputable def q90_27 : Q := .seq (fun _ => q90_28) (fun _ => q90_29)
noncomputable def q90_25 : Q := .seq (fun _ => q90_26) (fun _ => q90_27)
noncomputable def q90_24 : Q := .block 1 (fun _ => q90_25)
noncomputable def r90_11 : List Oper := opsIn 11 f90
noncomputable def q90_34 : Q := .region 11 (fun _ => r90_11) [] false [0, 1] []
noncomputable def q90_23 : Q := .seq (fun _ => q90_24) (fun _ => q90_34)
noncomputable def q90_21 : Q := .seq (fun _ => q90_22) (fun _ => q90_23)
noncomputable def q90_19 : Q := .seq (fun _ => q90_20) (fun _ => q90_21)
noncomputable def q90_18 : Q := .loop (fun _ => q90_19)
noncomputable def q90_17 : Q := .block 0 (fun _ => q90_18)
noncomputable def q90_15 : Q := .seq (fun _ => q90_16) (fun _ => q90_17)
noncomputable def r90_12 : List Oper := opsIn 12 f90
noncomputable def q90_37 : Q := .region 12 (fun _ => r90_12) [] false [0, 1, 2, 3] []
noncomputable def r90_13 : List Oper := opsIn 13 f90
noncomputable def q90_41 : Q := .region 13 (fun _ => r90_13) [] false [0] []
noncomputable def q90_43 : Q := .cond (.tmp 39) (fun _ => .skip) (fun _ => (.exit 2))
noncomputable def r90_14 : List Oper := opsIn 14 f90
noncomputable def q90_47 : Q := .region 14 (fun _ => r90_14) [] false [0, 1, 2, 3] []
noncomputable def r90_15 : List Oper := opsIn 15 f90
noncomputable def q90_49 : Q := .region 15 (fun _ => r90_15) [] true [0, 1, 2, 3, 4, 5, 6, 7] []
noncomputable def r90_16 : List Oper := opsIn 16 f90
noncomputable def q90_52 : Q := .region 16 (fun _ => r90_16) [] false [0] []
noncomputable def q90_51 : Q := .seq (fun _ => q90_52) (fun _ => .ret)
noncomputable def q90_50 : Q := .cond (.tmp 49) (fun _ => q90_51) (fun _ => .skip)
noncomputable def q90_48 : Q := .seq (fun _ => q90_49) (fun _ => q90_50)
noncomputable def q90_46 : Q := .seq (fun _ => q90_47) (fun _ => q90_48)
noncomputable def q90_45 : Q := .block 3 (fun _ => q90_46)
noncomputable def r90_17 : List Oper := opsIn 17 f90
noncomputable def q90_53 : Q := .region 17 (fun _ => r90_17) [] false [0, 1] []
noncomputable def q90_44 : Q := .seq (fun _ => q90_45) (fun _ => q90_53)
noncomputable def q90_42 : Q := .seq (fun _ => q90_43) (fun _ => q90_44)
noncomputable def q90_40 : Q := .seq (fun _ => q90_41) (fun _ => q90_42)
noncomputable def q90_39 : Q := .loop (fun _ => q90_40)
noncomputable def q90_38 : Q := .block 2 (fun _ => q90_39)
noncomputable def q90_36 : Q := .seq (fun _ => q90_37) (fun _ => q90_38)
noncomputable def r90_18 : List Oper := opsIn 18 f90
noncomputable def q90_55 : Q := .region 18 (fun _ => r90_18) [] false [0] []
noncomputable def q90_54 : Q := .seq (fun _ => q90_55) (fun _ => .ret)
noncomputable def q90_35 : Q := .seq (fun _ => q90_36) (fun _ => q90_54)
noncomputable def q90_14 : Q := .seq (fun _ => q90_15) (fun _ => q90_35)
noncomputable def q90_8 : Q := .seq (fun _ => q90_9) (fun _ => q90_14)
noncomputable def q90_2 : Q := .seq (fun _ => q90_3) (fun _ => q90_8)
noncomputable def q90_0 : Q := .seq (fun _ => q90_1) (fun _ => q90_2)
noncomputable def q90 : Unit → Q := fun _ => q90_0
theorem ok90 : FnOk 90 q90 [.tmp 2] 51 := .of f90 func90 call90 (by kernel_rfl) (by kernel_rfl) (by kernel_rfl) (by kernel_rfl)

-- (parcener/ask.office).has
noncomputable def r91_0 : List Oper := opsIn 0 f91
noncomputable def q91_1 : Q := .region 0 (fun _ => r91_0) [] false [0, 1] []
noncomputable def r91_1 : List Oper := opsIn 1 f91
noncomputable def q91_3 : Q := .region 1 (fun _ => r91_1) [2] false [0, 1, 2, 3, 4, 5, 6, 7, 8, 9, 10] []
noncomputable def q91_2 : Q := .seq (fun _ => q91_3) (fun _ => .ret)
noncomputable def q91_0 : Q := .seq (fun _ => q91_1) (fun _ => q91_2)
noncomputable def q91 : Unit → Q := fun _ => q91_0
theorem ok91 : FnOk 91 q91 [.tmp 4] 15 := .of f91 func91 call91 (by kernel_rfl) (by kernel_rfl) (by kernel_rfl) (by kernel_rfl)

-- parcener/ask.copied
noncomputable def r92_0 : List Oper := opsIn 0 f92
noncomputable def q92_1 : Q := .region 0 (fun _ => r92_0) [] false [0] []
noncomputable def r92_1 : List Oper := opsIn 1 f92
noncomputable def q92_3 : Q := .region 1 (fun _ => r92_1) [] false [0] []
noncomputable def r92_2 : List Oper := opsIn 2 f92
noncomputable def q92_6 : Q := .region 2 (fun _ => r92_2) [] false [0, 1, 2] []
noncomputable def r92_3 : List Oper := opsIn 3 f92
noncomputable def q92_10 : Q := .region 3 (fun _ => r92_3) [] false [0] []
noncomputable def q92_12 : Q := .cond (.tmp 9) (fun _ => .skip) (fun _ => (.exit 0))
noncomputable def r92_4 : List Oper := opsIn 4 f92
noncomputable def q92_16 : Q := .region 4 (fun _ => r92_4) [] false [0, 1, 2, 3] []
noncomputable def r92_5 : List Oper := opsIn 5 f92
noncomputable def q92_17 : Q := .region 5 (fun _ => r92_5) [] true [0, 1, 2, 3, 4, 6, 7, 5, 8, 9, 10, 11, 12] []
noncomputable def q92_15 : Q := .seq (fun _ => q92_16) (fun _ => q92_17)
noncomputable def q92_14 : Q := .block 1 (fun _ => q92_15)
noncomputable def r92_6 : List Oper := opsIn 6 f92
noncomputable def q92_18 : Q := .region 6 (fun _ => r92_6) [] false [0, 1] []
noncomputable def q92_13 : Q := .seq (fun _ => q92_14) (fun _ => q92_18)
noncomputable def q92_11 : Q := .seq (fun _ => q92_12) (fun _ => q92_13)
noncomputable def q92_9 : Q := .seq (fun _ => q92_10) (fun _ => q92_11)
noncomputable def q92_8 : Q := .loop (fun _ => q92_9)
noncomputable def q92_7 : Q := .block 0 (fun _ => q92_8)
noncomputable def q92_5 : Q := .seq (fun _ => q92_6) (fun _ => q92_7)
noncomputable def r92_7 : List Oper := opsIn 7 f92
noncomputable def q92_20 : Q := .region 7 (fun _ => r92_7) [] false [0, 1] []
noncomputable def q92_19 : Q := .seq (fun _ => q92_20) (fun _ => .ret)
noncomputable def q92_4 : Q := .seq (fun _ => q92_5) (fun _ => q92_19)
noncomputable def q92_2 : Q := .seq (fun _ => q92_3) (fun _ => q92_4)
noncomputable def q92_0 : Q := .seq (fun _ => q92_1) (fun _ => q92_2)
noncomputable def q92 : Unit → Q := fun _ => q92_0
theorem ok92 : FnOk 92 q92 [.tmp 2] 26 := .of f92 func92 call92 (by kernel_rfl) (by kernel_rfl) (by kernel_rfl) (by kernel_rfl)

-- parcener/parcenerref02.Great
noncomputable def r93_0 : List Oper := opsIn 0 f93
noncomputable def q93_1 : Q := .region 0 (fun _ => r93_0) [] false [0, 1] []
noncomputable def r93_1 : List Oper := opsIn 1 f93
noncomputable def q93_3 : Q := .region 1 (fun _ => r93_1) [4] false [0, 1, 2, 3, 4, 5, 6, 7, 8, 9, 10] []
noncomputable def q93_2 : Q := .seq (fun _ => q93_3) (fun _ => .ret)
noncomputable def q93_0 : Q := .seq (fun _ => q93_1) (fun _ => q93_2)
noncomputable def q93 : Unit → Q := fun _ => q93_0
theorem ok93 : FnOk 93 q93 [.tmp 2] 13 := .of f93 func93 call93 (by kernel_rfl) (by kernel_rfl) (by kernel_rfl) (by kernel_rfl)

-- parcener/parcenerref02.Check
noncomputable def r94_0 : List Oper := opsIn 0 f94
noncomputable def q94_1 : Q := .region 0 (fun _ => r94_0) [] false [0, 1] []
noncomputable def r94_1 : List Oper := opsIn 1 f94
noncomputable def q94_4 : Q := .region 1 (fun _ => r94_1) [3] false [0, 1, 2, 3, 4, 5, 6, 7, 8] []
noncomputable def r94_2 : List Oper := opsIn 2 f94
noncomputable def q94_7 : Q := .region 2 (fun _ => r94_2) [] false [0] []
noncomputable def q94_6 : Q := .seq (fun _ => q94_7) (fun _ => .ret)
noncomputable def q94_5 : Q := .cond (.tmp 13) (fun _ => q94_6) (fun _ => .skip)
noncomputable def q94_3 : Q := .seq (fun _ => q94_4) (fun _ => q94_5)
noncomputable def r94_3 : List Oper := opsIn 3 f94
noncomputable def q94_10 : Q := .region 3 (fun _ => r94_3) [3, 9, 19, 26] true [0, 1, 2, 3, 4, 5, 6, 7, 8, 9, 10, 11, 12, 13, 14, 15, 16, 17, 18, 19, 20, 21, 22, 23, 24, 25, 26, 27, 28, 29, 30, 31, 32, 33, 34, 35, 36, 37, 38] []
noncomputable def r94_4 : List Oper := opsIn 4 f94
noncomputable def q94_13 : Q := .region 4 (fun _ => r94_4) [] false [0] []
noncomputable def q94_12 : Q := .seq (fun _ => q94_13) (fun _ => .ret)
noncomputable def q94_11 : Q := .cond (.tmp 52) (fun _ => q94_12) (fun _ => .skip)
noncomputable def q94_9 : Q := .seq (fun _ => q94_10) (fun _ => q94_11)
noncomputable def r94_5 : List Oper := opsIn 5 f94
noncomputable def q94_15 : Q := .region 5 (fun _ => r94_5) [] false [0] []
noncomputable def r94_6 : List Oper := opsIn 6 f94
noncomputable def q94_18 : Q := .region 6 (fun _ => r94_6) [] false [0] []
noncomputable def r94_7 : List Oper := opsIn 7 f94
noncomputable def q94_23 : Q := .region 7 (fun _ => r94_7) [] false [0, 1, 2, 3, 4] []
noncomputable def q94_24 : Q := .cond (.tmp 57) (fun _ => .skip) (fun _ => (.exit 0))
noncomputable def q94_22 : Q := .seq (fun _ => q94_23) (fun _ => q94_24)
noncomputable def r94_9 : List Oper := opsIn 9 f94
noncomputable def q94_29 : Q := .region 9 (fun _ => r94_9) [12, 20] true [0, 1, 2, 3, 4, 5, 6, 7, 8, 9, 10, 11, 12, 13, 14, 15, 16, 17, 18, 19, 20, 21, 22, 23, 24, 25, 26, 27] []
noncomputable def r94_10 : List Oper := opsIn 10 f94
noncomputable def q94_32 : Q := .region 10 (fun _ => r94_10) [] false [0] []
noncomputable def q94_31 : Q := .seq (fun _ => q94_32) (fun _ => .ret)
noncomputable def q94_30 : Q := .cond (.tmp 87) (fun _ => q94_31) (fun _ => .skip)
noncomputable def q94_28 : Q := .seq (fun _ => q94_29) (fun _ => q94_30)
noncomputable def r94_11 : List Oper := opsIn 11 f94
noncomputable def q94_33 : Q := .region 11 (fun _ => r94_11) [1] false [0, 1, 2, 3, 4, 5, 6, 7, 8, 9] []
noncomputable def q94_27 : Q := .seq (fun _ => q94_28) (fun _ => q94_33)
noncomputable def q94_26 : Q := .block 1 (fun _ => q94_27)
noncomputable def r94_8 : List Oper := opsIn 8 f94
noncomputable def q94_34 : Q := .region 8 (fun _ => r94_8) [] false [0, 1, 2] []
noncomputable def q94_25 : Q := .seq (fun _ => q94_26) (fun _ => q94_34)
noncomputable def q94_21 : Q := .seq (fun _ => q94_22) (fun _ => q94_25)
noncomputable def q94_20 : Q := .loop (fun _ => q94_21)
noncomputable def q94_19 : Q := .block 0 (fun _ => q94_20)
noncomputable def q94_17 : Q := .seq (fun _ => q94_18) (fun _ => q94_19)
noncomputable def r94_12 : List Oper := opsIn 12 f94
noncomputable def q94_37 : Q := .region 12 (fun _ => r94_12) [] false [0, 1] []
noncomputable def r94_13 : List Oper := opsIn 13 f94
noncomputable def q94_40 : Q := .region 13 (fun _ => r94_13) [] false [0] []
noncomputable def q94_39 : Q := .seq (fun _ => q94_40) (fun _ => .ret)
noncomputable def q94_38 : Q := .cond (.tmp 98) (fun _ => q94_39) (fun _ => .skip)
noncomputable def q94_36 : Q := .seq (fun _ => q94_37) (fun _ => q94_38)
noncomputable def r94_14 : List Oper := opsIn 14 f94
noncomputable def q94_42 : Q := .region 14 (fun _ => r94_14) [] false [0] []
noncomputable def q94_41 : Q := .seq (fun _ => q94_42) (fun _ => .ret)
noncomputable def q94_35 : Q := .seq (fun _ => q94_36) (fun _ => q94_41)
noncomputable def q94_16 : Q := .seq (fun _ => q94_17) (fun _ => q94_35)
noncomputable def q94_14 : Q := .seq (fun _ => q94_15) (fun _ => q94_16)
noncomputable def q94_8 : Q := .seq (fun _ => q94_9) (fun _ => q94_14)
noncomputable def q94_2 : Q := .seq (fun _ => q94_3) (fun _ => q94_8)
noncomputable def q94_0 : Q := .seq (fun _ => q94_1) (fun _ => q94_2)
noncomputable def q94 : Unit → Q := fun _ => q94_0
theorem ok94 : FnOk 94 q94 [.tmp 2] 99 := .of f94 func94 call94 (by kernel_rfl) (by kernel_rfl) (by kernel_rfl) (by kernel_rfl)

-- parcener/parcenerref02.Value
noncomputable def r95_0 : List Oper := opsIn 0 f95
noncomputable def q95_1 : Q := .region 0 (fun _ => r95_0) [] false [0, 1, 2, 3, 4] []
noncomputable def r95_1 : List Oper := opsIn 1 f95
noncomputable def q95_4 : Q := .region 1 (fun _ => r95_1) [] false [0, 1, 2] []
noncomputable def r95_2 : List Oper := opsIn 2 f95
noncomputable def q95_7 : Q := .region 2 (fun _ => r95_2) [] false [0, 1, 2, 3, 4] []
noncomputable def q95_6 : Q := .seq (fun _ => q95_7) (fun _ => .ret)
noncomputable def q95_5 : Q := .cond (.tmp 14) (fun _ => q95_6) (fun _ => .skip)
noncomputable def q95_3 : Q := .seq (fun _ => q95_4) (fun _ => q95_5)
noncomputable def r95_3 : List Oper := opsIn 3 f95
noncomputable def q95_10 : Q := .region 3 (fun _ => r95_3) [5, 12] false [0, 1, 2, 3, 4, 5, 6, 7, 8, 9, 10, 11, 12, 13, 14, 15, 16] []
noncomputable def r95_4 : List Oper := opsIn 4 f95
noncomputable def q95_13 : Q := .region 4 (fun _ => r95_4) [] false [0, 1, 2] []
noncomputable def q95_12 : Q := .seq (fun _ => q95_13) (fun _ => .ret)
noncomputable def q95_11 : Q := .cond (.tmp 34) (fun _ => q95_12) (fun _ => .skip)
noncomputable def q95_9 : Q := .seq (fun _ => q95_10) (fun _ => q95_11)
noncomputable def r95_5 : List Oper := opsIn 5 f95
noncomputable def q95_15 : Q := .region 5 (fun _ => r95_5) [] false [0, 1, 2] []
noncomputable def r95_6 : List Oper := opsIn 6 f95
noncomputable def q95_18 : Q := .region 6 (fun _ => r95_6) [] false [0] []
noncomputable def r95_7 : List Oper := opsIn 7 f95
noncomputable def q95_23 : Q := .region 7 (fun _ => r95_7) [] false [0, 1, 2, 3, 4] []
noncomputable def q95_24 : Q := .cond (.tmp 41) (fun _ => .skip) (fun _ => (.exit 0))
noncomputable def q95_22 : Q := .seq (fun _ => q95_23) (fun _ => q95_24)
noncomputable def r95_9 : List Oper := opsIn 9 f95
noncomputable def q95_28 : Q := .region 9 (fun _ => r95_9) [] false [0, 1, 2, 3, 4, 5, 6, 7, 8, 9, 10] []
noncomputable def r95_10 : List Oper := opsIn 10 f95
noncomputable def q95_31 : Q := .region 10 (fun _ => r95_10) [] false [0, 1] []
noncomputable def r95_11 : List Oper := opsIn 11 f95
noncomputable def q95_34 : Q := .region 11 (fun _ => r95_11) [] false [0, 1, 2, 3] []
noncomputable def q95_33 : Q := .seq (fun _ => q95_34) (fun _ => .ret)
noncomputable def q95_32 : Q := .cond (.tmp 53) (fun _ => q95_33) (fun _ => .skip)
noncomputable def q95_30 : Q := .seq (fun _ => q95_31) (fun _ => q95_32)
noncomputable def r95_12 : List Oper := opsIn 12 f95
noncomputable def q95_36 : Q := .region 12 (fun _ => r95_12) [] false [0, 1, 2, 3, 4, 5, 6, 7] []
noncomputable def r95_13 : List Oper := opsIn 13 f95
noncomputable def q95_38 : Q := .region 13 (fun _ => r95_13) [] false [0, 1] []
noncomputable def r95_14 : List Oper := opsIn 14 f95
noncomputable def q95_41 : Q := .region 14 (fun _ => r95_14) [] false [0, 1, 2, 3] []
noncomputable def q95_40 : Q := .seq (fun _ => q95_41) (fun _ => .ret)
noncomputable def q95_39 : Q := .cond (.tmp 63) (fun _ => q95_40) (fun _ => .skip)
noncomputable def q95_37 : Q := .seq (fun _ => q95_38) (fun _ => q95_39)
noncomputable def q95_35 : Q := .seq (fun _ => q95_36) (fun _ => q95_37)
noncomputable def q95_29 : Q := .seq (fun _ => q95_30) (fun _ => q95_35)
noncomputable def q95_27 : Q := .seq (fun _ => q95_28) (fun _ => q95_29)
noncomputable def q95_26 : Q := .block 1 (fun _ => q95_27)
noncomputable def r95_8 : List Oper := opsIn 8 f95
noncomputable def q95_42 : Q := .region 8 (fun _ => r95_8) [] false [0, 1, 2] []
noncomputable def q95_25 : Q := .seq (fun _ => q95_26) (fun _ => q95_42)
noncomputable def q95_21 : Q := .seq (fun _ => q95_22) (fun _ => q95_25)
noncomputable def q95_20 : Q := .loop (fun _ => q95_21)
noncomputable def q95_19 : Q := .block 0 (fun _ => q95_20)
noncomputable def q95_17 : Q := .seq (fun _ => q95_18) (fun _ => q95_19)
noncomputable def r95_15 : List Oper := opsIn 15 f95
noncomputable def q95_44 : Q := .region 15 (fun _ => r95_15) [] false [0, 1, 2] []
noncomputable def q95_43 : Q := .seq (fun _ => q95_44) (fun _ => .ret)
noncomputable def q95_16 : Q := .seq (fun _ => q95_17) (fun _ => q95_43)
noncomputable def q95_14 : Q := .seq (fun _ => q95_15) (fun _ => q95_16)
noncomputable def q95_8 : Q := .seq (fun _ => q95_9) (fun _ => q95_14)
noncomputable def q95_2 : Q := .seq (fun _ => q95_3) (fun _ => q95_8)
noncomputable def q95_0 : Q := .seq (fun _ => q95_1) (fun _ => q95_2)
noncomputable def q95 : Unit → Q := fun _ => q95_0
theorem ok95 : FnOk 95 q95 [.cell 6 43, .tmp 7] 67 := .of f95 func95 call95 (by kernel_rfl) (by kernel_rfl) (by kernel_rfl) (by kernel_rfl)

-- parcener/parcenerref02.Mark
noncomputable def r96_0 : List Oper := opsIn 0 f96
noncomputable def q96_1 : Q := .region 0 (fun _ => r96_0) [] false [0, 1, 2, 3, 4] []
noncomputable def r96_1 : List Oper := opsIn 1 f96
noncomputable def q96_4 : Q := .region 1 (fun _ => r96_1) [] false [0, 1, 2] []
noncomputable def r96_2 : List Oper := opsIn 2 f96
noncomputable def q96_7 : Q := .region 2 (fun _ => r96_2) [] false [0, 1, 2, 3, 4] []
noncomputable def q96_6 : Q := .seq (fun _ => q96_7) (fun _ => .ret)
noncomputable def q96_5 : Q := .cond (.tmp 17) (fun _ => q96_6) (fun _ => .skip)
noncomputable def q96_3 : Q := .seq (fun _ => q96_4) (fun _ => q96_5)
noncomputable def r96_3 : List Oper := opsIn 3 f96
noncomputable def q96_10 : Q := .region 3 (fun _ => r96_3) [5, 10] false [0, 1, 2, 3, 4, 5, 6, 7, 8, 9, 10, 11, 12, 13, 14] []
noncomputable def r96_4 : List Oper := opsIn 4 f96
noncomputable def q96_13 : Q := .region 4 (fun _ => r96_4) [] false [0, 1, 2] []
noncomputable def q96_12 : Q := .seq (fun _ => q96_13) (fun _ => .ret)
noncomputable def q96_11 : Q := .cond (.tmp 35) (fun _ => q96_12) (fun _ => .skip)
noncomputable def q96_9 : Q := .seq (fun _ => q96_10) (fun _ => q96_11)
noncomputable def r96_5 : List Oper := opsIn 5 f96
noncomputable def q96_15 : Q := .region 5 (fun _ => r96_5) [] false [0, 1, 2] []
noncomputable def r96_6 : List Oper := opsIn 6 f96
noncomputable def q96_18 : Q := .region 6 (fun _ => r96_6) [] false [0] []
noncomputable def r96_7 : List Oper := opsIn 7 f96
noncomputable def q96_23 : Q := .region 7 (fun _ => r96_7) [5] false [0, 1, 2, 3, 4, 5, 6, 7, 8, 9] []
noncomputable def q96_24 : Q := .cond (.tmp 47) (fun _ => .skip) (fun _ => (.exit 0))
noncomputable def q96_22 : Q := .seq (fun _ => q96_23) (fun _ => q96_24)
noncomputable def r96_9 : List Oper := opsIn 9 f96
noncomputable def q96_28 : Q := .region 9 (fun _ => r96_9) [] false [0, 1, 2, 3, 4, 5, 6, 7, 8] []
noncomputable def r96_10 : List Oper := opsIn 10 f96
noncomputable def q96_31 : Q := .region 10 (fun _ => r96_10) [4] false [0, 1, 2, 3, 4, 5, 6, 7, 8, 9, 10, 11] []
noncomputable def r96_11 : List Oper := opsIn 11 f96
noncomputable def q96_34 : Q := .region 11 (fun _ => r96_11) [] false [0, 1, 2, 3] []
noncomputable def q96_33 : Q := .seq (fun _ => q96_34) (fun _ => (.exit 1))
noncomputable def q96_32 : Q := .cond (.tmp 68) (fun _ => q96_33) (fun _ => .skip)
noncomputable def q96_30 : Q := .seq (fun _ => q96_31) (fun _ => q96_32)
noncomputable def r96_12 : List Oper := opsIn 12 f96
noncomputable def q96_36 : Q := .region 12 (fun _ => r96_12) [] false [0, 1, 2, 3, 4, 5, 6, 7, 8, 9, 10] []
noncomputable def r96_13 : List Oper := opsIn 13 f96
noncomputable def q96_39 : Q := .region 13 (fun _ => r96_13) [] false [0, 1] []
noncomputable def r96_14 : List Oper := opsIn 14 f96
noncomputable def q96_42 : Q := .region 14 (fun _ => r96_14) [] false [0, 1, 2, 3] []
noncomputable def q96_41 : Q := .seq (fun _ => q96_42) (fun _ => .ret)
noncomputable def q96_40 : Q := .cond (.tmp 81) (fun _ => q96_41) (fun _ => .skip)
noncomputable def q96_38 : Q := .seq (fun _ => q96_39) (fun _ => q96_40)
noncomputable def r96_15 : List Oper := opsIn 15 f96
noncomputable def q96_45 : Q := .region 15 (fun _ => r96_15) [] false [0, 1, 2, 3] []
noncomputable def r96_16 : List Oper := opsIn 16 f96
noncomputable def q96_48 : Q := .region 16 (fun _ => r96_16) [] true [0, 1, 2, 3, 4, 5, 6, 7, 8, 9, 10, 11, 12, 13] [(10, ⟨true, false, []⟩)]
noncomputable def r96_17 : List Oper := opsIn 17 f96
noncomputable def q96_51 : Q := .region 17 (fun _ => r96_17) [] false [0, 1] []
noncomputable def r96_18 : List Oper := opsIn 18 f96
noncomputable def q96_54 : Q := .region 18 (fun _ => r96_18) [] false [0, 1, 2, 3] []
noncomputable def q96_53 : Q := .seq (fun _ => q96_54) (fun _ => .ret)
noncomputable def q96_52 : Q := .cond (.tmp 100) (fun _ => q96_53) (fun _ => .skip)
noncomputable def q96_50 : Q := .seq (fun _ => q96_51) (fun _ => q96_52)
noncomputable def r96_19 : List Oper := opsIn 19 f96
noncomputable def q96_56 : Q := .region 19 (fun _ => r96_19) [] false [0, 1, 2, 3, 4, 5, 6] []
noncomputable def q96_55 : Q := .seq (fun _ => q96_56) (fun _ => .ret)
noncomputable def q96_49 : Q := .seq (fun _ => q96_50) (fun _ => q96_55)
noncomputable def q96_47 : Q := .seq (fun _ => q96_48) (fun _ => q96_49)
noncomputable def q96_46 : Q := .cond (.tmp 87) (fun _ => q96_47) (fun _ => .skip)
noncomputable def q96_44 : Q := .seq (fun _ => q96_45) (fun _ => q96_46)
noncomputable def r96_20 : List Oper := opsIn 20 f96
noncomputable def q96_58 : Q := .region 20 (fun _ => r96_20) [] false [0, 1, 2, 3, 4, 5, 6, 7] []
noncomputable def r96_21 : List Oper := opsIn 21 f96
noncomputable def q96_61 : Q := .region 21 (fun _ => r96_21) [] false [0, 1] []
noncomputable def r96_22 : List Oper := opsIn 22 f96
noncomputable def q96_64 : Q := .region 22 (fun _ => r96_22) [] false [0, 1, 2, 3] []
noncomputable def q96_63 : Q := .seq (fun _ => q96_64) (fun _ => .ret)
noncomputable def q96_62 : Q := .cond (.tmp 115) (fun _ => q96_63) (fun _ => .skip)
noncomputable def q96_60 : Q := .seq (fun _ => q96_61) (fun _ => q96_62)
noncomputable def r96_23 : List Oper := opsIn 23 f96
noncomputable def q96_65 : Q := .region 23 (fun _ => r96_23) [] false [0, 1] []
noncomputable def q96_59 : Q := .seq (fun _ => q96_60) (fun _ => q96_65)
noncomputable def q96_57 : Q := .seq (fun _ => q96_58) (fun _ => q96_59)
noncomputable def q96_43 : Q := .seq (fun _ => q96_44) (fun _ => q96_57)
noncomputable def q96_37 : Q := .seq (fun _ => q96_38) (fun _ => q96_43)
noncomputable def q96_35 : Q := .seq (fun _ => q96_36) (fun _ => q96_37)
noncomputable def q96_29 : Q := .seq (fun _ => q96_30) (fun _ => q96_35)
noncomputable def q96_27 : Q := .seq (fun _ => q96_28) (fun _ => q96_29)
noncomputable def q96_26 : Q := .block 1 (fun _ => q96_27)
noncomputable def r96_8 : List Oper := opsIn 8 f96
noncomputable def q96_66 : Q := .region 8 (fun _ => r96_8) [] false [0, 1, 2] []
noncomputable def q96_25 : Q := .seq (fun _ => q96_26) (fun _ => q96_66)
noncomputable def q96_21 : Q := .seq (fun _ => q96_22) (fun _ => q96_25)
noncomputable def q96_20 : Q := .loop (fun _ => q96_21)
noncomputable def q96_19 : Q := .block 0 (fun _ => q96_20)
noncomputable def q96_17 : Q := .seq (fun _ => q96_18) (fun _ => q96_19)
noncomputable def r96_24 : List Oper := opsIn 24 f96
noncomputable def q96_69 : Q := .region 24 (fun _ => r96_24) [] false [0, 1, 2] []
noncomputable def r96_25 : List Oper := opsIn 25 f96
noncomputable def q96_72 : Q := .region 25 (fun _ => r96_25) [] false [0, 1, 2] []
noncomputable def q96_71 : Q := .seq (fun _ => q96_72) (fun _ => .ret)
noncomputable def q96_70 : Q := .cond (.tmp 121) (fun _ => q96_71) (fun _ => .skip)
noncomputable def q96_68 : Q := .seq (fun _ => q96_69) (fun _ => q96_70)
noncomputable def r96_26 : List Oper := opsIn 26 f96
noncomputable def q96_74 : Q := .region 26 (fun _ => r96_26) [] false [0, 1, 2] []
noncomputable def q96_73 : Q := .seq (fun _ => q96_74) (fun _ => .ret)
noncomputable def q96_67 : Q := .seq (fun _ => q96_68) (fun _ => q96_73)
noncomputable def q96_16 : Q := .seq (fun _ => q96_17) (fun _ => q96_67)
noncomputable def q96_14 : Q := .seq (fun _ => q96_15) (fun _ => q96_16)
noncomputable def q96_8 : Q := .seq (fun _ => q96_9) (fun _ => q96_14)
noncomputable def q96_2 : Q := .seq (fun _ => q96_3) (fun _ => q96_8)
noncomputable def q96_0 : Q := .seq (fun _ => q96_1) (fun _ => q96_2)
noncomputable def q96 : Unit → Q := fun _ => q96_0
theorem ok96 : FnOk 96 q96 [.cell 6 43, .tmp 7] 124 := .of f96 func96 call96 (by kernel_rfl) (by kernel_rfl) (by kernel_rfl) (by kernel_rfl)

-- parcener/parcenerref01.abs
noncomputable def r97_0 : List Oper := opsIn 0 f97
noncomputable def q97_1 : Q := .region 0 (fun _ => r97_0) [] false [0] []
noncomputable def r97_1 : List Oper := opsIn 1 f97
noncomputable def q97_4 : Q := .region 1 (fun _ => r97_1) [] false [0, 1] []
noncomputable def r97_2 : List Oper := opsIn 2 f97
noncomputable def q97_7 : Q := .region 2 (fun _ => r97_2) [] false [0, 1, 2, 3, 4, 5] []
noncomputable def q97_6 : Q := .seq (fun _ => q97_7) (fun _ => .ret)
noncomputable def q97_5 : Q := .cond (.tmp 4) (fun _ => q97_6) (fun _ => .skip)
noncomputable def q97_3 : Q := .seq (fun _ => q97_4) (fun _ => q97_5)
noncomputable def r97_3 : List Oper := opsIn 3 f97
noncomputable def q97_9 : Q := .region 3 (fun _ => r97_3) [] false [0, 1, 2] []
noncomputable def q97_8 : Q := .seq (fun _ => q97_9) (fun _ => .ret)
noncomputable def q97_2 : Q := .seq (fun _ => q97_3) (fun _ => q97_8)
noncomputable def q97_0 : Q := .seq (fun _ => q97_1) (fun _ => q97_2)
noncomputable def q97 : Unit → Q := fun _ => q97_0
theorem ok97 : FnOk 97 q97 [.tmp 2] 12 := .of f97 func97 call97 (by kernel_rfl) (by kernel_rfl) (by kernel_rfl) (by kernel_rfl)

-- parcener/parcenerref01.gcd
noncomputable def r98_0 : List Oper := opsIn 0 f98
noncomputable def q98_1 : Q := .region 0 (fun _ => r98_0) [] false [0] []
noncomputable def r98_1 : List Oper := opsIn 1 f98
noncomputable def q98_7 : Q := .region 1 (fun _ => r98_1) [] false [0, 1] []
noncomputable def q98_8 : Q := .cond (.tmp 6) (fun _ => .skip) (fun _ => (.exit 0))
noncomputable def q98_6 : Q := .seq (fun _ => q98_7) (fun _ => q98_8)
noncomputable def r98_2 : List Oper := opsIn 2 f98
noncomputable def q98_10 : Q := .region 2 (fun _ => r98_2) [] true [0, 1, 2, 3, 4, 5] []
noncomputable def q98_9 : Q := .block 1 (fun _ => q98_10)
noncomputable def q98_5 : Q := .seq (fun _ => q98_6) (fun _ => q98_9)
noncomputable def q98_4 : Q := .loop (fun _ => q98_5)
noncomputable def q98_3 : Q := .block 0 (fun _ => q98_4)
noncomputable def r98_3 : List Oper := opsIn 3 f98
noncomputable def q98_12 : Q := .region 3 (fun _ => r98_3) [] false [0, 1] []
noncomputable def q98_11 : Q := .seq (fun _ => q98_12) (fun _ => .ret)
noncomputable def q98_2 : Q := .seq (fun _ => q98_3) (fun _ => q98_11)
noncomputable def q98_0 : Q := .seq (fun _ => q98_1) (fun _ => q98_2)
noncomputable def q98 : Unit → Q := fun _ => q98_0
theorem ok98 : FnOk 98 q98 [.tmp 4] 12 := .of f98 func98 call98 (by kernel_rfl) (by kernel_rfl) (by kernel_rfl) (by kernel_rfl)

-- parcener/parcenerref01.made
noncomputable def r99_0 : List Oper := opsIn 0 f99
noncomputable def q99_1 : Q := .region 0 (fun _ => r99_0) [] false [0, 1, 2, 3] []
noncomputable def r99_1 : List Oper := opsIn 1 f99
noncomputable def q99_4 : Q := .region 1 (fun _ => r99_1) [3, 8, 13] false [0, 1, 2, 3, 4, 5, 6, 7, 8, 9, 10, 11, 12, 13, 14, 15, 16, 17] []
noncomputable def r99_2 : List Oper := opsIn 2 f99
noncomputable def q99_7 : Q := .region 2 (fun _ => r99_2) [] false [0, 1, 2] []
noncomputable def q99_6 : Q := .seq (fun _ => q99_7) (fun _ => .ret)
noncomputable def q99_5 : Q := .cond (.tmp 26) (fun _ => q99_6) (fun _ => .skip)
noncomputable def q99_3 : Q := .seq (fun _ => q99_4) (fun _ => q99_5)
noncomputable def r99_3 : List Oper := opsIn 3 f99
noncomputable def q99_9 : Q := .region 3 (fun _ => r99_3) [] false [0, 1, 2, 3, 4, 5, 6, 7, 8] []
noncomputable def r99_4 : List Oper := opsIn 4 f99
noncomputable def q99_12 : Q := .region 4 (fun _ => r99_4) [] false [0] []
noncomputable def r99_5 : List Oper := opsIn 5 f99
noncomputable def q99_14 : Q := .region 5 (fun _ => r99_5) [] false [0, 1, 2, 3, 4] []
noncomputable def q99_13 : Q := .cond (.tmp 35) (fun _ => q99_14) (fun _ => .skip)
noncomputable def q99_11 : Q := .seq (fun _ => q99_12) (fun _ => q99_13)
noncomputable def r99_6 : List Oper := opsIn 6 f99
noncomputable def q99_16 : Q := .region 6 (fun _ => r99_6) [] false [0, 1, 2] []
noncomputable def q99_15 : Q := .seq (fun _ => q99_16) (fun _ => .ret)
noncomputable def q99_10 : Q := .seq (fun _ => q99_11) (fun _ => q99_15)
noncomputable def q99_8 : Q := .seq (fun _ => q99_9) (fun _ => q99_10)
noncomputable def q99_2 : Q := .seq (fun _ => q99_3) (fun _ => q99_8)
noncomputable def q99_0 : Q := .seq (fun _ => q99_1) (fun _ => q99_2)
noncomputable def q99 : Unit → Q := fun _ => q99_0
theorem ok99 : FnOk 99 q99 [.cell 6 43, .tmp 7] 41 := .of f99 func99 call99 (by kernel_rfl) (by kernel_rfl) (by kernel_rfl) (by kernel_rfl)

-- parcener/parcenerref04.answer
noncomputable def r100_0 : List Oper := opsIn 0 f100
noncomputable def q100_1 : Q := .region 0 (fun _ => r100_0) [] false [0, 1, 2] []
noncomputable def r100_1 : List Oper := opsIn 1 f100
noncomputable def q100_4 : Q := .region 1 (fun _ => r100_1) [] false [0, 1, 2] []
noncomputable def r100_2 : List Oper := opsIn 2 f100
noncomputable def q100_7 : Q := .region 2 (fun _ => r100_2) [] true [0, 1, 2, 3, 4, 5, 6, 7, 8, 9, 10, 11, 12, 13] []
noncomputable def q100_6 : Q := .seq (fun _ => q100_7) (fun _ => .ret)
noncomputable def q100_5 : Q := .cond (.tmp 8) (fun _ => q100_6) (fun _ => .skip)
noncomputable def q100_3 : Q := .seq (fun _ => q100_4) (fun _ => q100_5)
noncomputable def r100_3 : List Oper := opsIn 3 f100
noncomputable def q100_9 : Q := .region 3 (fun _ => r100_3) [] true [0, 1, 2, 3, 4, 5, 6, 7, 8, 9, 10, 11, 12, 13] []
noncomputable def q100_8 : Q := .seq (fun _ => q100_9) (fun _ => .ret)
noncomputable def q100_2 : Q := .seq (fun _ => q100_3) (fun _ => q100_8)
noncomputable def q100_0 : Q := .seq (fun _ => q100_1) (fun _ => q100_2)
noncomputable def q100 : Unit → Q := fun _ => q100_0
theorem ok100 : FnOk 100 q100 [.cell 4 43, .tmp 5] 33 := .of f100 func100 call100 (by kernel_rfl) (by kernel_rfl) (by kernel_rfl) (by kernel_rfl)

-- parcener/agent.twin
noncomputable def r101_0 : List Oper := opsIn 0 f101
noncomputable def q101_1 : Q := .region 0 (fun _ => r101_0) [] false [0, 1] []
noncomputable def r101_1 : List Oper := opsIn 1 f101
noncomputable def q101_3 : Q := .region 1 (fun _ => r101_1) [] true [0, 1, 3, 4, 7, 8, 2, 5, 6, 9, 10, 11] []
noncomputable def q101_2 : Q := .seq (fun _ => q101_3) (fun _ => .ret)
noncomputable def q101_0 : Q := .seq (fun _ => q101_1) (fun _ => q101_2)
noncomputable def q101 : Unit → Q := fun _ => q101_0
theorem ok101 : FnOk 101 q101 [.cell 2 40] 14 := .of f101 func101 call101 (by kernel_rfl) (by kernel_rfl) (by kernel_rfl) (by kernel_rfl)

-- parcener/ratio.Cmp
noncomputable def r102_0 : List Oper := opsIn 0 f102
noncomputable def q102_1 : Q := .region 0 (fun _ => r102_0) [] false [0, 1, 2, 3] []
noncomputable def r102_1 : List Oper := opsIn 1 f102
noncomputable def q102_4 : Q := .region 1 (fun _ => r102_1) [] false [0, 1, 2, 3] []
noncomputable def r102_2 : List Oper := opsIn 2 f102
noncomputable def q102_6 : Q := .region 2 (fun _ => r102_2) [] false [0, 1] []
noncomputable def r102_3 : List Oper := opsIn 3 f102
noncomputable def q102_9 : Q := .region 3 (fun _ => r102_3) [] false [0, 1, 2] []
noncomputable def q102_8 : Q := .seq (fun _ => q102_9) (fun _ => .ret)
noncomputable def q102_7 : Q := .cond (.tmp 16) (fun _ => q102_8) (fun _ => .skip)
noncomputable def q102_5 : Q := .seq (fun _ => q102_6) (fun _ => q102_7)
noncomputable def q102_3 : Q := .seq (fun _ => q102_4) (fun _ => q102_5)
noncomputable def r102_4 : List Oper := opsIn 4 f102
noncomputable def q102_12 : Q := .region 4 (fun _ => r102_4) [] false [0, 1, 2, 3, 4, 5, 6] []
noncomputable def r102_5 : List Oper := opsIn 5 f102
noncomputable def q102_15 : Q := .region 5 (fun _ => r102_5) [] false [0, 1, 2, 3, 4, 5, 6] []
noncomputable def q102_14 : Q := .seq (fun _ => q102_15) (fun _ => .ret)
noncomputable def q102_13 : Q := .cond (.tmp 24) (fun _ => q102_14) (fun _ => .skip)
noncomputable def q102_11 : Q := .seq (fun _ => q102_12) (fun _ => q102_13)
noncomputable def r102_6 : List Oper := opsIn 6 f102
noncomputable def q102_17 : Q := .region 6 (fun _ => r102_6) [] true [0, 1, 3, 4, 5, 2, 6, 7, 8, 9, 10, 11] []
noncomputable def r102_7 : List Oper := opsIn 7 f102
noncomputable def q102_19 : Q := .region 7 (fun _ => r102_7) [] true [0, 1, 3, 4, 5, 2, 6, 7, 8, 9, 10, 11] []
noncomputable def r102_8 : List Oper := opsIn 8 f102
noncomputable def q102_21 : Q := .region 8 (fun _ => r102_8) [] false [0, 1, 2, 3, 4, 5, 6, 7, 8] []
noncomputable def r102_9 : List Oper := opsIn 9 f102
noncomputable def q102_24 : Q := .region 9 (fun _ => r102_9) [] false [0, 1, 2] []
noncomputable def r102_10 : List Oper := opsIn 10 f102
noncomputable def q102_26 : Q := .region 10 (fun _ => r102_10) [] false [0, 1, 2] []
noncomputable def q102_25 : Q := .cond (.tmp 60) (fun _ => q102_26) (fun _ => .skip)
noncomputable def q102_23 : Q := .seq (fun _ => q102_24) (fun _ => q102_25)
noncomputable def r102_11 : List Oper := opsIn 11 f102
noncomputable def q102_28 : Q := .region 11 (fun _ => r102_11) [] false [0, 1, 2] []
noncomputable def q102_27 : Q := .seq (fun _ => q102_28) (fun _ => .ret)
noncomputable def q102_22 : Q := .seq (fun _ => q102_23) (fun _ => q102_27)
noncomputable def q102_20 : Q := .seq (fun _ => q102_21) (fun _ => q102_22)
noncomputable def q102_18 : Q := .seq (fun _ => q102_19) (fun _ => q102_20)
noncomputable def q102_16 : Q := .seq (fun _ => q102_17) (fun _ => q102_18)
noncomputable def q102_10 : Q := .seq (fun _ => q102_11) (fun _ => q102_16)
noncomputable def q102_2 : Q := .seq (fun _ => q102_3) (fun _ => q102_10)
noncomputable def q102_0 : Q := .seq (fun _ => q102_1) (fun _ => q102_2)
noncomputable def q102 : Unit → Q := fun _ => q102_0
theorem ok102 : FnOk 102 q102 [.tmp 4, .tmp 5] 64 := .of f102 func102 call102 (by kernel_rfl) (by kernel_rfl) (by kernel_rfl) (by kernel_rfl)

-- parcener/ratio.check
noncomputable def r103_0 : List Oper := opsIn 0 f103
noncomputable def q103_1 : Q := .region 0 (fun _ => r103_0) [] false [0, 1, 2] []
noncomputable def r103_1 : List Oper := opsIn 1 f103
noncomputable def q103_3 : Q := .region 1 (fun _ => r103_1) [] true [0, 2, 1, 3, 4, 5, 6] []
noncomputable def q103_2 : Q := .seq (fun _ => q103_3) (fun _ => .ret)
noncomputable def q103_0 : Q := .seq (fun _ => q103_1) (fun _ => q103_2)
noncomputable def q103 : Unit → Q := fun _ => q103_0
theorem ok103 : FnOk 103 q103 [.tmp 4] 11 := .of f103 func103 call103 (by kernel_rfl) (by kernel_rfl) (by kernel_rfl) (by kernel_rfl)

-- parcener/ratio.size
noncomputable def r104_0 : List Oper := opsIn 0 f104
noncomputable def q104_1 : Q := .region 0 (fun _ => r104_0) [] false [0] []
noncomputable def r104_1 : List Oper := opsIn 1 f104
noncomputable def q104_4 : Q := .region 1 (fun _ => r104_1) [] false [0, 1] []
noncomputable def r104_2 : List Oper := opsIn 2 f104
noncomputable def q104_7 : Q := .region 2 (fun _ => r104_2) [] false [0, 1, 2, 3] []
noncomputable def q104_6 : Q := .seq (fun _ => q104_7) (fun _ => .ret)
noncomputable def q104_5 : Q := .cond (.tmp 4) (fun _ => q104_6) (fun _ => .skip)
noncomputable def q104_3 : Q := .seq (fun _ => q104_4) (fun _ => q104_5)
noncomputable def r104_3 : List Oper := opsIn 3 f104
noncomputable def q104_9 : Q := .region 3 (fun _ => r104_3) [] false [0, 1, 2] []
noncomputable def q104_8 : Q := .seq (fun _ => q104_9) (fun _ => .ret)
noncomputable def q104_2 : Q := .seq (fun _ => q104_3) (fun _ => q104_8)
noncomputable def q104_0 : Q := .seq (fun _ => q104_1) (fun _ => q104_2)
noncomputable def q104 : Unit → Q := fun _ => q104_0
theorem ok104 : FnOk 104 q104 [.tmp 2] 10 := .of f104 func104 call104 (by kernel_rfl) (by kernel_rfl) (by kernel_rfl) (by kernel_rfl)

-- parcener/ratio.gcd
noncomputable def r105_0 : List Oper := opsIn 0 f105
noncomputable def q105_1 : Q := .region 0 (fun _ => r105_0) [] false [0] []
noncomputable def r105_1 : List Oper := opsIn 1 f105
noncomputable def q105_7 : Q := .region 1 (fun _ => r105_1) [] false [0, 1] []
noncomputable def q105_8 : Q := .cond (.tmp 6) (fun _ => .skip) (fun _ => (.exit 0))
noncomputable def q105_6 : Q := .seq (fun _ => q105_7) (fun _ => q105_8)
noncomputable def r105_2 : List Oper := opsIn 2 f105
noncomputable def q105_10 : Q := .region 2 (fun _ => r105_2) [] true [0, 1, 2, 3, 4, 5] []
noncomputable def q105_9 : Q := .block 1 (fun _ => q105_10)
noncomputable def q105_5 : Q := .seq (fun _ => q105_6) (fun _ => q105_9)
noncomputable def q105_4 : Q := .loop (fun _ => q105_5)
noncomputable def q105_3 : Q := .block 0 (fun _ => q105_4)
noncomputable def r105_3 : List Oper := opsIn 3 f105
noncomputable def q105_12 : Q := .region 3 (fun _ => r105_3) [] false [0, 1] []
noncomputable def q105_11 : Q := .seq (fun _ => q105_12) (fun _ => .ret)
noncomputable def q105_2 : Q := .seq (fun _ => q105_3) (fun _ => q105_11)
noncomputable def q105_0 : Q := .seq (fun _ => q105_1) (fun _ => q105_2)
noncomputable def q105 : Unit → Q := fun _ => q105_0
theorem ok105 : FnOk 105 q105 [.tmp 4] 12 := .of f105 func105 call105 (by kernel_rfl) (by kernel_rfl) (by kernel_rfl) (by kernel_rfl)

-- math/bits.Mul64
noncomputable def r106_0 : List Oper := opsIn 0 f106
noncomputable def q106_1 : Q := .region 0 (fun _ => r106_0) [] false [0, 1] []
noncomputable def r106_1 : List Oper := opsIn 1 f106
noncomputable def q106_3 : Q := .region 1 (fun _ => r106_1) [] false [0, 1, 2] []
noncomputable def r106_2 : List Oper := opsIn 2 f106
noncomputable def q106_5 : Q := .region 2 (fun _ => r106_2) [] false [0, 1, 2] []
noncomputable def r106_3 : List Oper := opsIn 3 f106
noncomputable def q106_7 : Q := .region 3 (fun _ => r106_3) [] false [0, 1, 2] []
noncomputable def r106_4 : List Oper := opsIn 4 f106
noncomputable def q106_9 : Q := .region 4 (fun _ => r106_4) [] false [0, 1, 2] []
noncomputable def r106_5 : List Oper := opsIn 5 f106
noncomputable def q106_11 : Q := .region 5 (fun _ => r106_5) [] false [0, 1, 2, 3] []
noncomputable def r106_6 : List Oper := opsIn 6 f106
noncomputable def q106_13 : Q := .region 6 (fun _ => r106_6) [] false [0, 1, 2, 3, 4, 5, 6] []
noncomputable def r106_7 : List Oper := opsIn 7 f106
noncomputable def q106_15 : Q := .region 7 (fun _ => r106_7) [] false [0, 1, 2] []
noncomputable def r106_8 : List Oper := opsIn 8 f106
noncomputable def q106_17 : Q := .region 8 (fun _ => r106_8) [] false [0, 1, 2] []
noncomputable def r106_9 : List Oper := opsIn 9 f106
noncomputable def q106_19 : Q := .region 9 (fun _ => r106_9) [] false [0, 1, 2, 3, 4, 5] []
noncomputable def r106_10 : List Oper := opsIn 10 f106
noncomputable def q106_21 : Q := .region 10 (fun _ => r106_10) [] false [0, 1, 2, 3, 4, 5, 6, 7, 8] []
noncomputable def r106_11 : List Oper := opsIn 11 f106
noncomputable def q106_23 : Q := .region 11 (fun _ => r106_11) [] false [0, 1, 2, 3] []
noncomputable def q106_22 : Q := .seq (fun _ => q106_23) (fun _ => .ret)
noncomputable def q106_20 : Q := .seq (fun _ => q106_21) (fun _ => q106_22)
noncomputable def q106_18 : Q := .seq (fun _ => q106_19) (fun _ => q106_20)
noncomputable def q106_16 : Q := .seq (fun _ => q106_17) (fun _ => q106_18)
noncomputable def q106_14 : Q := .seq (fun _ => q106_15) (fun _ => q106_16)
noncomputable def q106_12 : Q := .seq (fun _ => q106_13) (fun _ => q106_14)
noncomputable def q106_10 : Q := .seq (fun _ => q106_11) (fun _ => q106_12)
noncomputable def q106_8 : Q := .seq (fun _ => q106_9) (fun _ => q106_10)
noncomputable def q106_6 : Q := .seq (fun _ => q106_7) (fun _ => q106_8)
noncomputable def q106_4 : Q := .seq (fun _ => q106_5) (fun _ => q106_6)
noncomputable def q106_2 : Q := .seq (fun _ => q106_3) (fun _ => q106_4)
noncomputable def q106_0 : Q := .seq (fun _ => q106_1) (fun _ => q106_2)
noncomputable def q106 : Unit → Q := fun _ => q106_0
theorem ok106 : FnOk 106 q106 [.tmp 4, .tmp 5] 51 := .of f106 func106 call106 (by kernel_rfl) (by kernel_rfl) (by kernel_rfl) (by kernel_rfl)

-- parcener/ratio.signed
noncomputable def r107_0 : List Oper := opsIn 0 f107
noncomputable def q107_1 : Q := .region 0 (fun _ => r107_0) [] false [0, 1] []
noncomputable def r107_1 : List Oper := opsIn 1 f107
noncomputable def q107_4 : Q := .region 1 (fun _ => r107_1) [] false [0, 1, 2, 3] []
noncomputable def r107_2 : List Oper := opsIn 2 f107
noncomputable def q107_7 : Q := .region 2 (fun _ => r107_2) [] false [0, 1, 2] []
noncomputable def q107_6 : Q := .seq (fun _ => q107_7) (fun _ => .ret)
noncomputable def q107_5 : Q := .cond (.tmp 11) (fun _ => q107_6) (fun _ => .skip)
noncomputable def q107_3 : Q := .seq (fun _ => q107_4) (fun _ => q107_5)
noncomputable def r107_3 : List Oper := opsIn 3 f107
noncomputable def q107_10 : Q := .region 3 (fun _ => r107_3) [] false [0] []
noncomputable def r107_4 : List Oper := opsIn 4 f107
noncomputable def q107_13 : Q := .region 4 (fun _ => r107_4) [] false [0, 1, 2, 3, 4, 5, 6, 7] []
noncomputable def q107_12 : Q := .seq (fun _ => q107_13) (fun _ => .ret)
noncomputable def q107_11 : Q := .cond (.tmp 13) (fun _ => q107_12) (fun _ => .skip)
noncomputable def q107_9 : Q := .seq (fun _ => q107_10) (fun _ => q107_11)
noncomputable def r107_5 : List Oper := opsIn 5 f107
noncomputable def q107_15 : Q := .region 5 (fun _ => r107_5) [] false [0, 1, 2, 3, 4, 5, 6] []
noncomputable def q107_14 : Q := .seq (fun _ => q107_15) (fun _ => .ret)
noncomputable def q107_8 : Q := .seq (fun _ => q107_9) (fun _ => q107_14)
noncomputable def q107_2 : Q := .seq (fun _ => q107_3) (fun _ => q107_8)
noncomputable def q107_0 : Q := .seq (fun _ => q107_1) (fun _ => q107_2)
noncomputable def q107 : Unit → Q := fun _ => q107_0
theorem ok107 : FnOk 107 q107 [.cell 6 43, .tmp 7] 25 := .of f107 func107 call107 (by kernel_rfl) (by kernel_rfl) (by kernel_rfl) (by kernel_rfl)

end Go.SX
