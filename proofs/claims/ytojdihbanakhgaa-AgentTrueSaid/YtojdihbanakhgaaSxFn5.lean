/- The functions of the program: the frame of their code, by numbers. Printed by genfn.py. -/
import Derived.Test.YtojdihbanakhgaaCoreB
import Derived.Test.YtojdihbanakhgaaProg
import Derived.KernelRfl
namespace Go.SX
open Go.Proofs.Try

-- math/bits.Rem64
noncomputable def r110_0 : List Oper := opsIn 0 f110
noncomputable def q110_1 : Q := .region 0 (fun _ => r110_0) [] false [0] []
noncomputable def r110_1 : List Oper := opsIn 1 f110
noncomputable def q110_3 : Q := .region 1 (fun _ => r110_1) [] false [0, 1, 2, 3, 4, 5, 6, 7, 8, 9, 10] []
noncomputable def r110_2 : List Oper := opsIn 2 f110
noncomputable def q110_5 : Q := .region 2 (fun _ => r110_2) [] false [0, 1] []
noncomputable def q110_4 : Q := .seq (fun _ => q110_5) (fun _ => .ret)
noncomputable def q110_2 : Q := .seq (fun _ => q110_3) (fun _ => q110_4)
noncomputable def q110_0 : Q := .seq (fun _ => q110_1) (fun _ => q110_2)
noncomputable def q110 : Unit → Q := fun _ => q110_0
theorem ok110 : FnOk 110 q110 [.tmp 6] 19 := .of f110 func110 call110 (by kernel_rfl) (by kernel_rfl) (by kernel_rfl) (by kernel_rfl)

-- math/bits.Div64
noncomputable def r111_0 : List Oper := opsIn 0 f111
noncomputable def q111_1 : Q := .region 0 (fun _ => r111_0) [] false [0, 1] []
noncomputable def r111_1 : List Oper := opsIn 1 f111
noncomputable def q111_4 : Q := .region 1 (fun _ => r111_1) [] false [0, 1] []
noncomputable def r111_2 : List Oper := opsIn 2 f111
noncomputable def q111_6 : Q := .region 2 (fun _ => r111_2) [] false [0, 1] []
noncomputable def q111_5 : Q := .cond (.tmp 20) (fun _ => q111_6) (fun _ => .skip)
noncomputable def q111_3 : Q := .seq (fun _ => q111_4) (fun _ => q111_5)
noncomputable def r111_3 : List Oper := opsIn 3 f111
noncomputable def q111_9 : Q := .region 3 (fun _ => r111_3) [] false [0, 1, 2] []
noncomputable def r111_4 : List Oper := opsIn 4 f111
noncomputable def q111_11 : Q := .region 4 (fun _ => r111_4) [] false [0, 1] []
noncomputable def q111_10 : Q := .cond (.tmp 24) (fun _ => q111_11) (fun _ => .skip)
noncomputable def q111_8 : Q := .seq (fun _ => q111_9) (fun _ => q111_10)
noncomputable def r111_5 : List Oper := opsIn 5 f111
noncomputable def q111_14 : Q := .region 5 (fun _ => r111_5) [] false [0, 1] []
noncomputable def r111_6 : List Oper := opsIn 6 f111
noncomputable def q111_17 : Q := .region 6 (fun _ => r111_6) [] true [0, 1, 2, 3, 4, 5, 6, 7] []
noncomputable def q111_16 : Q := .seq (fun _ => q111_17) (fun _ => .ret)
noncomputable def q111_15 : Q := .cond (.tmp 27) (fun _ => q111_16) (fun _ => .skip)
noncomputable def q111_13 : Q := .seq (fun _ => q111_14) (fun _ => q111_15)
noncomputable def r111_7 : List Oper := opsIn 7 f111
noncomputable def q111_19 : Q := .region 7 (fun _ => r111_7) [] false [0, 1, 2, 3] []
noncomputable def r111_8 : List Oper := opsIn 8 f111
noncomputable def q111_21 : Q := .region 8 (fun _ => r111_8) [] false [0, 1, 2, 3] []
noncomputable def r111_9 : List Oper := opsIn 9 f111
noncomputable def q111_23 : Q := .region 9 (fun _ => r111_9) [] false [0, 1, 2] []
noncomputable def r111_10 : List Oper := opsIn 10 f111
noncomputable def q111_25 : Q := .region 10 (fun _ => r111_10) [] false [0, 1, 2] []
noncomputable def r111_11 : List Oper := opsIn 11 f111
noncomputable def q111_27 : Q := .region 11 (fun _ => r111_11) [] false [0, 1, 2, 3, 4, 5, 6, 7, 8] []
noncomputable def r111_12 : List Oper := opsIn 12 f111
noncomputable def q111_29 : Q := .region 12 (fun _ => r111_12) [] false [0, 1, 2, 3] []
noncomputable def r111_13 : List Oper := opsIn 13 f111
noncomputable def q111_31 : Q := .region 13 (fun _ => r111_13) [] false [0, 1, 2] []
noncomputable def r111_14 : List Oper := opsIn 14 f111
noncomputable def q111_33 : Q := .region 14 (fun _ => r111_14) [] false [0, 1, 2] []
noncomputable def r111_15 : List Oper := opsIn 15 f111
noncomputable def q111_35 : Q := .region 15 (fun _ => r111_15) [] false [0, 1, 2, 3] []
noncomputable def r111_16 : List Oper := opsIn 16 f111
noncomputable def q111_37 : Q := .region 16 (fun _ => r111_16) [] false [0, 1, 2, 3, 4, 5] []
noncomputable def r111_17 : List Oper := opsIn 17 f111
noncomputable def q111_43 : Q := .region 17 (fun _ => r111_17) [2] false [0, 1, 2, 3, 4, 5, 6, 7, 8, 9, 10, 11] []
noncomputable def q111_44 : Q := .cond (.tmp 78) (fun _ => .skip) (fun _ => (.exit 0))
noncomputable def q111_42 : Q := .seq (fun _ => q111_43) (fun _ => q111_44)
noncomputable def r111_18 : List Oper := opsIn 18 f111
noncomputable def q111_47 : Q := .region 18 (fun _ => r111_18) [] false [0, 1, 2] []
noncomputable def r111_19 : List Oper := opsIn 19 f111
noncomputable def q111_49 : Q := .region 19 (fun _ => r111_19) [] false [0, 1, 2, 3] []
noncomputable def r111_20 : List Oper := opsIn 20 f111
noncomputable def q111_51 : Q := .region 20 (fun _ => r111_20) [] false [0, 1] []
noncomputable def q111_52 : Q := .cond (.tmp 85) (fun _ => (.exit 0)) (fun _ => .skip)
noncomputable def q111_50 : Q := .seq (fun _ => q111_51) (fun _ => q111_52)
noncomputable def q111_48 : Q := .seq (fun _ => q111_49) (fun _ => q111_50)
noncomputable def q111_46 : Q := .seq (fun _ => q111_47) (fun _ => q111_48)
noncomputable def q111_45 : Q := .block 1 (fun _ => q111_46)
noncomputable def q111_41 : Q := .seq (fun _ => q111_42) (fun _ => q111_45)
noncomputable def q111_40 : Q := .loop (fun _ => q111_41)
noncomputable def q111_39 : Q := .block 0 (fun _ => q111_40)
noncomputable def r111_21 : List Oper := opsIn 21 f111
noncomputable def q111_54 : Q := .region 21 (fun _ => r111_21) [] false [0, 1, 2, 3, 4, 5, 6, 7, 8] []
noncomputable def r111_22 : List Oper := opsIn 22 f111
noncomputable def q111_56 : Q := .region 22 (fun _ => r111_22) [] false [0, 1, 2, 3] []
noncomputable def r111_23 : List Oper := opsIn 23 f111
noncomputable def q111_58 : Q := .region 23 (fun _ => r111_23) [] false [0, 1, 2, 3, 4, 5] []
noncomputable def r111_24 : List Oper := opsIn 24 f111
noncomputable def q111_64 : Q := .region 24 (fun _ => r111_24) [2] false [0, 1, 2, 3, 4, 5, 6, 7, 8, 9, 10, 11] []
noncomputable def q111_65 : Q := .cond (.tmp 113) (fun _ => .skip) (fun _ => (.exit 2))
noncomputable def q111_63 : Q := .seq (fun _ => q111_64) (fun _ => q111_65)
noncomputable def r111_25 : List Oper := opsIn 25 f111
noncomputable def q111_68 : Q := .region 25 (fun _ => r111_25) [] false [0, 1, 2] []
noncomputable def r111_26 : List Oper := opsIn 26 f111
noncomputable def q111_70 : Q := .region 26 (fun _ => r111_26) [] false [0, 1, 2, 3] []
noncomputable def r111_27 : List Oper := opsIn 27 f111
noncomputable def q111_72 : Q := .region 27 (fun _ => r111_27) [] false [0, 1] []
noncomputable def q111_73 : Q := .cond (.tmp 120) (fun _ => (.exit 2)) (fun _ => .skip)
noncomputable def q111_71 : Q := .seq (fun _ => q111_72) (fun _ => q111_73)
noncomputable def q111_69 : Q := .seq (fun _ => q111_70) (fun _ => q111_71)
noncomputable def q111_67 : Q := .seq (fun _ => q111_68) (fun _ => q111_69)
noncomputable def q111_66 : Q := .block 3 (fun _ => q111_67)
noncomputable def q111_62 : Q := .seq (fun _ => q111_63) (fun _ => q111_66)
noncomputable def q111_61 : Q := .loop (fun _ => q111_62)
noncomputable def q111_60 : Q := .block 2 (fun _ => q111_61)
noncomputable def r111_28 : List Oper := opsIn 28 f111
noncomputable def q111_75 : Q := .region 28 (fun _ => r111_28) [] false [0, 1, 2, 3, 4, 5, 6, 7, 8, 9, 10, 11, 12, 13, 14, 15] []
noncomputable def q111_74 : Q := .seq (fun _ => q111_75) (fun _ => .ret)
noncomputable def q111_59 : Q := .seq (fun _ => q111_60) (fun _ => q111_74)
noncomputable def q111_57 : Q := .seq (fun _ => q111_58) (fun _ => q111_59)
noncomputable def q111_55 : Q := .seq (fun _ => q111_56) (fun _ => q111_57)
noncomputable def q111_53 : Q := .seq (fun _ => q111_54) (fun _ => q111_55)
noncomputable def q111_38 : Q := .seq (fun _ => q111_39) (fun _ => q111_53)
noncomputable def q111_36 : Q := .seq (fun _ => q111_37) (fun _ => q111_38)
noncomputable def q111_34 : Q := .seq (fun _ => q111_35) (fun _ => q111_36)
noncomputable def q111_32 : Q := .seq (fun _ => q111_33) (fun _ => q111_34)
noncomputable def q111_30 : Q := .seq (fun _ => q111_31) (fun _ => q111_32)
noncomputable def q111_28 : Q := .seq (fun _ => q111_29) (fun _ => q111_30)
noncomputable def q111_26 : Q := .seq (fun _ => q111_27) (fun _ => q111_28)
noncomputable def q111_24 : Q := .seq (fun _ => q111_25) (fun _ => q111_26)
noncomputable def q111_22 : Q := .seq (fun _ => q111_23) (fun _ => q111_24)
noncomputable def q111_20 : Q := .seq (fun _ => q111_21) (fun _ => q111_22)
noncomputable def q111_18 : Q := .seq (fun _ => q111_19) (fun _ => q111_20)
noncomputable def q111_12 : Q := .seq (fun _ => q111_13) (fun _ => q111_18)
noncomputable def q111_7 : Q := .seq (fun _ => q111_8) (fun _ => q111_12)
noncomputable def q111_2 : Q := .seq (fun _ => q111_3) (fun _ => q111_7)
noncomputable def q111_0 : Q := .seq (fun _ => q111_1) (fun _ => q111_2)
noncomputable def q111 : Unit → Q := fun _ => q111_0
theorem ok111 : FnOk 111 q111 [.tmp 6, .tmp 7] 135 := .of f111 func111 call111 (by kernel_rfl) (by kernel_rfl) (by kernel_rfl) (by kernel_rfl)

-- parcener/parcenerref02.Point
noncomputable def r112_0 : List Oper := opsIn 0 f112
noncomputable def q112_1 : Q := .region 0 (fun _ => r112_0) [] false [0, 1] []
noncomputable def r112_1 : List Oper := opsIn 1 f112
noncomputable def q112_3 : Q := .region 1 (fun _ => r112_1) [3, 8] true [0, 1, 2, 3, 4, 5, 6, 7, 8, 9, 11, 10, 12, 13, 14, 15] []
noncomputable def q112_2 : Q := .seq (fun _ => q112_3) (fun _ => .ret)
noncomputable def q112_0 : Q := .seq (fun _ => q112_1) (fun _ => q112_2)
noncomputable def q112 : Unit → Q := fun _ => q112_0
theorem ok112 : FnOk 112 q112 [.tmp 4] 20 := .of f112 func112 call112 (by kernel_rfl) (by kernel_rfl) (by kernel_rfl) (by kernel_rfl)

-- parcener/parcenerref01.Less
noncomputable def r113_0 : List Oper := opsIn 0 f113
noncomputable def q113_1 : Q := .region 0 (fun _ => r113_0) [] false [0, 1, 2] []
noncomputable def r113_1 : List Oper := opsIn 1 f113
noncomputable def q113_4 : Q := .region 1 (fun _ => r113_1) [] false [0, 1, 2, 3, 4, 5, 6] []
noncomputable def r113_2 : List Oper := opsIn 2 f113
noncomputable def q113_7 : Q := .region 2 (fun _ => r113_2) [] false [0, 1, 2, 3] []
noncomputable def q113_6 : Q := .seq (fun _ => q113_7) (fun _ => .ret)
noncomputable def q113_5 : Q := .cond (.tmp 13) (fun _ => q113_6) (fun _ => .skip)
noncomputable def q113_3 : Q := .seq (fun _ => q113_4) (fun _ => q113_5)
noncomputable def r113_3 : List Oper := opsIn 3 f113
noncomputable def q113_9 : Q := .region 3 (fun _ => r113_3) [] true [0, 1, 3, 4, 5, 7, 8, 10, 11, 12, 2, 6, 9, 13, 14, 15, 16, 17] []
noncomputable def r113_4 : List Oper := opsIn 4 f113
noncomputable def q113_12 : Q := .region 4 (fun _ => r113_4) [] false [0, 1, 2] []
noncomputable def r113_5 : List Oper := opsIn 5 f113
noncomputable def q113_15 : Q := .region 5 (fun _ => r113_5) [] false [0, 1, 2, 3] []
noncomputable def q113_14 : Q := .seq (fun _ => q113_15) (fun _ => .ret)
noncomputable def q113_13 : Q := .cond (.tmp 33) (fun _ => q113_14) (fun _ => .skip)
noncomputable def q113_11 : Q := .seq (fun _ => q113_12) (fun _ => q113_13)
noncomputable def r113_6 : List Oper := opsIn 6 f113
noncomputable def q113_17 : Q := .region 6 (fun _ => r113_6) [] false [0, 1, 2, 3] []
noncomputable def q113_16 : Q := .seq (fun _ => q113_17) (fun _ => .ret)
noncomputable def q113_10 : Q := .seq (fun _ => q113_11) (fun _ => q113_16)
noncomputable def q113_8 : Q := .seq (fun _ => q113_9) (fun _ => q113_10)
noncomputable def q113_2 : Q := .seq (fun _ => q113_3) (fun _ => q113_8)
noncomputable def q113_0 : Q := .seq (fun _ => q113_1) (fun _ => q113_2)
noncomputable def q113 : Unit → Q := fun _ => q113_0
theorem ok113 : FnOk 113 q113 [.tmp 4] 40 := .of f113 func113 call113 (by kernel_rfl) (by kernel_rfl) (by kernel_rfl) (by kernel_rfl)

-- parcener/parcenerref02.worth
noncomputable def r114_0 : List Oper := opsIn 0 f114
noncomputable def q114_1 : Q := .region 0 (fun _ => r114_0) [] false [0, 1, 2, 3, 4] []
noncomputable def r114_1 : List Oper := opsIn 1 f114
noncomputable def q114_3 : Q := .region 1 (fun _ => r114_1) [] true [0, 1, 2, 3, 4, 5, 8, 9, 10, 11, 12, 13, 14, 6, 7, 15, 16, 17, 18, 19, 20] []
noncomputable def r114_2 : List Oper := opsIn 2 f114
noncomputable def q114_6 : Q := .region 2 (fun _ => r114_2) [4] false [0, 1, 2, 3, 4, 5, 6, 7, 8, 9, 10, 11] []
noncomputable def r114_3 : List Oper := opsIn 3 f114
noncomputable def q114_9 : Q := .region 3 (fun _ => r114_3) [] false [0, 1, 2] []
noncomputable def q114_8 : Q := .seq (fun _ => q114_9) (fun _ => .ret)
noncomputable def q114_7 : Q := .cond (.tmp 42) (fun _ => q114_8) (fun _ => .skip)
noncomputable def q114_5 : Q := .seq (fun _ => q114_6) (fun _ => q114_7)
noncomputable def r114_4 : List Oper := opsIn 4 f114
noncomputable def q114_11 : Q := .region 4 (fun _ => r114_4) [] false [0, 1, 2, 3, 4, 5, 6, 7, 8] []
noncomputable def r114_5 : List Oper := opsIn 5 f114
noncomputable def q114_14 : Q := .region 5 (fun _ => r114_5) [] false [0, 1] []
noncomputable def r114_6 : List Oper := opsIn 6 f114
noncomputable def q114_17 : Q := .region 6 (fun _ => r114_6) [] false [0, 1, 2, 3] []
noncomputable def q114_16 : Q := .seq (fun _ => q114_17) (fun _ => .ret)
noncomputable def q114_15 : Q := .cond (.tmp 51) (fun _ => q114_16) (fun _ => .skip)
noncomputable def q114_13 : Q := .seq (fun _ => q114_14) (fun _ => q114_15)
noncomputable def r114_7 : List Oper := opsIn 7 f114
noncomputable def q114_19 : Q := .region 7 (fun _ => r114_7) [] true [0, 1, 2, 3, 4, 5, 6, 7, 8, 9, 10, 11] []
noncomputable def q114_18 : Q := .seq (fun _ => q114_19) (fun _ => .ret)
noncomputable def q114_12 : Q := .seq (fun _ => q114_13) (fun _ => q114_18)
noncomputable def q114_10 : Q := .seq (fun _ => q114_11) (fun _ => q114_12)
noncomputable def q114_4 : Q := .seq (fun _ => q114_5) (fun _ => q114_10)
noncomputable def q114_2 : Q := .seq (fun _ => q114_3) (fun _ => q114_4)
noncomputable def q114_0 : Q := .seq (fun _ => q114_1) (fun _ => q114_2)
noncomputable def q114 : Unit → Q := fun _ => q114_0
theorem ok114 : FnOk 114 q114 [.cell 8 43, .tmp 9] 64 := .of f114 func114 call114 (by kernel_rfl) (by kernel_rfl) (by kernel_rfl) (by kernel_rfl)

-- parcener/parcenerref01.Add
noncomputable def r115_0 : List Oper := opsIn 0 f115
noncomputable def q115_1 : Q := .region 0 (fun _ => r115_0) [] false [0, 1, 2, 3] []
noncomputable def r115_1 : List Oper := opsIn 1 f115
noncomputable def q115_4 : Q := .region 1 (fun _ => r115_1) [] false [0, 1, 2, 3] []
noncomputable def r115_2 : List Oper := opsIn 2 f115
noncomputable def q115_7 : Q := .region 2 (fun _ => r115_2) [] false [0, 1, 2, 3, 4, 5] []
noncomputable def q115_6 : Q := .seq (fun _ => q115_7) (fun _ => .ret)
noncomputable def q115_5 : Q := .cond (.tmp 19) (fun _ => q115_6) (fun _ => .skip)
noncomputable def q115_3 : Q := .seq (fun _ => q115_4) (fun _ => q115_5)
noncomputable def r115_3 : List Oper := opsIn 3 f115
noncomputable def q115_9 : Q := .region 3 (fun _ => r115_3) [] false [0, 1, 2, 3, 4, 5, 6, 7] []
noncomputable def r115_4 : List Oper := opsIn 4 f115
noncomputable def q115_11 : Q := .region 4 (fun _ => r115_4) [] true [0, 1, 3, 4, 5, 6, 7, 9, 10, 12, 13, 14, 15, 16, 2, 8, 11, 17, 18, 19, 20, 21] []
noncomputable def r115_5 : List Oper := opsIn 5 f115
noncomputable def q115_13 : Q := .region 5 (fun _ => r115_5) [] false [0, 1, 2, 3] []
noncomputable def r115_6 : List Oper := opsIn 6 f115
noncomputable def q115_15 : Q := .region 6 (fun _ => r115_6) [] false [0, 1, 2, 3, 4] []
noncomputable def r115_7 : List Oper := opsIn 7 f115
noncomputable def q115_18 : Q := .region 7 (fun _ => r115_7) [] false [0, 1, 2, 3, 4, 5, 6] []
noncomputable def r115_8 : List Oper := opsIn 8 f115
noncomputable def q115_21 : Q := .region 8 (fun _ => r115_8) [] false [0, 1, 2, 3] []
noncomputable def r115_9 : List Oper := opsIn 9 f115
noncomputable def q115_23 : Q := .region 9 (fun _ => r115_9) [] false [0, 1, 2] []
noncomputable def r115_10 : List Oper := opsIn 10 f115
noncomputable def q115_26 : Q := .region 10 (fun _ => r115_10) [] false [0, 1, 2, 3] []
noncomputable def r115_11 : List Oper := opsIn 11 f115
noncomputable def q115_27 : Q := .region 11 (fun _ => r115_11) [] false [0, 1, 2, 3] []
noncomputable def q115_25 : Q := .seq (fun _ => q115_26) (fun _ => q115_27)
noncomputable def q115_24 : Q := .cond (.tmp 67) (fun _ => q115_25) (fun _ => .skip)
noncomputable def q115_22 : Q := .seq (fun _ => q115_23) (fun _ => q115_24)
noncomputable def q115_20 : Q := .seq (fun _ => q115_21) (fun _ => q115_22)
noncomputable def q115_19 : Q := .cond (.tmp 61) (fun _ => q115_20) (fun _ => .skip)
noncomputable def q115_17 : Q := .seq (fun _ => q115_18) (fun _ => q115_19)
noncomputable def r115_12 : List Oper := opsIn 12 f115
noncomputable def q115_30 : Q := .region 12 (fun _ => r115_12) [] false [0, 1, 2] []
noncomputable def r115_13 : List Oper := opsIn 13 f115
noncomputable def q115_33 : Q := .region 13 (fun _ => r115_13) [] false [0, 1, 2] []
noncomputable def q115_32 : Q := .seq (fun _ => q115_33) (fun _ => .ret)
noncomputable def q115_31 : Q := .cond (.tmp 76) (fun _ => q115_32) (fun _ => .skip)
noncomputable def q115_29 : Q := .seq (fun _ => q115_30) (fun _ => q115_31)
noncomputable def r115_14 : List Oper := opsIn 14 f115
noncomputable def q115_35 : Q := .region 14 (fun _ => r115_14) [] false [0, 1, 2, 3, 4, 5, 6, 7, 8] []
noncomputable def r115_15 : List Oper := opsIn 15 f115
noncomputable def q115_37 : Q := .region 15 (fun _ => r115_15) [] false [0, 1, 2, 3] []
noncomputable def r115_16 : List Oper := opsIn 16 f115
noncomputable def q115_39 : Q := .region 16 (fun _ => r115_16) [] false [0, 1, 2, 3, 4, 5, 6, 7, 8] []
noncomputable def r115_17 : List Oper := opsIn 17 f115
noncomputable def q115_41 : Q := .region 17 (fun _ => r115_17) [] true [0, 1, 2, 3, 4, 5, 6, 7, 8, 9, 10, 11, 12, 13, 14, 15, 16, 17] []
noncomputable def q115_40 : Q := .seq (fun _ => q115_41) (fun _ => .ret)
noncomputable def q115_38 : Q := .seq (fun _ => q115_39) (fun _ => q115_40)
noncomputable def q115_36 : Q := .seq (fun _ => q115_37) (fun _ => q115_38)
noncomputable def q115_34 : Q := .seq (fun _ => q115_35) (fun _ => q115_36)
noncomputable def q115_28 : Q := .seq (fun _ => q115_29) (fun _ => q115_34)
noncomputable def q115_16 : Q := .seq (fun _ => q115_17) (fun _ => q115_28)
noncomputable def q115_14 : Q := .seq (fun _ => q115_15) (fun _ => q115_16)
noncomputable def q115_12 : Q := .seq (fun _ => q115_13) (fun _ => q115_14)
noncomputable def q115_10 : Q := .seq (fun _ => q115_11) (fun _ => q115_12)
noncomputable def q115_8 : Q := .seq (fun _ => q115_9) (fun _ => q115_10)
noncomputable def q115_2 : Q := .seq (fun _ => q115_3) (fun _ => q115_8)
noncomputable def q115_0 : Q := .seq (fun _ => q115_1) (fun _ => q115_2)
noncomputable def q115 : Unit → Q := fun _ => q115_0
theorem ok115 : FnOk 115 q115 [.cell 4 43, .tmp 5] 109 := .of f115 func115 call115 (by kernel_rfl) (by kernel_rfl) (by kernel_rfl) (by kernel_rfl)

-- parcener/parcenerref01.Check
noncomputable def r116_0 : List Oper := opsIn 0 f116
noncomputable def q116_1 : Q := .region 0 (fun _ => r116_0) [] false [0, 1] []
noncomputable def r116_1 : List Oper := opsIn 1 f116
noncomputable def q116_4 : Q := .region 1 (fun _ => r116_1) [3, 8, 13, 18] true [0, 1, 2, 3, 4, 5, 6, 7, 8, 9, 10, 11, 12, 13, 14, 15, 16, 17, 18, 19, 20, 22, 23, 24, 21, 25, 26, 27] []
noncomputable def r116_2 : List Oper := opsIn 2 f116
noncomputable def q116_7 : Q := .region 2 (fun _ => r116_2) [] false [0] []
noncomputable def q116_6 : Q := .seq (fun _ => q116_7) (fun _ => .ret)
noncomputable def q116_5 : Q := .cond (.tmp 30) (fun _ => q116_6) (fun _ => .skip)
noncomputable def q116_3 : Q := .seq (fun _ => q116_4) (fun _ => q116_5)
noncomputable def r116_3 : List Oper := opsIn 3 f116
noncomputable def q116_9 : Q := .region 3 (fun _ => r116_3) [] false [0] []
noncomputable def q116_8 : Q := .seq (fun _ => q116_9) (fun _ => .ret)
noncomputable def q116_2 : Q := .seq (fun _ => q116_3) (fun _ => q116_8)
noncomputable def q116_0 : Q := .seq (fun _ => q116_1) (fun _ => q116_2)
noncomputable def q116 : Unit → Q := fun _ => q116_0
theorem ok116 : FnOk 116 q116 [.tmp 2] 31 := .of f116 func116 call116 (by kernel_rfl) (by kernel_rfl) (by kernel_rfl) (by kernel_rfl)

-- parcener/parcenerref02.later
noncomputable def r117_0 : List Oper := opsIn 0 f117
noncomputable def q117_1 : Q := .region 0 (fun _ => r117_0) [] false [0, 1, 2] []
noncomputable def r117_1 : List Oper := opsIn 1 f117
noncomputable def q117_4 : Q := .region 1 (fun _ => r117_1) [] false [0, 1, 2] []
noncomputable def r117_2 : List Oper := opsIn 2 f117
noncomputable def q117_7 : Q := .region 2 (fun _ => r117_2) [] false [0, 1] []
noncomputable def q117_6 : Q := .seq (fun _ => q117_7) (fun _ => .ret)
noncomputable def q117_5 : Q := .cond (.tmp 7) (fun _ => q117_6) (fun _ => .skip)
noncomputable def q117_3 : Q := .seq (fun _ => q117_4) (fun _ => q117_5)
noncomputable def r117_3 : List Oper := opsIn 3 f117
noncomputable def q117_9 : Q := .region 3 (fun _ => r117_3) [] false [0, 1] []
noncomputable def q117_8 : Q := .seq (fun _ => q117_9) (fun _ => .ret)
noncomputable def q117_2 : Q := .seq (fun _ => q117_3) (fun _ => q117_8)
noncomputable def q117_0 : Q := .seq (fun _ => q117_1) (fun _ => q117_2)
noncomputable def q117 : Unit → Q := fun _ => q117_0
theorem ok117 : FnOk 117 q117 [.cell 4 43] 10 := .of f117 func117 call117 (by kernel_rfl) (by kernel_rfl) (by kernel_rfl) (by kernel_rfl)

-- parcener/parcenerref01.Div
noncomputable def r118_0 : List Oper := opsIn 0 f118
noncomputable def q118_1 : Q := .region 0 (fun _ => r118_0) [] false [0, 1, 2, 3] []
noncomputable def r118_1 : List Oper := opsIn 1 f118
noncomputable def q118_4 : Q := .region 1 (fun _ => r118_1) [] false [0, 1, 2, 3] []
noncomputable def r118_2 : List Oper := opsIn 2 f118
noncomputable def q118_7 : Q := .region 2 (fun _ => r118_2) [] false [0, 1, 2, 3, 4, 5] []
noncomputable def q118_6 : Q := .seq (fun _ => q118_7) (fun _ => .ret)
noncomputable def q118_5 : Q := .cond (.tmp 10) (fun _ => q118_6) (fun _ => .skip)
noncomputable def q118_3 : Q := .seq (fun _ => q118_4) (fun _ => q118_5)
noncomputable def r118_3 : List Oper := opsIn 3 f118
noncomputable def q118_10 : Q := .region 3 (fun _ => r118_3) [] false [0, 1, 2] []
noncomputable def r118_4 : List Oper := opsIn 4 f118
noncomputable def q118_13 : Q := .region 4 (fun _ => r118_4) [] false [0, 1, 2] []
noncomputable def q118_12 : Q := .seq (fun _ => q118_13) (fun _ => .ret)
noncomputable def q118_11 : Q := .cond (.tmp 17) (fun _ => q118_12) (fun _ => .skip)
noncomputable def q118_9 : Q := .seq (fun _ => q118_10) (fun _ => q118_11)
noncomputable def r118_5 : List Oper := opsIn 5 f118
noncomputable def q118_15 : Q := .region 5 (fun _ => r118_5) [] false [0, 1, 2, 3, 4, 5, 6] []
noncomputable def r118_6 : List Oper := opsIn 6 f118
noncomputable def q118_18 : Q := .region 6 (fun _ => r118_6) [] false [0, 1, 2] []
noncomputable def r118_7 : List Oper := opsIn 7 f118
noncomputable def q118_20 : Q := .region 7 (fun _ => r118_7) [] false [0, 1, 2, 3, 4, 5, 6, 7] []
noncomputable def q118_19 : Q := .cond (.tmp 26) (fun _ => q118_20) (fun _ => .skip)
noncomputable def q118_17 : Q := .seq (fun _ => q118_18) (fun _ => q118_19)
noncomputable def r118_8 : List Oper := opsIn 8 f118
noncomputable def q118_22 : Q := .region 8 (fun _ => r118_8) [] false [0, 1, 2, 3, 4, 5, 6] []
noncomputable def q118_21 : Q := .seq (fun _ => q118_22) (fun _ => .ret)
noncomputable def q118_16 : Q := .seq (fun _ => q118_17) (fun _ => q118_21)
noncomputable def q118_14 : Q := .seq (fun _ => q118_15) (fun _ => q118_16)
noncomputable def q118_8 : Q := .seq (fun _ => q118_9) (fun _ => q118_14)
noncomputable def q118_2 : Q := .seq (fun _ => q118_3) (fun _ => q118_8)
noncomputable def q118_0 : Q := .seq (fun _ => q118_1) (fun _ => q118_2)
noncomputable def q118 : Unit → Q := fun _ => q118_0
theorem ok118 : FnOk 118 q118 [.cell 4 43, .tmp 5] 39 := .of f118 func118 call118 (by kernel_rfl) (by kernel_rfl) (by kernel_rfl) (by kernel_rfl)

-- parcener/parcenerref01.Sub
noncomputable def r119_0 : List Oper := opsIn 0 f119
noncomputable def q119_1 : Q := .region 0 (fun _ => r119_0) [] false [0, 1, 2, 3] []
noncomputable def r119_1 : List Oper := opsIn 1 f119
noncomputable def q119_4 : Q := .region 1 (fun _ => r119_1) [] false [0, 1, 2, 3] []
noncomputable def r119_2 : List Oper := opsIn 2 f119
noncomputable def q119_7 : Q := .region 2 (fun _ => r119_2) [] false [0, 1, 2, 3, 4, 5] []
noncomputable def q119_6 : Q := .seq (fun _ => q119_7) (fun _ => .ret)
noncomputable def q119_5 : Q := .cond (.tmp 9) (fun _ => q119_6) (fun _ => .skip)
noncomputable def q119_3 : Q := .seq (fun _ => q119_4) (fun _ => q119_5)
noncomputable def r119_3 : List Oper := opsIn 3 f119
noncomputable def q119_9 : Q := .region 3 (fun _ => r119_3) [] true [0, 1, 2, 3, 4, 5, 6, 7] []
noncomputable def q119_8 : Q := .seq (fun _ => q119_9) (fun _ => .ret)
noncomputable def q119_2 : Q := .seq (fun _ => q119_3) (fun _ => q119_8)
noncomputable def q119_0 : Q := .seq (fun _ => q119_1) (fun _ => q119_2)
noncomputable def q119 : Unit → Q := fun _ => q119_0
theorem ok119 : FnOk 119 q119 [.cell 4 43, .tmp 5] 20 := .of f119 func119 call119 (by kernel_rfl) (by kernel_rfl) (by kernel_rfl) (by kernel_rfl)

-- cmp.Compare[int64]
noncomputable def r120_0 : List Oper := opsIn 0 f120
noncomputable def q120_1 : Q := .region 0 (fun _ => r120_0) [] false [0] []
noncomputable def r120_1 : List Oper := opsIn 1 f120
noncomputable def q120_3 : Q := .region 1 (fun _ => r120_1) [] false [0, 1, 2] []
noncomputable def r120_2 : List Oper := opsIn 2 f120
noncomputable def q120_5 : Q := .region 2 (fun _ => r120_2) [] false [0, 1, 2] []
noncomputable def r120_3 : List Oper := opsIn 3 f120
noncomputable def q120_8 : Q := .region 3 (fun _ => r120_3) [] false [0] []
noncomputable def r120_4 : List Oper := opsIn 4 f120
noncomputable def q120_12 : Q := .region 4 (fun _ => r120_4) [] false [0] []
noncomputable def r120_5 : List Oper := opsIn 5 f120
noncomputable def q120_15 : Q := .region 5 (fun _ => r120_5) [] false [0] []
noncomputable def q120_14 : Q := .seq (fun _ => q120_15) (fun _ => .ret)
noncomputable def q120_13 : Q := .cond (.tmp 12) (fun _ => q120_14) (fun _ => .skip)
noncomputable def q120_11 : Q := .seq (fun _ => q120_12) (fun _ => q120_13)
noncomputable def r120_6 : List Oper := opsIn 6 f120
noncomputable def q120_17 : Q := .region 6 (fun _ => r120_6) [] false [0] []
noncomputable def q120_16 : Q := .seq (fun _ => q120_17) (fun _ => .ret)
noncomputable def q120_10 : Q := .seq (fun _ => q120_11) (fun _ => q120_16)
noncomputable def q120_9 : Q := .cond (.tmp 11) (fun _ => q120_10) (fun _ => .skip)
noncomputable def q120_7 : Q := .seq (fun _ => q120_8) (fun _ => q120_9)
noncomputable def r120_7 : List Oper := opsIn 7 f120
noncomputable def q120_20 : Q := .region 7 (fun _ => r120_7) [] false [0] []
noncomputable def r120_8 : List Oper := opsIn 8 f120
noncomputable def q120_23 : Q := .region 8 (fun _ => r120_8) [] false [0] []
noncomputable def q120_22 : Q := .seq (fun _ => q120_23) (fun _ => .ret)
noncomputable def q120_21 : Q := .cond (.tmp 13) (fun _ => q120_22) (fun _ => .skip)
noncomputable def q120_19 : Q := .seq (fun _ => q120_20) (fun _ => q120_21)
noncomputable def r120_9 : List Oper := opsIn 9 f120
noncomputable def q120_26 : Q := .region 9 (fun _ => r120_9) [] false [0, 1, 2] []
noncomputable def r120_10 : List Oper := opsIn 10 f120
noncomputable def q120_29 : Q := .region 10 (fun _ => r120_10) [] false [0] []
noncomputable def q120_28 : Q := .seq (fun _ => q120_29) (fun _ => .ret)
noncomputable def q120_27 : Q := .cond (.tmp 16) (fun _ => q120_28) (fun _ => .skip)
noncomputable def q120_25 : Q := .seq (fun _ => q120_26) (fun _ => q120_27)
noncomputable def r120_11 : List Oper := opsIn 11 f120
noncomputable def q120_32 : Q := .region 11 (fun _ => r120_11) [] false [0, 1, 2] []
noncomputable def r120_12 : List Oper := opsIn 12 f120
noncomputable def q120_35 : Q := .region 12 (fun _ => r120_12) [] false [0] []
noncomputable def q120_34 : Q := .seq (fun _ => q120_35) (fun _ => .ret)
noncomputable def q120_33 : Q := .cond (.tmp 19) (fun _ => q120_34) (fun _ => .skip)
noncomputable def q120_31 : Q := .seq (fun _ => q120_32) (fun _ => q120_33)
noncomputable def r120_13 : List Oper := opsIn 13 f120
noncomputable def q120_37 : Q := .region 13 (fun _ => r120_13) [] false [0] []
noncomputable def q120_36 : Q := .seq (fun _ => q120_37) (fun _ => .ret)
noncomputable def q120_30 : Q := .seq (fun _ => q120_31) (fun _ => q120_36)
noncomputable def q120_24 : Q := .seq (fun _ => q120_25) (fun _ => q120_30)
noncomputable def q120_18 : Q := .seq (fun _ => q120_19) (fun _ => q120_24)
noncomputable def q120_6 : Q := .seq (fun _ => q120_7) (fun _ => q120_18)
noncomputable def q120_4 : Q := .seq (fun _ => q120_5) (fun _ => q120_6)
noncomputable def q120_2 : Q := .seq (fun _ => q120_3) (fun _ => q120_4)
noncomputable def q120_0 : Q := .seq (fun _ => q120_1) (fun _ => q120_2)
noncomputable def q120 : Unit → Q := fun _ => q120_0
theorem ok120 : FnOk 120 q120 [.tmp 4] 20 := .of f120 func120 call120 (by kernel_rfl) (by kernel_rfl) (by kernel_rfl) (by kernel_rfl)

-- cmp.Or[int]
noncomputable def r121_0 : List Oper := opsIn 0 f121
noncomputable def q121_1 : Q := .region 0 (fun _ => r121_0) [] false [0] []
noncomputable def r121_1 : List Oper := opsIn 1 f121
noncomputable def q121_3 : Q := .region 1 (fun _ => r121_1) [] false [0] []
noncomputable def r121_2 : List Oper := opsIn 2 f121
noncomputable def q121_6 : Q := .region 2 (fun _ => r121_2) [] false [0, 1, 2] []
noncomputable def r121_3 : List Oper := opsIn 3 f121
noncomputable def q121_10 : Q := .region 3 (fun _ => r121_3) [] false [0] []
noncomputable def q121_12 : Q := .cond (.tmp 9) (fun _ => .skip) (fun _ => (.exit 0))
noncomputable def r121_4 : List Oper := opsIn 4 f121
noncomputable def q121_16 : Q := .region 4 (fun _ => r121_4) [] false [0, 1, 2] []
noncomputable def r121_5 : List Oper := opsIn 5 f121
noncomputable def q121_18 : Q := .region 5 (fun _ => r121_5) [] false [0, 1, 2] []
noncomputable def r121_6 : List Oper := opsIn 6 f121
noncomputable def q121_21 : Q := .region 6 (fun _ => r121_6) [] false [0, 1] []
noncomputable def q121_20 : Q := .seq (fun _ => q121_21) (fun _ => .ret)
noncomputable def q121_19 : Q := .cond (.tmp 14) (fun _ => q121_20) (fun _ => .skip)
noncomputable def q121_17 : Q := .seq (fun _ => q121_18) (fun _ => q121_19)
noncomputable def q121_15 : Q := .seq (fun _ => q121_16) (fun _ => q121_17)
noncomputable def q121_14 : Q := .block 1 (fun _ => q121_15)
noncomputable def r121_7 : List Oper := opsIn 7 f121
noncomputable def q121_22 : Q := .region 7 (fun _ => r121_7) [] false [0, 1] []
noncomputable def q121_13 : Q := .seq (fun _ => q121_14) (fun _ => q121_22)
noncomputable def q121_11 : Q := .seq (fun _ => q121_12) (fun _ => q121_13)
noncomputable def q121_9 : Q := .seq (fun _ => q121_10) (fun _ => q121_11)
noncomputable def q121_8 : Q := .loop (fun _ => q121_9)
noncomputable def q121_7 : Q := .block 0 (fun _ => q121_8)
noncomputable def q121_5 : Q := .seq (fun _ => q121_6) (fun _ => q121_7)
noncomputable def r121_8 : List Oper := opsIn 8 f121
noncomputable def q121_24 : Q := .region 8 (fun _ => r121_8) [] false [0, 1] []
noncomputable def q121_23 : Q := .seq (fun _ => q121_24) (fun _ => .ret)
noncomputable def q121_4 : Q := .seq (fun _ => q121_5) (fun _ => q121_23)
noncomputable def q121_2 : Q := .seq (fun _ => q121_3) (fun _ => q121_4)
noncomputable def q121_0 : Q := .seq (fun _ => q121_1) (fun _ => q121_2)
noncomputable def q121 : Unit → Q := fun _ => q121_0
theorem ok121 : FnOk 121 q121 [.tmp 2] 18 := .of f121 func121 call121 (by kernel_rfl) (by kernel_rfl) (by kernel_rfl) (by kernel_rfl)

-- cmp.Compare[uint64]
noncomputable def r122_0 : List Oper := opsIn 0 f122
noncomputable def q122_1 : Q := .region 0 (fun _ => r122_0) [] false [0] []
noncomputable def r122_1 : List Oper := opsIn 1 f122
noncomputable def q122_3 : Q := .region 1 (fun _ => r122_1) [] false [0, 1, 2] []
noncomputable def r122_2 : List Oper := opsIn 2 f122
noncomputable def q122_5 : Q := .region 2 (fun _ => r122_2) [] false [0, 1, 2] []
noncomputable def r122_3 : List Oper := opsIn 3 f122
noncomputable def q122_8 : Q := .region 3 (fun _ => r122_3) [] false [0] []
noncomputable def r122_4 : List Oper := opsIn 4 f122
noncomputable def q122_12 : Q := .region 4 (fun _ => r122_4) [] false [0] []
noncomputable def r122_5 : List Oper := opsIn 5 f122
noncomputable def q122_15 : Q := .region 5 (fun _ => r122_5) [] false [0] []
noncomputable def q122_14 : Q := .seq (fun _ => q122_15) (fun _ => .ret)
noncomputable def q122_13 : Q := .cond (.tmp 12) (fun _ => q122_14) (fun _ => .skip)
noncomputable def q122_11 : Q := .seq (fun _ => q122_12) (fun _ => q122_13)
noncomputable def r122_6 : List Oper := opsIn 6 f122
noncomputable def q122_17 : Q := .region 6 (fun _ => r122_6) [] false [0] []
noncomputable def q122_16 : Q := .seq (fun _ => q122_17) (fun _ => .ret)
noncomputable def q122_10 : Q := .seq (fun _ => q122_11) (fun _ => q122_16)
noncomputable def q122_9 : Q := .cond (.tmp 11) (fun _ => q122_10) (fun _ => .skip)
noncomputable def q122_7 : Q := .seq (fun _ => q122_8) (fun _ => q122_9)
noncomputable def r122_7 : List Oper := opsIn 7 f122
noncomputable def q122_20 : Q := .region 7 (fun _ => r122_7) [] false [0] []
noncomputable def r122_8 : List Oper := opsIn 8 f122
noncomputable def q122_23 : Q := .region 8 (fun _ => r122_8) [] false [0] []
noncomputable def q122_22 : Q := .seq (fun _ => q122_23) (fun _ => .ret)
noncomputable def q122_21 : Q := .cond (.tmp 13) (fun _ => q122_22) (fun _ => .skip)
noncomputable def q122_19 : Q := .seq (fun _ => q122_20) (fun _ => q122_21)
noncomputable def r122_9 : List Oper := opsIn 9 f122
noncomputable def q122_26 : Q := .region 9 (fun _ => r122_9) [] false [0, 1, 2] []
noncomputable def r122_10 : List Oper := opsIn 10 f122
noncomputable def q122_29 : Q := .region 10 (fun _ => r122_10) [] false [0] []
noncomputable def q122_28 : Q := .seq (fun _ => q122_29) (fun _ => .ret)
noncomputable def q122_27 : Q := .cond (.tmp 16) (fun _ => q122_28) (fun _ => .skip)
noncomputable def q122_25 : Q := .seq (fun _ => q122_26) (fun _ => q122_27)
noncomputable def r122_11 : List Oper := opsIn 11 f122
noncomputable def q122_32 : Q := .region 11 (fun _ => r122_11) [] false [0, 1, 2] []
noncomputable def r122_12 : List Oper := opsIn 12 f122
noncomputable def q122_35 : Q := .region 12 (fun _ => r122_12) [] false [0] []
noncomputable def q122_34 : Q := .seq (fun _ => q122_35) (fun _ => .ret)
noncomputable def q122_33 : Q := .cond (.tmp 19) (fun _ => q122_34) (fun _ => .skip)
noncomputable def q122_31 : Q := .seq (fun _ => q122_32) (fun _ => q122_33)
noncomputable def r122_13 : List Oper := opsIn 13 f122
noncomputable def q122_37 : Q := .region 13 (fun _ => r122_13) [] false [0] []
noncomputable def q122_36 : Q := .seq (fun _ => q122_37) (fun _ => .ret)
noncomputable def q122_30 : Q := .seq (fun _ => q122_31) (fun _ => q122_36)
noncomputable def q122_24 : Q := .seq (fun _ => q122_25) (fun _ => q122_30)
noncomputable def q122_18 : Q := .seq (fun _ => q122_19) (fun _ => q122_24)
noncomputable def q122_6 : Q := .seq (fun _ => q122_7) (fun _ => q122_18)
noncomputable def q122_4 : Q := .seq (fun _ => q122_5) (fun _ => q122_6)
noncomputable def q122_2 : Q := .seq (fun _ => q122_3) (fun _ => q122_4)
noncomputable def q122_0 : Q := .seq (fun _ => q122_1) (fun _ => q122_2)
noncomputable def q122 : Unit → Q := fun _ => q122_0
theorem ok122 : FnOk 122 q122 [.tmp 4] 20 := .of f122 func122 call122 (by kernel_rfl) (by kernel_rfl) (by kernel_rfl) (by kernel_rfl)

-- cmp.Or[parcener/api.Errno]
noncomputable def r123_0 : List Oper := opsIn 0 f123
noncomputable def q123_1 : Q := .region 0 (fun _ => r123_0) [] false [0] []
noncomputable def r123_1 : List Oper := opsIn 1 f123
noncomputable def q123_3 : Q := .region 1 (fun _ => r123_1) [] false [0] []
noncomputable def r123_2 : List Oper := opsIn 2 f123
noncomputable def q123_6 : Q := .region 2 (fun _ => r123_2) [] false [0, 1, 2] []
noncomputable def r123_3 : List Oper := opsIn 3 f123
noncomputable def q123_10 : Q := .region 3 (fun _ => r123_3) [] false [0] []
noncomputable def q123_12 : Q := .cond (.tmp 9) (fun _ => .skip) (fun _ => (.exit 0))
noncomputable def r123_4 : List Oper := opsIn 4 f123
noncomputable def q123_16 : Q := .region 4 (fun _ => r123_4) [] false [0, 1, 2] []
noncomputable def r123_5 : List Oper := opsIn 5 f123
noncomputable def q123_18 : Q := .region 5 (fun _ => r123_5) [] false [0, 1, 2] []
noncomputable def r123_6 : List Oper := opsIn 6 f123
noncomputable def q123_21 : Q := .region 6 (fun _ => r123_6) [] false [0, 1] []
noncomputable def q123_20 : Q := .seq (fun _ => q123_21) (fun _ => .ret)
noncomputable def q123_19 : Q := .cond (.tmp 14) (fun _ => q123_20) (fun _ => .skip)
noncomputable def q123_17 : Q := .seq (fun _ => q123_18) (fun _ => q123_19)
noncomputable def q123_15 : Q := .seq (fun _ => q123_16) (fun _ => q123_17)
noncomputable def q123_14 : Q := .block 1 (fun _ => q123_15)
noncomputable def r123_7 : List Oper := opsIn 7 f123
noncomputable def q123_22 : Q := .region 7 (fun _ => r123_7) [] false [0, 1] []
noncomputable def q123_13 : Q := .seq (fun _ => q123_14) (fun _ => q123_22)
noncomputable def q123_11 : Q := .seq (fun _ => q123_12) (fun _ => q123_13)
noncomputable def q123_9 : Q := .seq (fun _ => q123_10) (fun _ => q123_11)
noncomputable def q123_8 : Q := .loop (fun _ => q123_9)
noncomputable def q123_7 : Q := .block 0 (fun _ => q123_8)
noncomputable def q123_5 : Q := .seq (fun _ => q123_6) (fun _ => q123_7)
noncomputable def r123_8 : List Oper := opsIn 8 f123
noncomputable def q123_24 : Q := .region 8 (fun _ => r123_8) [] false [0, 1] []
noncomputable def q123_23 : Q := .seq (fun _ => q123_24) (fun _ => .ret)
noncomputable def q123_4 : Q := .seq (fun _ => q123_5) (fun _ => q123_23)
noncomputable def q123_2 : Q := .seq (fun _ => q123_3) (fun _ => q123_4)
noncomputable def q123_0 : Q := .seq (fun _ => q123_1) (fun _ => q123_2)
noncomputable def q123 : Unit → Q := fun _ => q123_0
theorem ok123 : FnOk 123 q123 [.tmp 2] 18 := .of f123 func123 call123 (by kernel_rfl) (by kernel_rfl) (by kernel_rfl) (by kernel_rfl)

-- math/bits.LeadingZeros64
noncomputable def r124_0 : List Oper := opsIn 0 f124
noncomputable def q124_1 : Q := .region 0 (fun _ => r124_0) [] false [0] []
noncomputable def r124_1 : List Oper := opsIn 1 f124
noncomputable def q124_3 : Q := .region 1 (fun _ => r124_1) [] false [0, 1, 2, 3] []
noncomputable def q124_2 : Q := .seq (fun _ => q124_3) (fun _ => .ret)
noncomputable def q124_0 : Q := .seq (fun _ => q124_1) (fun _ => q124_2)
noncomputable def q124 : Unit → Q := fun _ => q124_0
theorem ok124 : FnOk 124 q124 [.tmp 2] 6 := .of f124 func124 call124 (by kernel_rfl) (by kernel_rfl) (by kernel_rfl) (by kernel_rfl)

-- parcener/parcenerref01.times
noncomputable def r125_0 : List Oper := opsIn 0 f125
noncomputable def q125_1 : Q := .region 0 (fun _ => r125_0) [] false [0] []
noncomputable def r125_1 : List Oper := opsIn 1 f125
noncomputable def q125_3 : Q := .region 1 (fun _ => r125_1) [] false [0, 1, 2, 3, 4, 5] []
noncomputable def r125_2 : List Oper := opsIn 2 f125
noncomputable def q125_5 : Q := .region 2 (fun _ => r125_2) [] false [0, 1, 2, 3, 4, 5] []
noncomputable def r125_3 : List Oper := opsIn 3 f125
noncomputable def q125_7 : Q := .region 3 (fun _ => r125_3) [] false [0, 1, 2, 3, 4, 5, 6, 7] []
noncomputable def r125_4 : List Oper := opsIn 4 f125
noncomputable def q125_9 : Q := .region 4 (fun _ => r125_4) [] false [0, 1, 2, 3, 4, 5, 6, 7, 8, 9] []
noncomputable def r125_5 : List Oper := opsIn 5 f125
noncomputable def q125_11 : Q := .region 5 (fun _ => r125_5) [] false [0, 1, 2, 3, 4, 5, 6, 7, 8, 9, 10, 11, 12, 13, 14, 15] []
noncomputable def q125_10 : Q := .seq (fun _ => q125_11) (fun _ => .ret)
noncomputable def q125_8 : Q := .seq (fun _ => q125_9) (fun _ => q125_10)
noncomputable def q125_6 : Q := .seq (fun _ => q125_7) (fun _ => q125_8)
noncomputable def q125_4 : Q := .seq (fun _ => q125_5) (fun _ => q125_6)
noncomputable def q125_2 : Q := .seq (fun _ => q125_3) (fun _ => q125_4)
noncomputable def q125_0 : Q := .seq (fun _ => q125_1) (fun _ => q125_2)
noncomputable def q125 : Unit → Q := fun _ => q125_0
theorem ok125 : FnOk 125 q125 [.cell 4 140] 50 := .of f125 func125 call125 (by kernel_rfl) (by kernel_rfl) (by kernel_rfl) (by kernel_rfl)

-- parcener/parcenerref01.less
noncomputable def r126_0 : List Oper := opsIn 0 f126
noncomputable def q126_1 : Q := .region 0 (fun _ => r126_0) [] false [0, 1, 2] []
noncomputable def r126_1 : List Oper := opsIn 1 f126
noncomputable def q126_3 : Q := .region 1 (fun _ => r126_1) [5, 11] false [0, 1, 2, 3, 4, 5, 6, 7, 8, 9, 10, 11, 12, 13, 14, 15, 16, 17, 18, 19] []
noncomputable def q126_2 : Q := .seq (fun _ => q126_3) (fun _ => .ret)
noncomputable def q126_0 : Q := .seq (fun _ => q126_1) (fun _ => q126_2)
noncomputable def q126 : Unit → Q := fun _ => q126_0
theorem ok126 : FnOk 126 q126 [.tmp 4] 24 := .of f126 func126 call126 (by kernel_rfl) (by kernel_rfl) (by kernel_rfl) (by kernel_rfl)

-- parcener/parcenerref02.sooner
noncomputable def r127_0 : List Oper := opsIn 0 f127
noncomputable def q127_1 : Q := .region 0 (fun _ => r127_0) [] false [0, 1, 2] []
noncomputable def r127_1 : List Oper := opsIn 1 f127
noncomputable def q127_4 : Q := .region 1 (fun _ => r127_1) [] false [0, 1, 2] []
noncomputable def r127_2 : List Oper := opsIn 2 f127
noncomputable def q127_7 : Q := .region 2 (fun _ => r127_2) [] false [0, 1] []
noncomputable def q127_6 : Q := .seq (fun _ => q127_7) (fun _ => .ret)
noncomputable def q127_5 : Q := .cond (.tmp 7) (fun _ => q127_6) (fun _ => .skip)
noncomputable def q127_3 : Q := .seq (fun _ => q127_4) (fun _ => q127_5)
noncomputable def r127_3 : List Oper := opsIn 3 f127
noncomputable def q127_9 : Q := .region 3 (fun _ => r127_3) [] false [0, 1] []
noncomputable def q127_8 : Q := .seq (fun _ => q127_9) (fun _ => .ret)
noncomputable def q127_2 : Q := .seq (fun _ => q127_3) (fun _ => q127_8)
noncomputable def q127_0 : Q := .seq (fun _ => q127_1) (fun _ => q127_2)
noncomputable def q127 : Unit → Q := fun _ => q127_0
theorem ok127 : FnOk 127 q127 [.cell 4 43] 10 := .of f127 func127 call127 (by kernel_rfl) (by kernel_rfl) (by kernel_rfl) (by kernel_rfl)

-- parcener/parcenerref01.Mul
noncomputable def r128_0 : List Oper := opsIn 0 f128
noncomputable def q128_1 : Q := .region 0 (fun _ => r128_0) [] false [0, 1, 2, 3] []
noncomputable def r128_1 : List Oper := opsIn 1 f128
noncomputable def q128_4 : Q := .region 1 (fun _ => r128_1) [] false [0, 1, 2, 3] []
noncomputable def r128_2 : List Oper := opsIn 2 f128
noncomputable def q128_7 : Q := .region 2 (fun _ => r128_2) [] false [0, 1, 2, 3, 4, 5] []
noncomputable def q128_6 : Q := .seq (fun _ => q128_7) (fun _ => .ret)
noncomputable def q128_5 : Q := .cond (.tmp 11) (fun _ => q128_6) (fun _ => .skip)
noncomputable def q128_3 : Q := .seq (fun _ => q128_4) (fun _ => q128_5)
noncomputable def r128_3 : List Oper := opsIn 3 f128
noncomputable def q128_9 : Q := .region 3 (fun _ => r128_3) [] true [0, 1, 3, 4, 5, 7, 8, 10, 11, 12, 2, 6, 9, 13, 14, 15] []
noncomputable def r128_4 : List Oper := opsIn 4 f128
noncomputable def q128_11 : Q := .region 4 (fun _ => r128_4) [7, 12] true [0, 1, 2, 3, 4, 5, 6, 7, 8, 9, 10, 11, 12, 13, 14, 15, 16, 17, 18, 20, 22, 23, 25, 28, 29, 30, 31, 32, 33, 34, 35, 36, 37, 19, 21, 24, 26, 27, 38, 39, 40, 41, 42, 43] []
noncomputable def q128_10 : Q := .seq (fun _ => q128_11) (fun _ => .ret)
noncomputable def q128_8 : Q := .seq (fun _ => q128_9) (fun _ => q128_10)
noncomputable def q128_2 : Q := .seq (fun _ => q128_3) (fun _ => q128_8)
noncomputable def q128_0 : Q := .seq (fun _ => q128_1) (fun _ => q128_2)
noncomputable def q128 : Unit → Q := fun _ => q128_0
theorem ok128 : FnOk 128 q128 [.cell 4 43, .tmp 5] 72 := .of f128 func128 call128 (by kernel_rfl) (by kernel_rfl) (by kernel_rfl) (by kernel_rfl)

-- parcener/parcenerref01.Both
noncomputable def r129_0 : List Oper := opsIn 0 f129
noncomputable def q129_1 : Q := .region 0 (fun _ => r129_0) [] false [0, 1, 2] []
noncomputable def r129_1 : List Oper := opsIn 1 f129
noncomputable def q129_4 : Q := .region 1 (fun _ => r129_1) [] false [0, 1, 2] []
noncomputable def r129_2 : List Oper := opsIn 2 f129
noncomputable def q129_7 : Q := .region 2 (fun _ => r129_2) [] false [0, 1, 2] []
noncomputable def q129_6 : Q := .seq (fun _ => q129_7) (fun _ => .ret)
noncomputable def q129_5 : Q := .cond (.tmp 7) (fun _ => q129_6) (fun _ => .skip)
noncomputable def q129_3 : Q := .seq (fun _ => q129_4) (fun _ => q129_5)
noncomputable def r129_3 : List Oper := opsIn 3 f129
noncomputable def q129_9 : Q := .region 3 (fun _ => r129_3) [] false [0, 1, 2] []
noncomputable def q129_8 : Q := .seq (fun _ => q129_9) (fun _ => .ret)
noncomputable def q129_2 : Q := .seq (fun _ => q129_3) (fun _ => q129_8)
noncomputable def q129_0 : Q := .seq (fun _ => q129_1) (fun _ => q129_2)
noncomputable def q129 : Unit → Q := fun _ => q129_0
theorem ok129 : FnOk 129 q129 [.tmp 4] 12 := .of f129 func129 call129 (by kernel_rfl) (by kernel_rfl) (by kernel_rfl) (by kernel_rfl)

-- parcener/parcenerref01.plus
noncomputable def r130_0 : List Oper := opsIn 0 f130
noncomputable def q130_1 : Q := .region 0 (fun _ => r130_0) [] false [0, 1, 2] []
noncomputable def r130_1 : List Oper := opsIn 1 f130
noncomputable def q130_3 : Q := .region 1 (fun _ => r130_1) [] false [0, 1, 2, 3, 4, 5] []
noncomputable def r130_2 : List Oper := opsIn 2 f130
noncomputable def q130_5 : Q := .region 2 (fun _ => r130_2) [] false [0, 1, 2, 3, 4, 5] []
noncomputable def r130_3 : List Oper := opsIn 3 f130
noncomputable def q130_8 : Q := .region 3 (fun _ => r130_3) [] false [0, 1, 2, 3] []
noncomputable def r130_4 : List Oper := opsIn 4 f130
noncomputable def q130_10 : Q := .region 4 (fun _ => r130_4) [] false [0, 1, 2] []
noncomputable def q130_9 : Q := .cond (.tmp 20) (fun _ => q130_10) (fun _ => .skip)
noncomputable def q130_7 : Q := .seq (fun _ => q130_8) (fun _ => q130_9)
noncomputable def r130_5 : List Oper := opsIn 5 f130
noncomputable def q130_12 : Q := .region 5 (fun _ => r130_5) [] false [0, 1, 2, 3] []
noncomputable def q130_11 : Q := .seq (fun _ => q130_12) (fun _ => .ret)
noncomputable def q130_6 : Q := .seq (fun _ => q130_7) (fun _ => q130_11)
noncomputable def q130_4 : Q := .seq (fun _ => q130_5) (fun _ => q130_6)
noncomputable def q130_2 : Q := .seq (fun _ => q130_3) (fun _ => q130_4)
noncomputable def q130_0 : Q := .seq (fun _ => q130_1) (fun _ => q130_2)
noncomputable def q130 : Unit → Q := fun _ => q130_0
theorem ok130 : FnOk 130 q130 [.cell 4 140] 26 := .of f130 func130 call130 (by kernel_rfl) (by kernel_rfl) (by kernel_rfl) (by kernel_rfl)

-- parcener/parcenerref01.minus
noncomputable def r131_0 : List Oper := opsIn 0 f131
noncomputable def q131_1 : Q := .region 0 (fun _ => r131_0) [] false [0, 1, 2] []
noncomputable def r131_1 : List Oper := opsIn 1 f131
noncomputable def q131_3 : Q := .region 1 (fun _ => r131_1) [] false [0, 1, 2, 3, 4, 5] []
noncomputable def r131_2 : List Oper := opsIn 2 f131
noncomputable def q131_6 : Q := .region 2 (fun _ => r131_2) [] false [0, 1, 2, 3, 4] []
noncomputable def r131_3 : List Oper := opsIn 3 f131
noncomputable def q131_8 : Q := .region 3 (fun _ => r131_3) [] false [0, 1, 2] []
noncomputable def q131_7 : Q := .cond (.tmp 15) (fun _ => q131_8) (fun _ => .skip)
noncomputable def q131_5 : Q := .seq (fun _ => q131_6) (fun _ => q131_7)
noncomputable def r131_4 : List Oper := opsIn 4 f131
noncomputable def q131_10 : Q := .region 4 (fun _ => r131_4) [] false [0, 1, 2, 3, 4, 5, 6, 7] []
noncomputable def q131_9 : Q := .seq (fun _ => q131_10) (fun _ => .ret)
noncomputable def q131_4 : Q := .seq (fun _ => q131_5) (fun _ => q131_9)
noncomputable def q131_2 : Q := .seq (fun _ => q131_3) (fun _ => q131_4)
noncomputable def q131_0 : Q := .seq (fun _ => q131_1) (fun _ => q131_2)
noncomputable def q131 : Unit → Q := fun _ => q131_0
theorem ok131 : FnOk 131 q131 [.cell 4 140] 25 := .of f131 func131 call131 (by kernel_rfl) (by kernel_rfl) (by kernel_rfl) (by kernel_rfl)

-- parcener/parcenerref01.split
noncomputable def r132_0 : List Oper := opsIn 0 f132
noncomputable def q132_1 : Q := .region 0 (fun _ => r132_0) [] false [0, 1, 2] []
noncomputable def r132_1 : List Oper := opsIn 1 f132
noncomputable def q132_3 : Q := .region 1 (fun _ => r132_1) [] false [0] []
noncomputable def r132_2 : List Oper := opsIn 2 f132
noncomputable def q132_5 : Q := .region 2 (fun _ => r132_2) [] false [0] []
noncomputable def r132_3 : List Oper := opsIn 3 f132
noncomputable def q132_8 : Q := .region 3 (fun _ => r132_3) [] false [0] []
noncomputable def r132_4 : List Oper := opsIn 4 f132
noncomputable def q132_13 : Q := .region 4 (fun _ => r132_4) [] false [0, 1] []
noncomputable def q132_14 : Q := .cond (.tmp 11) (fun _ => .skip) (fun _ => (.exit 0))
noncomputable def q132_12 : Q := .seq (fun _ => q132_13) (fun _ => q132_14)
noncomputable def r132_6 : List Oper := opsIn 6 f132
noncomputable def q132_18 : Q := .region 6 (fun _ => r132_6) [] false [0, 1, 2, 3, 4, 5, 6] []
noncomputable def r132_7 : List Oper := opsIn 7 f132
noncomputable def q132_21 : Q := .region 7 (fun _ => r132_7) [] false [0, 1] []
noncomputable def r132_8 : List Oper := opsIn 8 f132
noncomputable def q132_23 : Q := .region 8 (fun _ => r132_8) [] false [0, 1, 2, 3, 4, 5, 6] []
noncomputable def q132_22 : Q := .cond (.tmp 21) (fun _ => q132_23) (fun _ => .skip)
noncomputable def q132_20 : Q := .seq (fun _ => q132_21) (fun _ => q132_22)
noncomputable def r132_9 : List Oper := opsIn 9 f132
noncomputable def q132_25 : Q := .region 9 (fun _ => r132_9) [] false [0, 1, 2, 3, 4] []
noncomputable def r132_10 : List Oper := opsIn 10 f132
noncomputable def q132_27 : Q := .region 10 (fun _ => r132_10) [] false [0, 1, 2, 3] []
noncomputable def r132_11 : List Oper := opsIn 11 f132
noncomputable def q132_29 : Q := .region 11 (fun _ => r132_11) [] false [0, 1, 2] []
noncomputable def r132_12 : List Oper := opsIn 12 f132
noncomputable def q132_32 : Q := .region 12 (fun _ => r132_12) [] false [0, 1, 2, 3] []
noncomputable def r132_13 : List Oper := opsIn 13 f132
noncomputable def q132_33 : Q := .region 13 (fun _ => r132_13) [] false [0, 1, 2, 3, 4] []
noncomputable def q132_31 : Q := .seq (fun _ => q132_32) (fun _ => q132_33)
noncomputable def q132_30 : Q := .cond (.tmp 37) (fun _ => q132_31) (fun _ => .skip)
noncomputable def q132_28 : Q := .seq (fun _ => q132_29) (fun _ => q132_30)
noncomputable def q132_26 : Q := .seq (fun _ => q132_27) (fun _ => q132_28)
noncomputable def q132_24 : Q := .seq (fun _ => q132_25) (fun _ => q132_26)
noncomputable def q132_19 : Q := .seq (fun _ => q132_20) (fun _ => q132_24)
noncomputable def q132_17 : Q := .seq (fun _ => q132_18) (fun _ => q132_19)
noncomputable def q132_16 : Q := .block 1 (fun _ => q132_17)
noncomputable def r132_5 : List Oper := opsIn 5 f132
noncomputable def q132_34 : Q := .region 5 (fun _ => r132_5) [] false [0, 1, 2] []
noncomputable def q132_15 : Q := .seq (fun _ => q132_16) (fun _ => q132_34)
noncomputable def q132_11 : Q := .seq (fun _ => q132_12) (fun _ => q132_15)
noncomputable def q132_10 : Q := .loop (fun _ => q132_11)
noncomputable def q132_9 : Q := .block 0 (fun _ => q132_10)
noncomputable def q132_7 : Q := .seq (fun _ => q132_8) (fun _ => q132_9)
noncomputable def r132_14 : List Oper := opsIn 14 f132
noncomputable def q132_36 : Q := .region 14 (fun _ => r132_14) [] false [0, 1, 2, 3] []
noncomputable def q132_35 : Q := .seq (fun _ => q132_36) (fun _ => .ret)
noncomputable def q132_6 : Q := .seq (fun _ => q132_7) (fun _ => q132_35)
noncomputable def q132_4 : Q := .seq (fun _ => q132_5) (fun _ => q132_6)
noncomputable def q132_2 : Q := .seq (fun _ => q132_3) (fun _ => q132_4)
noncomputable def q132_0 : Q := .seq (fun _ => q132_1) (fun _ => q132_2)
noncomputable def q132 : Unit → Q := fun _ => q132_0
theorem ok132 : FnOk 132 q132 [.cell 4 140, .tmp 5] 47 := .of f132 func132 call132 (by kernel_rfl) (by kernel_rfl) (by kernel_rfl) (by kernel_rfl)

-- parcener/parcenerref01.Neg
noncomputable def r133_0 : List Oper := opsIn 0 f133
noncomputable def q133_1 : Q := .region 0 (fun _ => r133_0) [] false [0, 1] []
noncomputable def r133_1 : List Oper := opsIn 1 f133
noncomputable def q133_3 : Q := .region 1 (fun _ => r133_1) [] false [0, 1, 2, 3, 4] []
noncomputable def r133_2 : List Oper := opsIn 2 f133
noncomputable def q133_5 : Q := .region 2 (fun _ => r133_2) [] false [0, 1] []
noncomputable def q133_4 : Q := .seq (fun _ => q133_5) (fun _ => .ret)
noncomputable def q133_2 : Q := .seq (fun _ => q133_3) (fun _ => q133_4)
noncomputable def q133_0 : Q := .seq (fun _ => q133_1) (fun _ => q133_2)
noncomputable def q133 : Unit → Q := fun _ => q133_0
theorem ok133 : FnOk 133 q133 [.cell 2 43] 8 := .of f133 func133 call133 (by kernel_rfl) (by kernel_rfl) (by kernel_rfl) (by kernel_rfl)

-- cmp.isNaN[int64]
noncomputable def r134_0 : List Oper := opsIn 0 f134
noncomputable def q134_1 : Q := .region 0 (fun _ => r134_0) [] false [0] []
noncomputable def r134_1 : List Oper := opsIn 1 f134
noncomputable def q134_3 : Q := .region 1 (fun _ => r134_1) [] false [0, 1, 2, 3] []
noncomputable def q134_2 : Q := .seq (fun _ => q134_3) (fun _ => .ret)
noncomputable def q134_0 : Q := .seq (fun _ => q134_1) (fun _ => q134_2)
noncomputable def q134 : Unit → Q := fun _ => q134_0
theorem ok134 : FnOk 134 q134 [.tmp 2] 6 := .of f134 func134 call134 (by kernel_rfl) (by kernel_rfl) (by kernel_rfl) (by kernel_rfl)

-- cmp.isNaN[uint64]
noncomputable def r135_0 : List Oper := opsIn 0 f135
noncomputable def q135_1 : Q := .region 0 (fun _ => r135_0) [] false [0] []
noncomputable def r135_1 : List Oper := opsIn 1 f135
noncomputable def q135_3 : Q := .region 1 (fun _ => r135_1) [] false [0, 1, 2, 3] []
noncomputable def q135_2 : Q := .seq (fun _ => q135_3) (fun _ => .ret)
noncomputable def q135_0 : Q := .seq (fun _ => q135_1) (fun _ => q135_2)
noncomputable def q135 : Unit → Q := fun _ => q135_0
theorem ok135 : FnOk 135 q135 [.tmp 2] 6 := .of f135 func135 call135 (by kernel_rfl) (by kernel_rfl) (by kernel_rfl) (by kernel_rfl)

-- math/bits.Len64
noncomputable def r136_0 : List Oper := opsIn 0 f136
noncomputable def q136_1 : Q := .region 0 (fun _ => r136_0) [] false [0] []
noncomputable def r136_1 : List Oper := opsIn 1 f136
noncomputable def q136_4 : Q := .region 1 (fun _ => r136_1) [] false [0, 1] []
noncomputable def r136_2 : List Oper := opsIn 2 f136
noncomputable def q136_7 : Q := .region 2 (fun _ => r136_2) [] false [0, 1, 2] []
noncomputable def r136_3 : List Oper := opsIn 3 f136
noncomputable def q136_8 : Q := .region 3 (fun _ => r136_3) [] false [0] []
noncomputable def q136_6 : Q := .seq (fun _ => q136_7) (fun _ => q136_8)
noncomputable def q136_5 : Q := .cond (.tmp 4) (fun _ => q136_6) (fun _ => .skip)
noncomputable def q136_3 : Q := .seq (fun _ => q136_4) (fun _ => q136_5)
noncomputable def r136_4 : List Oper := opsIn 4 f136
noncomputable def q136_11 : Q := .region 4 (fun _ => r136_4) [] false [0, 1] []
noncomputable def r136_5 : List Oper := opsIn 5 f136
noncomputable def q136_14 : Q := .region 5 (fun _ => r136_5) [] false [0, 1, 2] []
noncomputable def r136_6 : List Oper := opsIn 6 f136
noncomputable def q136_15 : Q := .region 6 (fun _ => r136_6) [] false [0, 1, 2] []
noncomputable def q136_13 : Q := .seq (fun _ => q136_14) (fun _ => q136_15)
noncomputable def q136_12 : Q := .cond (.tmp 8) (fun _ => q136_13) (fun _ => .skip)
noncomputable def q136_10 : Q := .seq (fun _ => q136_11) (fun _ => q136_12)
noncomputable def r136_7 : List Oper := opsIn 7 f136
noncomputable def q136_18 : Q := .region 7 (fun _ => r136_7) [] false [0, 1] []
noncomputable def r136_8 : List Oper := opsIn 8 f136
noncomputable def q136_21 : Q := .region 8 (fun _ => r136_8) [] false [0, 1, 2] []
noncomputable def r136_9 : List Oper := opsIn 9 f136
noncomputable def q136_22 : Q := .region 9 (fun _ => r136_9) [] false [0, 1, 2] []
noncomputable def q136_20 : Q := .seq (fun _ => q136_21) (fun _ => q136_22)
noncomputable def q136_19 : Q := .cond (.tmp 14) (fun _ => q136_20) (fun _ => .skip)
noncomputable def q136_17 : Q := .seq (fun _ => q136_18) (fun _ => q136_19)
noncomputable def r136_10 : List Oper := opsIn 10 f136
noncomputable def q136_24 : Q := .region 10 (fun _ => r136_10) [] false [0, 1, 2, 3, 4, 5, 6] []
noncomputable def q136_23 : Q := .seq (fun _ => q136_24) (fun _ => .ret)
noncomputable def q136_16 : Q := .seq (fun _ => q136_17) (fun _ => q136_23)
noncomputable def q136_9 : Q := .seq (fun _ => q136_10) (fun _ => q136_16)
noncomputable def q136_2 : Q := .seq (fun _ => q136_3) (fun _ => q136_9)
noncomputable def q136_0 : Q := .seq (fun _ => q136_1) (fun _ => q136_2)
noncomputable def q136 : Unit → Q := fun _ => q136_0
theorem ok136 : FnOk 136 q136 [.tmp 2] 25 := .of f136 func136 call136 (by kernel_rfl) (by kernel_rfl) (by kernel_rfl) (by kernel_rfl)

end Go.SX
