/- The functions of the program: the frame of their code, by numbers. Printed by genfn.py. -/
import Derived.Test.YtojdihbanakhgaaCoreB
import Derived.Test.YtojdihbanakhgaaProg
import Derived.KernelRfl
namespace Go.SX
open Go.Proofs.Try

-- parcener/parcenerref36.Check
noncomputable def r57_0 : List Oper := opsIn 0 f57
noncomputable def q57_1 : Q := .region 0 (fun _ => r57_0) [] false [0, 1] []
noncomputable def r57_1 : List Oper := opsIn 1 f57
noncomputable def q57_4 : Q := .region 1 (fun _ => r57_1) [4] false [0, 1, 2, 3, 4, 5, 6, 7, 8, 9] []
noncomputable def r57_2 : List Oper := opsIn 2 f57
noncomputable def q57_7 : Q := .region 2 (fun _ => r57_2) [] false [0] []
noncomputable def q57_6 : Q := .seq (fun _ => q57_7) (fun _ => .ret)
noncomputable def q57_5 : Q := .cond (.tmp 17) (fun _ => q57_6) (fun _ => .skip)
noncomputable def q57_3 : Q := .seq (fun _ => q57_4) (fun _ => q57_5)
noncomputable def r57_3 : List Oper := opsIn 3 f57
noncomputable def q57_10 : Q := .region 3 (fun _ => r57_3) [] false [0, 1, 2, 3] []
noncomputable def r57_4 : List Oper := opsIn 4 f57
noncomputable def q57_13 : Q := .region 4 (fun _ => r57_4) [] false [0] []
noncomputable def q57_12 : Q := .seq (fun _ => q57_13) (fun _ => .ret)
noncomputable def q57_11 : Q := .cond (.tmp 21) (fun _ => q57_12) (fun _ => .skip)
noncomputable def q57_9 : Q := .seq (fun _ => q57_10) (fun _ => q57_11)
noncomputable def r57_5 : List Oper := opsIn 5 f57
noncomputable def q57_16 : Q := .region 5 (fun _ => r57_5) [] false [0] []
noncomputable def r57_6 : List Oper := opsIn 6 f57
noncomputable def q57_21 : Q := .region 6 (fun _ => r57_6) [] false [0, 1, 2, 3, 4] []
noncomputable def q57_22 : Q := .cond (.tmp 26) (fun _ => .skip) (fun _ => (.exit 0))
noncomputable def q57_20 : Q := .seq (fun _ => q57_21) (fun _ => q57_22)
noncomputable def r57_8 : List Oper := opsIn 8 f57
noncomputable def q57_27 : Q := .region 8 (fun _ => r57_8) [] false [0, 1, 2, 3, 4, 5, 6, 7] []
noncomputable def r57_9 : List Oper := opsIn 9 f57
noncomputable def q57_29 : Q := .region 9 (fun _ => r57_9) [] false [0, 1] []
noncomputable def r57_10 : List Oper := opsIn 10 f57
noncomputable def q57_32 : Q := .region 10 (fun _ => r57_10) [] false [0, 1] []
noncomputable def q57_31 : Q := .seq (fun _ => q57_32) (fun _ => .ret)
noncomputable def q57_30 : Q := .cond (.tmp 37) (fun _ => q57_31) (fun _ => .skip)
noncomputable def q57_28 : Q := .seq (fun _ => q57_29) (fun _ => q57_30)
noncomputable def q57_26 : Q := .seq (fun _ => q57_27) (fun _ => q57_28)
noncomputable def r57_11 : List Oper := opsIn 11 f57
noncomputable def q57_34 : Q := .region 11 (fun _ => r57_11) [] false [0, 1, 2, 3, 4, 5, 6, 7] []
noncomputable def r57_12 : List Oper := opsIn 12 f57
noncomputable def q57_36 : Q := .region 12 (fun _ => r57_12) [] false [0, 1] []
noncomputable def r57_13 : List Oper := opsIn 13 f57
noncomputable def q57_39 : Q := .region 13 (fun _ => r57_13) [] false [0, 1] []
noncomputable def q57_38 : Q := .seq (fun _ => q57_39) (fun _ => .ret)
noncomputable def q57_37 : Q := .cond (.tmp 47) (fun _ => q57_38) (fun _ => .skip)
noncomputable def q57_35 : Q := .seq (fun _ => q57_36) (fun _ => q57_37)
noncomputable def q57_33 : Q := .seq (fun _ => q57_34) (fun _ => q57_35)
noncomputable def q57_25 : Q := .seq (fun _ => q57_26) (fun _ => q57_33)
noncomputable def q57_24 : Q := .block 1 (fun _ => q57_25)
noncomputable def r57_7 : List Oper := opsIn 7 f57
noncomputable def q57_40 : Q := .region 7 (fun _ => r57_7) [] false [0, 1, 2] []
noncomputable def q57_23 : Q := .seq (fun _ => q57_24) (fun _ => q57_40)
noncomputable def q57_19 : Q := .seq (fun _ => q57_20) (fun _ => q57_23)
noncomputable def q57_18 : Q := .loop (fun _ => q57_19)
noncomputable def q57_17 : Q := .block 0 (fun _ => q57_18)
noncomputable def q57_15 : Q := .seq (fun _ => q57_16) (fun _ => q57_17)
noncomputable def r57_14 : List Oper := opsIn 14 f57
noncomputable def q57_43 : Q := .region 14 (fun _ => r57_14) [] false [0] []
noncomputable def r57_15 : List Oper := opsIn 15 f57
noncomputable def q57_48 : Q := .region 15 (fun _ => r57_15) [] false [0, 1, 2, 3, 4] []
noncomputable def q57_49 : Q := .cond (.tmp 53) (fun _ => .skip) (fun _ => (.exit 2))
noncomputable def q57_47 : Q := .seq (fun _ => q57_48) (fun _ => q57_49)
noncomputable def r57_17 : List Oper := opsIn 17 f57
noncomputable def q57_53 : Q := .region 17 (fun _ => r57_17) [] false [0, 1, 2, 3, 4, 5, 6] []
noncomputable def r57_18 : List Oper := opsIn 18 f57
noncomputable def q57_55 : Q := .region 18 (fun _ => r57_18) [10, 22, 27, 32] true [0, 1, 2, 3, 4, 5, 6, 7, 8, 9, 10, 11, 12, 13, 14, 15, 16, 17, 18, 19, 20, 21, 22, 23, 24, 25, 26, 27, 28, 29, 30, 31, 32, 33, 34, 35, 36, 37, 38, 39, 40, 41] []
noncomputable def r57_19 : List Oper := opsIn 19 f57
noncomputable def q57_58 : Q := .region 19 (fun _ => r57_19) [] false [0] []
noncomputable def q57_57 : Q := .seq (fun _ => q57_58) (fun _ => .ret)
noncomputable def q57_56 : Q := .cond (.tmp 102) (fun _ => q57_57) (fun _ => .skip)
noncomputable def q57_54 : Q := .seq (fun _ => q57_55) (fun _ => q57_56)
noncomputable def q57_52 : Q := .seq (fun _ => q57_53) (fun _ => q57_54)
noncomputable def q57_51 : Q := .block 3 (fun _ => q57_52)
noncomputable def r57_16 : List Oper := opsIn 16 f57
noncomputable def q57_59 : Q := .region 16 (fun _ => r57_16) [] false [0, 1, 2] []
noncomputable def q57_50 : Q := .seq (fun _ => q57_51) (fun _ => q57_59)
noncomputable def q57_46 : Q := .seq (fun _ => q57_47) (fun _ => q57_50)
noncomputable def q57_45 : Q := .loop (fun _ => q57_46)
noncomputable def q57_44 : Q := .block 2 (fun _ => q57_45)
noncomputable def q57_42 : Q := .seq (fun _ => q57_43) (fun _ => q57_44)
noncomputable def r57_20 : List Oper := opsIn 20 f57
noncomputable def q57_61 : Q := .region 20 (fun _ => r57_20) [] false [0] []
noncomputable def q57_60 : Q := .seq (fun _ => q57_61) (fun _ => .ret)
noncomputable def q57_41 : Q := .seq (fun _ => q57_42) (fun _ => q57_60)
noncomputable def q57_14 : Q := .seq (fun _ => q57_15) (fun _ => q57_41)
noncomputable def q57_8 : Q := .seq (fun _ => q57_9) (fun _ => q57_14)
noncomputable def q57_2 : Q := .seq (fun _ => q57_3) (fun _ => q57_8)
noncomputable def q57_0 : Q := .seq (fun _ => q57_1) (fun _ => q57_2)
noncomputable def q57 : Unit → Q := fun _ => q57_0
theorem ok57 : FnOk 57 q57 [.tmp 2] 103 := .of f57 func57 call57 (by kernel_rfl) (by kernel_rfl) (by kernel_rfl) (by kernel_rfl)

-- parcener/parcenerref36.SameBools
noncomputable def r58_0 : List Oper := opsIn 0 f58
noncomputable def q58_1 : Q := .region 0 (fun _ => r58_0) [] false [0] []
noncomputable def r58_1 : List Oper := opsIn 1 f58
noncomputable def q58_4 : Q := .region 1 (fun _ => r58_1) [] false [0, 1, 2, 3, 4] []
noncomputable def r58_2 : List Oper := opsIn 2 f58
noncomputable def q58_7 : Q := .region 2 (fun _ => r58_2) [] false [0] []
noncomputable def q58_6 : Q := .seq (fun _ => q58_7) (fun _ => .ret)
noncomputable def q58_5 : Q := .cond (.tmp 10) (fun _ => q58_6) (fun _ => .skip)
noncomputable def q58_3 : Q := .seq (fun _ => q58_4) (fun _ => q58_5)
noncomputable def r58_3 : List Oper := opsIn 3 f58
noncomputable def q58_10 : Q := .region 3 (fun _ => r58_3) [] false [0] []
noncomputable def r58_4 : List Oper := opsIn 4 f58
noncomputable def q58_15 : Q := .region 4 (fun _ => r58_4) [] false [0, 1, 2, 3] []
noncomputable def q58_16 : Q := .cond (.tmp 14) (fun _ => .skip) (fun _ => (.exit 0))
noncomputable def q58_14 : Q := .seq (fun _ => q58_15) (fun _ => q58_16)
noncomputable def r58_6 : List Oper := opsIn 6 f58
noncomputable def q58_20 : Q := .region 6 (fun _ => r58_6) [] true [0, 1, 2, 3, 4, 5, 6, 7, 8] []
noncomputable def r58_7 : List Oper := opsIn 7 f58
noncomputable def q58_23 : Q := .region 7 (fun _ => r58_7) [] false [0] []
noncomputable def q58_22 : Q := .seq (fun _ => q58_23) (fun _ => .ret)
noncomputable def q58_21 : Q := .cond (.tmp 25) (fun _ => q58_22) (fun _ => .skip)
noncomputable def q58_19 : Q := .seq (fun _ => q58_20) (fun _ => q58_21)
noncomputable def q58_18 : Q := .block 1 (fun _ => q58_19)
noncomputable def r58_5 : List Oper := opsIn 5 f58
noncomputable def q58_24 : Q := .region 5 (fun _ => r58_5) [] false [0, 1, 2] []
noncomputable def q58_17 : Q := .seq (fun _ => q58_18) (fun _ => q58_24)
noncomputable def q58_13 : Q := .seq (fun _ => q58_14) (fun _ => q58_17)
noncomputable def q58_12 : Q := .loop (fun _ => q58_13)
noncomputable def q58_11 : Q := .block 0 (fun _ => q58_12)
noncomputable def q58_9 : Q := .seq (fun _ => q58_10) (fun _ => q58_11)
noncomputable def r58_8 : List Oper := opsIn 8 f58
noncomputable def q58_26 : Q := .region 8 (fun _ => r58_8) [] false [0] []
noncomputable def q58_25 : Q := .seq (fun _ => q58_26) (fun _ => .ret)
noncomputable def q58_8 : Q := .seq (fun _ => q58_9) (fun _ => q58_25)
noncomputable def q58_2 : Q := .seq (fun _ => q58_3) (fun _ => q58_8)
noncomputable def q58_0 : Q := .seq (fun _ => q58_1) (fun _ => q58_2)
noncomputable def q58 : Unit → Q := fun _ => q58_0
theorem ok58 : FnOk 58 q58 [.tmp 4] 26 := .of f58 func58 call58 (by kernel_rfl) (by kernel_rfl) (by kernel_rfl) (by kernel_rfl)

-- parcener/parcenerlaw36.spoil
noncomputable def r59_0 : List Oper := opsIn 0 f59
noncomputable def q59_1 : Q := .region 0 (fun _ => r59_0) [] false [0] []
noncomputable def r59_1 : List Oper := opsIn 1 f59
noncomputable def q59_4 : Q := .region 1 (fun _ => r59_1) [] false [0] []
noncomputable def r59_2 : List Oper := opsIn 2 f59
noncomputable def q59_9 : Q := .region 2 (fun _ => r59_2) [] false [0, 1, 2, 3, 4] []
noncomputable def q59_10 : Q := .cond (.tmp 9) (fun _ => .skip) (fun _ => (.exit 0))
noncomputable def q59_8 : Q := .seq (fun _ => q59_9) (fun _ => q59_10)
noncomputable def r59_4 : List Oper := opsIn 4 f59
noncomputable def q59_15 : Q := .region 4 (fun _ => r59_4) [] false [0] []
noncomputable def r59_5 : List Oper := opsIn 5 f59
noncomputable def q59_20 : Q := .region 5 (fun _ => r59_5) [] false [0, 1, 2, 3, 4, 5, 6, 7, 8, 9] []
noncomputable def q59_21 : Q := .cond (.tmp 21) (fun _ => .skip) (fun _ => (.exit 2))
noncomputable def q59_19 : Q := .seq (fun _ => q59_20) (fun _ => q59_21)
noncomputable def r59_7 : List Oper := opsIn 7 f59
noncomputable def q59_24 : Q := .region 7 (fun _ => r59_7) [] false [0, 1, 2, 3, 4, 5, 6, 7, 8, 9] []
noncomputable def q59_23 : Q := .block 3 (fun _ => q59_24)
noncomputable def r59_6 : List Oper := opsIn 6 f59
noncomputable def q59_25 : Q := .region 6 (fun _ => r59_6) [] false [0, 1, 2] []
noncomputable def q59_22 : Q := .seq (fun _ => q59_23) (fun _ => q59_25)
noncomputable def q59_18 : Q := .seq (fun _ => q59_19) (fun _ => q59_22)
noncomputable def q59_17 : Q := .loop (fun _ => q59_18)
noncomputable def q59_16 : Q := .block 2 (fun _ => q59_17)
noncomputable def q59_14 : Q := .seq (fun _ => q59_15) (fun _ => q59_16)
noncomputable def r59_8 : List Oper := opsIn 8 f59
noncomputable def q59_26 : Q := .region 8 (fun _ => r59_8) [] false [0, 1, 2, 3, 4, 5] []
noncomputable def q59_13 : Q := .seq (fun _ => q59_14) (fun _ => q59_26)
noncomputable def q59_12 : Q := .block 1 (fun _ => q59_13)
noncomputable def r59_3 : List Oper := opsIn 3 f59
noncomputable def q59_27 : Q := .region 3 (fun _ => r59_3) [] false [0, 1, 2] []
noncomputable def q59_11 : Q := .seq (fun _ => q59_12) (fun _ => q59_27)
noncomputable def q59_7 : Q := .seq (fun _ => q59_8) (fun _ => q59_11)
noncomputable def q59_6 : Q := .loop (fun _ => q59_7)
noncomputable def q59_5 : Q := .block 0 (fun _ => q59_6)
noncomputable def q59_3 : Q := .seq (fun _ => q59_4) (fun _ => q59_5)
noncomputable def r59_9 : List Oper := opsIn 9 f59
noncomputable def q59_29 : Q := .region 9 (fun _ => r59_9) [] false [0] []
noncomputable def r59_10 : List Oper := opsIn 10 f59
noncomputable def q59_34 : Q := .region 10 (fun _ => r59_10) [] false [0, 1, 2, 3, 4] []
noncomputable def q59_35 : Q := .cond (.tmp 42) (fun _ => .skip) (fun _ => (.exit 4))
noncomputable def q59_33 : Q := .seq (fun _ => q59_34) (fun _ => q59_35)
noncomputable def r59_12 : List Oper := opsIn 12 f59
noncomputable def q59_38 : Q := .region 12 (fun _ => r59_12) [] false [0, 1, 2, 3, 4, 5] []
noncomputable def q59_37 : Q := .block 5 (fun _ => q59_38)
noncomputable def r59_11 : List Oper := opsIn 11 f59
noncomputable def q59_39 : Q := .region 11 (fun _ => r59_11) [] false [0, 1, 2] []
noncomputable def q59_36 : Q := .seq (fun _ => q59_37) (fun _ => q59_39)
noncomputable def q59_32 : Q := .seq (fun _ => q59_33) (fun _ => q59_36)
noncomputable def q59_31 : Q := .loop (fun _ => q59_32)
noncomputable def q59_30 : Q := .block 4 (fun _ => q59_31)
noncomputable def q59_28 : Q := .seq (fun _ => q59_29) (fun _ => q59_30)
noncomputable def q59_2 : Q := .seq (fun _ => q59_3) (fun _ => q59_28)
noncomputable def q59_0 : Q := .seq (fun _ => q59_1) (fun _ => q59_2)
noncomputable def q59 : Unit → Q := fun _ => q59_0
theorem ok59 : FnOk 59 q59 [] 50 := .of f59 func59 call59 (by kernel_rfl) (by kernel_rfl) (by kernel_rfl) (by kernel_rfl)

-- parcener/parcenerref01.Of
noncomputable def r60_0 : List Oper := opsIn 0 f60
noncomputable def q60_1 : Q := .region 0 (fun _ => r60_0) [] false [0] []
noncomputable def r60_1 : List Oper := opsIn 1 f60
noncomputable def q60_3 : Q := .region 1 (fun _ => r60_1) [] false [0, 1, 2] []
noncomputable def q60_2 : Q := .seq (fun _ => q60_3) (fun _ => .ret)
noncomputable def q60_0 : Q := .seq (fun _ => q60_1) (fun _ => q60_2)
noncomputable def q60 : Unit → Q := fun _ => q60_0
theorem ok60 : FnOk 60 q60 [.cell 2 43] 5 := .of f60 func60 call60 (by kernel_rfl) (by kernel_rfl) (by kernel_rfl) (by kernel_rfl)

-- parcener/parcenerlaw36.given
noncomputable def r61_0 : List Oper := opsIn 0 f61
noncomputable def q61_1 : Q := .region 0 (fun _ => r61_0) [] false [0] []
noncomputable def r61_1 : List Oper := opsIn 1 f61
noncomputable def q61_3 : Q := .region 1 (fun _ => r61_1) [] false [0, 1, 2, 3] []
noncomputable def q61_2 : Q := .seq (fun _ => q61_3) (fun _ => .ret)
noncomputable def q61_0 : Q := .seq (fun _ => q61_1) (fun _ => q61_2)
noncomputable def q61 : Unit → Q := fun _ => q61_0
theorem ok61 : FnOk 61 q61 [.cell 0 97] 4 := .of f61 func61 call61 (by kernel_rfl) (by kernel_rfl) (by kernel_rfl) (by kernel_rfl)

-- parcener/parcenerref01.Make
noncomputable def r62_0 : List Oper := opsIn 0 f62
noncomputable def q62_1 : Q := .region 0 (fun _ => r62_0) [] false [0, 1] []
noncomputable def r62_1 : List Oper := opsIn 1 f62
noncomputable def q62_4 : Q := .region 1 (fun _ => r62_1) [] false [0, 1] []
noncomputable def r62_2 : List Oper := opsIn 2 f62
noncomputable def q62_7 : Q := .region 2 (fun _ => r62_2) [] false [0, 1, 2] []
noncomputable def q62_6 : Q := .seq (fun _ => q62_7) (fun _ => .ret)
noncomputable def q62_5 : Q := .cond (.tmp 10) (fun _ => q62_6) (fun _ => .skip)
noncomputable def q62_3 : Q := .seq (fun _ => q62_4) (fun _ => q62_5)
noncomputable def r62_3 : List Oper := opsIn 3 f62
noncomputable def q62_9 : Q := .region 3 (fun _ => r62_3) [] false [0, 1, 2, 3, 4, 5] []
noncomputable def r62_4 : List Oper := opsIn 4 f62
noncomputable def q62_11 : Q := .region 4 (fun _ => r62_4) [] false [0, 1, 2, 3] []
noncomputable def r62_5 : List Oper := opsIn 5 f62
noncomputable def q62_13 : Q := .region 5 (fun _ => r62_5) [] true [0, 1, 2, 3, 4, 5, 6, 7, 8, 9, 10, 11, 12, 13, 14, 15, 16, 17] []
noncomputable def q62_12 : Q := .seq (fun _ => q62_13) (fun _ => .ret)
noncomputable def q62_10 : Q := .seq (fun _ => q62_11) (fun _ => q62_12)
noncomputable def q62_8 : Q := .seq (fun _ => q62_9) (fun _ => q62_10)
noncomputable def q62_2 : Q := .seq (fun _ => q62_3) (fun _ => q62_8)
noncomputable def q62_0 : Q := .seq (fun _ => q62_1) (fun _ => q62_2)
noncomputable def q62 : Unit → Q := fun _ => q62_0
theorem ok62 : FnOk 62 q62 [.cell 4 43, .tmp 5] 35 := .of f62 func62 call62 (by kernel_rfl) (by kernel_rfl) (by kernel_rfl) (by kernel_rfl)

-- parcener/parcenerlaw36.flat
noncomputable def r63_0 : List Oper := opsIn 0 f63
noncomputable def q63_1 : Q := .region 0 (fun _ => r63_0) [] false [0] []
noncomputable def r63_1 : List Oper := opsIn 1 f63
noncomputable def q63_3 : Q := .region 1 (fun _ => r63_1) [] false [0, 1, 2, 3, 4] []
noncomputable def q63_2 : Q := .seq (fun _ => q63_3) (fun _ => .ret)
noncomputable def q63_0 : Q := .seq (fun _ => q63_1) (fun _ => q63_2)
noncomputable def q63 : Unit → Q := fun _ => q63_0
theorem ok63 : FnOk 63 q63 [.cell 2 40] 7 := .of f63 func63 call63 (by kernel_rfl) (by kernel_rfl) (by kernel_rfl) (by kernel_rfl)

-- parcener/parcenerlaw36.alive
noncomputable def r64_0 : List Oper := opsIn 0 f64
noncomputable def q64_1 : Q := .region 0 (fun _ => r64_0) [] false [0] []
noncomputable def r64_1 : List Oper := opsIn 1 f64
noncomputable def q64_3 : Q := .region 1 (fun _ => r64_1) [] false [0, 1, 2, 3, 4, 5, 6, 7, 8] []
noncomputable def r64_2 : List Oper := opsIn 2 f64
noncomputable def q64_5 : Q := .region 2 (fun _ => r64_2) [] false [0, 1, 2, 3, 4, 5] []
noncomputable def r64_3 : List Oper := opsIn 3 f64
noncomputable def q64_7 : Q := .region 3 (fun _ => r64_3) [] false [0, 1, 2, 3, 4, 5, 6, 7, 8, 9, 10, 11, 12] []
noncomputable def r64_4 : List Oper := opsIn 4 f64
noncomputable def q64_9 : Q := .region 4 (fun _ => r64_4) [] false [0, 1, 2, 3, 4, 5, 6, 7, 8, 9, 10, 11, 12] []
noncomputable def r64_5 : List Oper := opsIn 5 f64
noncomputable def q64_11 : Q := .region 5 (fun _ => r64_5) [] false [0, 1, 2, 3, 4, 5, 6] []
noncomputable def r64_6 : List Oper := opsIn 6 f64
noncomputable def q64_13 : Q := .region 6 (fun _ => r64_6) [2, 6, 10, 14, 19, 24, 30, 36, 44] true [0, 1, 2, 3, 4, 5, 6, 7, 8, 9, 10, 11, 12, 13, 14, 15, 16, 17, 18, 19, 20, 21, 22, 23, 24, 25, 26, 27, 28, 29, 30, 31, 32, 33, 34, 35, 36, 37, 38, 39, 40, 41, 42, 43, 44, 45, 46, 47, 48, 49] []
noncomputable def q64_12 : Q := .seq (fun _ => q64_13) (fun _ => .ret)
noncomputable def q64_10 : Q := .seq (fun _ => q64_11) (fun _ => q64_12)
noncomputable def q64_8 : Q := .seq (fun _ => q64_9) (fun _ => q64_10)
noncomputable def q64_6 : Q := .seq (fun _ => q64_7) (fun _ => q64_8)
noncomputable def q64_4 : Q := .seq (fun _ => q64_5) (fun _ => q64_6)
noncomputable def q64_2 : Q := .seq (fun _ => q64_3) (fun _ => q64_4)
noncomputable def q64_0 : Q := .seq (fun _ => q64_1) (fun _ => q64_2)
noncomputable def q64 : Unit → Q := fun _ => q64_0
theorem ok64 : FnOk 64 q64 [.tmp 0] 91 := .of f64 func64 call64 (by kernel_rfl) (by kernel_rfl) (by kernel_rfl) (by kernel_rfl)

-- parcener/parcenerref36.GreatActors
noncomputable def r65_0 : List Oper := opsIn 0 f65
noncomputable def q65_1 : Q := .region 0 (fun _ => r65_0) [] false [0] []
noncomputable def r65_1 : List Oper := opsIn 1 f65
noncomputable def q65_3 : Q := .region 1 (fun _ => r65_1) [3, 8] false [0, 1, 2, 3, 4, 5, 6, 7, 8, 9, 10, 11, 12, 13] []
noncomputable def q65_2 : Q := .seq (fun _ => q65_3) (fun _ => .ret)
noncomputable def q65_0 : Q := .seq (fun _ => q65_1) (fun _ => q65_2)
noncomputable def q65 : Unit → Q := fun _ => q65_0
theorem ok65 : FnOk 65 q65 [.tmp 2] 16 := .of f65 func65 call65 (by kernel_rfl) (by kernel_rfl) (by kernel_rfl) (by kernel_rfl)

-- parcener/parcenerlaw36.replaced
noncomputable def r66_0 : List Oper := opsIn 0 f66
noncomputable def q66_1 : Q := .region 0 (fun _ => r66_0) [] false [0] []
noncomputable def r66_1 : List Oper := opsIn 1 f66
noncomputable def q66_3 : Q := .region 1 (fun _ => r66_1) [] false [0, 1, 2, 3] []
noncomputable def r66_2 : List Oper := opsIn 2 f66
noncomputable def q66_5 : Q := .region 2 (fun _ => r66_2) [] false [0, 1, 2, 3, 4, 5, 6, 7] []
noncomputable def r66_3 : List Oper := opsIn 3 f66
noncomputable def q66_7 : Q := .region 3 (fun _ => r66_3) [] false [0, 1] []
noncomputable def q66_6 : Q := .seq (fun _ => q66_7) (fun _ => .ret)
noncomputable def q66_4 : Q := .seq (fun _ => q66_5) (fun _ => q66_6)
noncomputable def q66_2 : Q := .seq (fun _ => q66_3) (fun _ => q66_4)
noncomputable def q66_0 : Q := .seq (fun _ => q66_1) (fun _ => q66_2)
noncomputable def q66 : Unit → Q := fun _ => q66_0
theorem ok66 : FnOk 66 q66 [.tmp 6] 19 := .of f66 func66 call66 (by kernel_rfl) (by kernel_rfl) (by kernel_rfl) (by kernel_rfl)

-- parcener/parcenerref04.Right
noncomputable def r67_0 : List Oper := opsIn 0 f67
noncomputable def q67_1 : Q := .region 0 (fun _ => r67_0) [] false [0, 1] []
noncomputable def r67_1 : List Oper := opsIn 1 f67
noncomputable def q67_4 : Q := .region 1 (fun _ => r67_1) [6, 10] false [0, 1, 2, 3, 4, 5, 6, 7, 8, 9, 10, 11, 12, 13, 14, 15] []
noncomputable def r67_2 : List Oper := opsIn 2 f67
noncomputable def q67_7 : Q := .region 2 (fun _ => r67_2) [] false [0] []
noncomputable def q67_6 : Q := .seq (fun _ => q67_7) (fun _ => .ret)
noncomputable def q67_5 : Q := .cond (.tmp 22) (fun _ => q67_6) (fun _ => .skip)
noncomputable def q67_3 : Q := .seq (fun _ => q67_4) (fun _ => q67_5)
noncomputable def r67_3 : List Oper := opsIn 3 f67
noncomputable def q67_9 : Q := .region 3 (fun _ => r67_3) [] false [0, 1, 2, 3, 4, 5, 6, 7, 8] []
noncomputable def r67_4 : List Oper := opsIn 4 f67
noncomputable def q67_11 : Q := .region 4 (fun _ => r67_4) [2] false [0, 1, 2, 3, 4, 5, 6, 7, 8] []
noncomputable def q67_10 : Q := .seq (fun _ => q67_11) (fun _ => .ret)
noncomputable def q67_8 : Q := .seq (fun _ => q67_9) (fun _ => q67_10)
noncomputable def q67_2 : Q := .seq (fun _ => q67_3) (fun _ => q67_8)
noncomputable def q67_0 : Q := .seq (fun _ => q67_1) (fun _ => q67_2)
noncomputable def q67 : Unit → Q := fun _ => q67_0
theorem ok67 : FnOk 67 q67 [.tmp 4] 37 := .of f67 func67 call67 (by kernel_rfl) (by kernel_rfl) (by kernel_rfl) (by kernel_rfl)

-- parcener/parcenerref36.Cakes
noncomputable def r68_0 : List Oper := opsIn 0 f68
noncomputable def q68_1 : Q := .region 0 (fun _ => r68_0) [] false [0] []
noncomputable def r68_1 : List Oper := opsIn 1 f68
noncomputable def q68_3 : Q := .region 1 (fun _ => r68_1) [] false [0] []
noncomputable def r68_2 : List Oper := opsIn 2 f68
noncomputable def q68_6 : Q := .region 2 (fun _ => r68_2) [] false [0] []
noncomputable def r68_3 : List Oper := opsIn 3 f68
noncomputable def q68_11 : Q := .region 3 (fun _ => r68_3) [] false [0, 1, 2, 3] []
noncomputable def q68_12 : Q := .cond (.tmp 10) (fun _ => .skip) (fun _ => (.exit 0))
noncomputable def q68_10 : Q := .seq (fun _ => q68_11) (fun _ => q68_12)
noncomputable def r68_5 : List Oper := opsIn 5 f68
noncomputable def q68_16 : Q := .region 5 (fun _ => r68_5) [] false [0] []
noncomputable def r68_6 : List Oper := opsIn 6 f68
noncomputable def q68_18 : Q := .region 6 (fun _ => r68_6) [] false [0, 1, 2, 3, 4, 5, 6, 7, 8] []
noncomputable def r68_7 : List Oper := opsIn 7 f68
noncomputable def q68_19 : Q := .region 7 (fun _ => r68_7) [] false [0, 1, 2, 3, 4, 5, 6, 7, 8] []
noncomputable def q68_17 : Q := .cond (.tmp 13) (fun _ => q68_18) (fun _ => q68_19)
noncomputable def q68_15 : Q := .seq (fun _ => q68_16) (fun _ => q68_17)
noncomputable def q68_14 : Q := .block 1 (fun _ => q68_15)
noncomputable def r68_4 : List Oper := opsIn 4 f68
noncomputable def q68_20 : Q := .region 4 (fun _ => r68_4) [] false [0, 1, 2] []
noncomputable def q68_13 : Q := .seq (fun _ => q68_14) (fun _ => q68_20)
noncomputable def q68_9 : Q := .seq (fun _ => q68_10) (fun _ => q68_13)
noncomputable def q68_8 : Q := .loop (fun _ => q68_9)
noncomputable def q68_7 : Q := .block 0 (fun _ => q68_8)
noncomputable def q68_5 : Q := .seq (fun _ => q68_6) (fun _ => q68_7)
noncomputable def r68_8 : List Oper := opsIn 8 f68
noncomputable def q68_22 : Q := .region 8 (fun _ => r68_8) [] false [0, 1] []
noncomputable def q68_21 : Q := .seq (fun _ => q68_22) (fun _ => .ret)
noncomputable def q68_4 : Q := .seq (fun _ => q68_5) (fun _ => q68_21)
noncomputable def q68_2 : Q := .seq (fun _ => q68_3) (fun _ => q68_4)
noncomputable def q68_0 : Q := .seq (fun _ => q68_1) (fun _ => q68_2)
noncomputable def q68 : Unit → Q := fun _ => q68_0
theorem ok68 : FnOk 68 q68 [.tmp 4] 31 := .of f68 func68 call68 (by kernel_rfl) (by kernel_rfl) (by kernel_rfl) (by kernel_rfl)

-- parcener/agent.begin
noncomputable def r69_0 : List Oper := opsIn 0 f69
noncomputable def q69_1 : Q := .region 0 (fun _ => r69_0) [] false [0, 1] []
noncomputable def r69_1 : List Oper := opsIn 1 f69
noncomputable def q69_3 : Q := .region 1 (fun _ => r69_1) [] false [0, 1, 2] []
noncomputable def r69_2 : List Oper := opsIn 2 f69
noncomputable def q69_6 : Q := .region 2 (fun _ => r69_2) [] false [0, 1, 2, 3] []
noncomputable def r69_3 : List Oper := opsIn 3 f69
noncomputable def q69_10 : Q := .region 3 (fun _ => r69_3) [] false [0] []
noncomputable def q69_12 : Q := .cond (.tmp 12) (fun _ => .skip) (fun _ => (.exit 0))
noncomputable def r69_4 : List Oper := opsIn 4 f69
noncomputable def q69_16 : Q := .region 4 (fun _ => r69_4) [] false [0, 1, 2, 3] []
noncomputable def r69_5 : List Oper := opsIn 5 f69
noncomputable def q69_18 : Q := .region 5 (fun _ => r69_5) [] true [0, 1, 3, 4, 2, 6, 5, 7, 8, 9] []
noncomputable def r69_6 : List Oper := opsIn 6 f69
noncomputable def q69_19 : Q := .region 6 (fun _ => r69_6) [] true [0, 1, 2, 3, 4, 5, 6, 7, 8, 9, 10, 11, 12] []
noncomputable def q69_17 : Q := .seq (fun _ => q69_18) (fun _ => q69_19)
noncomputable def q69_15 : Q := .seq (fun _ => q69_16) (fun _ => q69_17)
noncomputable def q69_14 : Q := .block 1 (fun _ => q69_15)
noncomputable def r69_7 : List Oper := opsIn 7 f69
noncomputable def q69_20 : Q := .region 7 (fun _ => r69_7) [] false [0, 1] []
noncomputable def q69_13 : Q := .seq (fun _ => q69_14) (fun _ => q69_20)
noncomputable def q69_11 : Q := .seq (fun _ => q69_12) (fun _ => q69_13)
noncomputable def q69_9 : Q := .seq (fun _ => q69_10) (fun _ => q69_11)
noncomputable def q69_8 : Q := .loop (fun _ => q69_9)
noncomputable def q69_7 : Q := .block 0 (fun _ => q69_8)
noncomputable def q69_5 : Q := .seq (fun _ => q69_6) (fun _ => q69_7)
noncomputable def r69_8 : List Oper := opsIn 8 f69
noncomputable def q69_22 : Q := .region 8 (fun _ => r69_8) [] true [0, 1, 2, 3, 4, 5, 6, 7, 8, 9, 10, 11, 12] []
noncomputable def r69_9 : List Oper := opsIn 9 f69
noncomputable def q69_24 : Q := .region 9 (fun _ => r69_9) [] false [0, 1] []
noncomputable def q69_23 : Q := .seq (fun _ => q69_24) (fun _ => .ret)
noncomputable def q69_21 : Q := .seq (fun _ => q69_22) (fun _ => q69_23)
noncomputable def q69_4 : Q := .seq (fun _ => q69_5) (fun _ => q69_21)
noncomputable def q69_2 : Q := .seq (fun _ => q69_3) (fun _ => q69_4)
noncomputable def q69_0 : Q := .seq (fun _ => q69_1) (fun _ => q69_2)
noncomputable def q69 : Unit → Q := fun _ => q69_0
theorem ok69 : FnOk 69 q69 [.tmp 2] 49 := .of f69 func69 call69 (by kernel_rfl) (by kernel_rfl) (by kernel_rfl) (by kernel_rfl)

-- (*parcener/agent.meeting).ask
noncomputable def r70_0 : List Oper := opsIn 0 f70
noncomputable def q70_1 : Q := .region 0 (fun _ => r70_0) [] false [0, 1, 2] []
noncomputable def r70_1 : List Oper := opsIn 1 f70
noncomputable def q70_4 : Q := .region 1 (fun _ => r70_1) [3] true [0, 1, 2, 3, 4, 5, 6, 7, 8, 9, 10, 11, 12, 13] []
noncomputable def r70_2 : List Oper := opsIn 2 f70
noncomputable def q70_7 : Q := .region 2 (fun _ => r70_2) [] false [0, 1, 2] []
noncomputable def q70_6 : Q := .seq (fun _ => q70_7) (fun _ => .ret)
noncomputable def q70_5 : Q := .cond (.tmp 23) (fun _ => q70_6) (fun _ => .skip)
noncomputable def q70_3 : Q := .seq (fun _ => q70_4) (fun _ => q70_5)
noncomputable def r70_3 : List Oper := opsIn 3 f70
noncomputable def q70_9 : Q := .region 3 (fun _ => r70_3) [] true [0, 1, 2, 3, 4, 5, 6, 7, 8] []
noncomputable def r70_4 : List Oper := opsIn 4 f70
noncomputable def q70_11 : Q := .region 4 (fun _ => r70_4) [] false [0, 1, 2, 3, 4, 5] []
noncomputable def r70_5 : List Oper := opsIn 5 f70
noncomputable def q70_14 : Q := .region 5 (fun _ => r70_5) [5] true [0, 1, 2, 3, 4, 5, 6, 7, 8, 9, 10, 11, 12, 13, 14, 15] []
noncomputable def r70_6 : List Oper := opsIn 6 f70
noncomputable def q70_16 : Q := .region 6 (fun _ => r70_6) [] false [0, 1, 2, 3, 4] []
noncomputable def q70_15 : Q := .cond (.tmp 52) (fun _ => q70_16) (fun _ => .skip)
noncomputable def q70_13 : Q := .seq (fun _ => q70_14) (fun _ => q70_15)
noncomputable def r70_7 : List Oper := opsIn 7 f70
noncomputable def q70_18 : Q := .region 7 (fun _ => r70_7) [] false [0] []
noncomputable def r70_8 : List Oper := opsIn 8 f70
noncomputable def q70_20 : Q := .region 8 (fun _ => r70_8) [] false [0] []
noncomputable def r70_9 : List Oper := opsIn 9 f70
noncomputable def q70_23 : Q := .region 9 (fun _ => r70_9) [] false [0, 1] []
noncomputable def r70_11 : List Oper := opsIn 11 f70
noncomputable def q70_26 : Q := .region 11 (fun _ => r70_11) [] false [0, 1] []
noncomputable def r70_12 : List Oper := opsIn 12 f70
noncomputable def q70_28 : Q := .region 12 (fun _ => r70_12) [] false [0, 1, 2, 3, 4, 5, 6, 7, 8, 9, 10] []
noncomputable def r70_13 : List Oper := opsIn 13 f70
noncomputable def q70_30 : Q := .region 13 (fun _ => r70_13) [] false [0, 1] []
noncomputable def r70_14 : List Oper := opsIn 14 f70
noncomputable def q70_32 : Q := .region 14 (fun _ => r70_14) [] false [0, 1, 2, 3, 4, 5, 6, 7, 8, 9, 10] []
noncomputable def r70_10 : List Oper := opsIn 10 f70
noncomputable def q70_33 : Q := .region 10 (fun _ => r70_10) [] false [0] []
noncomputable def q70_31 : Q := .cond (.tmp 70) (fun _ => q70_32) (fun _ => q70_33)
noncomputable def q70_29 : Q := .seq (fun _ => q70_30) (fun _ => q70_31)
noncomputable def q70_27 : Q := .cond (.tmp 59) (fun _ => q70_28) (fun _ => q70_29)
noncomputable def q70_25 : Q := .seq (fun _ => q70_26) (fun _ => q70_27)
noncomputable def q70_24 : Q := .block 0 (fun _ => q70_25)
noncomputable def q70_22 : Q := .seq (fun _ => q70_23) (fun _ => q70_24)
noncomputable def r70_15 : List Oper := opsIn 15 f70
noncomputable def q70_36 : Q := .region 15 (fun _ => r70_15) [] false [0, 1] []
noncomputable def r70_16 : List Oper := opsIn 16 f70
noncomputable def q70_39 : Q := .region 16 (fun _ => r70_16) [] false [0, 1, 2, 3] []
noncomputable def q70_38 : Q := .seq (fun _ => q70_39) (fun _ => .ret)
noncomputable def q70_37 : Q := .cond (.tmp 82) (fun _ => q70_38) (fun _ => .skip)
noncomputable def q70_35 : Q := .seq (fun _ => q70_36) (fun _ => q70_37)
noncomputable def r70_17 : List Oper := opsIn 17 f70
noncomputable def q70_42 : Q := .region 17 (fun _ => r70_17) [] false [0, 1, 2, 3, 4, 5, 6] []
noncomputable def r70_18 : List Oper := opsIn 18 f70
noncomputable def q70_45 : Q := .region 18 (fun _ => r70_18) [] false [0, 1, 2] []
noncomputable def q70_44 : Q := .seq (fun _ => q70_45) (fun _ => .ret)
noncomputable def q70_43 : Q := .cond (.tmp 91) (fun _ => q70_44) (fun _ => .skip)
noncomputable def q70_41 : Q := .seq (fun _ => q70_42) (fun _ => q70_43)
noncomputable def r70_19 : List Oper := opsIn 19 f70
noncomputable def q70_47 : Q := .region 19 (fun _ => r70_19) [] false [0, 1, 2] []
noncomputable def r70_20 : List Oper := opsIn 20 f70
noncomputable def q70_49 : Q := .region 20 (fun _ => r70_20) [] true [0, 1, 2, 3, 4, 5, 6, 7, 8, 9, 10, 11, 12] []
noncomputable def r70_21 : List Oper := opsIn 21 f70
noncomputable def q70_51 : Q := .region 21 (fun _ => r70_21) [] false [0, 1, 2, 3, 4, 5, 6, 7] []
noncomputable def r70_22 : List Oper := opsIn 22 f70
noncomputable def q70_53 : Q := .region 22 (fun _ => r70_22) [] false [0, 1, 2] []
noncomputable def q70_52 : Q := .seq (fun _ => q70_53) (fun _ => .ret)
noncomputable def q70_50 : Q := .seq (fun _ => q70_51) (fun _ => q70_52)
noncomputable def q70_48 : Q := .seq (fun _ => q70_49) (fun _ => q70_50)
noncomputable def q70_46 : Q := .seq (fun _ => q70_47) (fun _ => q70_48)
noncomputable def q70_40 : Q := .seq (fun _ => q70_41) (fun _ => q70_46)
noncomputable def q70_34 : Q := .seq (fun _ => q70_35) (fun _ => q70_40)
noncomputable def q70_21 : Q := .seq (fun _ => q70_22) (fun _ => q70_34)
noncomputable def q70_19 : Q := .seq (fun _ => q70_20) (fun _ => q70_21)
noncomputable def q70_17 : Q := .seq (fun _ => q70_18) (fun _ => q70_19)
noncomputable def q70_12 : Q := .seq (fun _ => q70_13) (fun _ => q70_17)
noncomputable def q70_10 : Q := .seq (fun _ => q70_11) (fun _ => q70_12)
noncomputable def q70_8 : Q := .seq (fun _ => q70_9) (fun _ => q70_10)
noncomputable def q70_2 : Q := .seq (fun _ => q70_3) (fun _ => q70_8)
noncomputable def q70_0 : Q := .seq (fun _ => q70_1) (fun _ => q70_2)
noncomputable def q70 : Unit → Q := fun _ => q70_0
theorem ok70 : FnOk 70 q70 [.cell 4 43, .tmp 5] 115 := .of f70 func70 call70 (by kernel_rfl) (by kernel_rfl) (by kernel_rfl) (by kernel_rfl)

-- parcener/cake.point
noncomputable def r71_0 : List Oper := opsIn 0 f71
noncomputable def q71_1 : Q := .region 0 (fun _ => r71_0) [] false [0, 1, 2] []
noncomputable def r71_1 : List Oper := opsIn 1 f71
noncomputable def q71_3 : Q := .region 1 (fun _ => r71_1) [3, 8] true [0, 1, 2, 3, 4, 5, 6, 7, 8, 9, 10, 12, 11, 13, 14, 15, 16] []
noncomputable def q71_2 : Q := .seq (fun _ => q71_3) (fun _ => .ret)
noncomputable def q71_0 : Q := .seq (fun _ => q71_1) (fun _ => q71_2)
noncomputable def q71 : Unit → Q := fun _ => q71_0
theorem ok71 : FnOk 71 q71 [.tmp 4] 21 := .of f71 func71 call71 (by kernel_rfl) (by kernel_rfl) (by kernel_rfl) (by kernel_rfl)

-- parcener/cake.less
noncomputable def r72_0 : List Oper := opsIn 0 f72
noncomputable def q72_1 : Q := .region 0 (fun _ => r72_0) [] false [0, 1, 2] []
noncomputable def r72_1 : List Oper := opsIn 1 f72
noncomputable def q72_3 : Q := .region 1 (fun _ => r72_1) [] false [0, 1, 2, 3, 4, 5, 6, 7] []
noncomputable def r72_2 : List Oper := opsIn 2 f72
noncomputable def q72_5 : Q := .region 2 (fun _ => r72_2) [] false [0, 1, 2] []
noncomputable def q72_4 : Q := .seq (fun _ => q72_5) (fun _ => .ret)
noncomputable def q72_2 : Q := .seq (fun _ => q72_3) (fun _ => q72_4)
noncomputable def q72_0 : Q := .seq (fun _ => q72_1) (fun _ => q72_2)
noncomputable def q72 : Unit → Q := fun _ => q72_0
theorem ok72 : FnOk 72 q72 [.tmp 4] 15 := .of f72 func72 call72 (by kernel_rfl) (by kernel_rfl) (by kernel_rfl) (by kernel_rfl)

-- parcener/cake.whole
noncomputable def r73_0 : List Oper := opsIn 0 f73
noncomputable def q73_1 : Q := .region 0 (fun _ => r73_0) [] false [0] []
noncomputable def r73_1 : List Oper := opsIn 1 f73
noncomputable def q73_3 : Q := .region 1 (fun _ => r73_1) [] false [0, 1, 2] []
noncomputable def q73_2 : Q := .seq (fun _ => q73_3) (fun _ => .ret)
noncomputable def q73_0 : Q := .seq (fun _ => q73_1) (fun _ => q73_2)
noncomputable def q73 : Unit → Q := fun _ => q73_0
theorem ok73 : FnOk 73 q73 [.cell 2 43] 5 := .of f73 func73 call73 (by kernel_rfl) (by kernel_rfl) (by kernel_rfl) (by kernel_rfl)

-- slices.Compact[[]int,int]
noncomputable def r74_0 : List Oper := opsIn 0 f74
noncomputable def q74_1 : Q := .region 0 (fun _ => r74_0) [] false [0] []
noncomputable def r74_1 : List Oper := opsIn 1 f74
noncomputable def q74_4 : Q := .region 1 (fun _ => r74_1) [] false [0, 1, 2] []
noncomputable def r74_2 : List Oper := opsIn 2 f74
noncomputable def q74_7 : Q := .region 2 (fun _ => r74_2) [] false [0, 1] []
noncomputable def q74_6 : Q := .seq (fun _ => q74_7) (fun _ => .ret)
noncomputable def q74_5 : Q := .cond (.tmp 8) (fun _ => q74_6) (fun _ => .skip)
noncomputable def q74_3 : Q := .seq (fun _ => q74_4) (fun _ => q74_5)
noncomputable def r74_3 : List Oper := opsIn 3 f74
noncomputable def q74_10 : Q := .region 3 (fun _ => r74_3) [] false [0] []
noncomputable def r74_4 : List Oper := opsIn 4 f74
noncomputable def q74_15 : Q := .region 4 (fun _ => r74_4) [] false [0, 1, 2, 3] []
noncomputable def q74_16 : Q := .cond (.tmp 13) (fun _ => .skip) (fun _ => (.exit 0))
noncomputable def q74_14 : Q := .seq (fun _ => q74_15) (fun _ => q74_16)
noncomputable def r74_6 : List Oper := opsIn 6 f74
noncomputable def q74_20 : Q := .region 6 (fun _ => r74_6) [] true [0, 1, 2, 3, 4, 5, 6, 7, 8, 9] []
noncomputable def r74_7 : List Oper := opsIn 7 f74
noncomputable def q74_23 : Q := .region 7 (fun _ => r74_7) [] false [0, 1, 2, 3] []
noncomputable def r74_8 : List Oper := opsIn 8 f74
noncomputable def q74_26 : Q := .region 8 (fun _ => r74_8) [] false [0] []
noncomputable def r74_9 : List Oper := opsIn 9 f74
noncomputable def q74_31 : Q := .region 9 (fun _ => r74_9) [] false [0, 1, 2, 3] []
noncomputable def q74_32 : Q := .cond (.tmp 32) (fun _ => .skip) (fun _ => (.exit 2))
noncomputable def q74_30 : Q := .seq (fun _ => q74_31) (fun _ => q74_32)
noncomputable def r74_11 : List Oper := opsIn 11 f74
noncomputable def q74_36 : Q := .region 11 (fun _ => r74_11) [] true [0, 1, 2, 3, 4, 5, 6, 7, 8, 9] []
noncomputable def r74_12 : List Oper := opsIn 12 f74
noncomputable def q74_39 : Q := .region 12 (fun _ => r74_12) [] false [0, 1, 2, 3, 4, 5, 6, 7] []
noncomputable def r74_13 : List Oper := opsIn 13 f74
noncomputable def q74_40 : Q := .region 13 (fun _ => r74_13) [] false [0, 1, 2] []
noncomputable def q74_38 : Q := .seq (fun _ => q74_39) (fun _ => q74_40)
noncomputable def q74_37 : Q := .cond (.tmp 44) (fun _ => q74_38) (fun _ => .skip)
noncomputable def q74_35 : Q := .seq (fun _ => q74_36) (fun _ => q74_37)
noncomputable def q74_34 : Q := .block 3 (fun _ => q74_35)
noncomputable def r74_10 : List Oper := opsIn 10 f74
noncomputable def q74_41 : Q := .region 10 (fun _ => r74_10) [] false [0, 1, 2] []
noncomputable def q74_33 : Q := .seq (fun _ => q74_34) (fun _ => q74_41)
noncomputable def q74_29 : Q := .seq (fun _ => q74_30) (fun _ => q74_33)
noncomputable def q74_28 : Q := .loop (fun _ => q74_29)
noncomputable def q74_27 : Q := .block 2 (fun _ => q74_28)
noncomputable def q74_25 : Q := .seq (fun _ => q74_26) (fun _ => q74_27)
noncomputable def r74_14 : List Oper := opsIn 14 f74
noncomputable def q74_43 : Q := .region 14 (fun _ => r74_14) [] false [0, 1, 2, 3] []
noncomputable def r74_15 : List Oper := opsIn 15 f74
noncomputable def q74_45 : Q := .region 15 (fun _ => r74_15) [] false [0, 1, 2, 3] []
noncomputable def q74_44 : Q := .seq (fun _ => q74_45) (fun _ => .ret)
noncomputable def q74_42 : Q := .seq (fun _ => q74_43) (fun _ => q74_44)
noncomputable def q74_24 : Q := .seq (fun _ => q74_25) (fun _ => q74_42)
noncomputable def q74_22 : Q := .seq (fun _ => q74_23) (fun _ => q74_24)
noncomputable def q74_21 : Q := .cond (.tmp 25) (fun _ => q74_22) (fun _ => .skip)
noncomputable def q74_19 : Q := .seq (fun _ => q74_20) (fun _ => q74_21)
noncomputable def q74_18 : Q := .block 1 (fun _ => q74_19)
noncomputable def r74_5 : List Oper := opsIn 5 f74
noncomputable def q74_46 : Q := .region 5 (fun _ => r74_5) [] false [0, 1, 2] []
noncomputable def q74_17 : Q := .seq (fun _ => q74_18) (fun _ => q74_46)
noncomputable def q74_13 : Q := .seq (fun _ => q74_14) (fun _ => q74_17)
noncomputable def q74_12 : Q := .loop (fun _ => q74_13)
noncomputable def q74_11 : Q := .block 0 (fun _ => q74_12)
noncomputable def q74_9 : Q := .seq (fun _ => q74_10) (fun _ => q74_11)
noncomputable def r74_16 : List Oper := opsIn 16 f74
noncomputable def q74_48 : Q := .region 16 (fun _ => r74_16) [] false [0, 1] []
noncomputable def q74_47 : Q := .seq (fun _ => q74_48) (fun _ => .ret)
noncomputable def q74_8 : Q := .seq (fun _ => q74_9) (fun _ => q74_47)
noncomputable def q74_2 : Q := .seq (fun _ => q74_3) (fun _ => q74_8)
noncomputable def q74_0 : Q := .seq (fun _ => q74_1) (fun _ => q74_2)
noncomputable def q74 : Unit → Q := fun _ => q74_0
theorem ok74 : FnOk 74 q74 [.tmp 2] 61 := .of f74 func74 call74 (by kernel_rfl) (by kernel_rfl) (by kernel_rfl) (by kernel_rfl)

-- slices.Clone[[]int,int]
noncomputable def r75_0 : List Oper := opsIn 0 f75
noncomputable def q75_1 : Q := .region 0 (fun _ => r75_0) [] false [0] []
noncomputable def r75_1 : List Oper := opsIn 1 f75
noncomputable def q75_4 : Q := .region 1 (fun _ => r75_1) [] false [0, 1] []
noncomputable def r75_2 : List Oper := opsIn 2 f75
noncomputable def q75_7 : Q := .region 2 (fun _ => r75_2) [] false [0] []
noncomputable def q75_6 : Q := .seq (fun _ => q75_7) (fun _ => .ret)
noncomputable def q75_5 : Q := .cond (.tmp 4) (fun _ => q75_6) (fun _ => .skip)
noncomputable def q75_3 : Q := .seq (fun _ => q75_4) (fun _ => q75_5)
noncomputable def r75_3 : List Oper := opsIn 3 f75
noncomputable def q75_9 : Q := .region 3 (fun _ => r75_3) [] false [0, 1, 2, 3] []
noncomputable def q75_8 : Q := .seq (fun _ => q75_9) (fun _ => .ret)
noncomputable def q75_2 : Q := .seq (fun _ => q75_3) (fun _ => q75_8)
noncomputable def q75_0 : Q := .seq (fun _ => q75_1) (fun _ => q75_2)
noncomputable def q75 : Unit → Q := fun _ => q75_0
theorem ok75 : FnOk 75 q75 [.tmp 2] 8 := .of f75 func75 call75 (by kernel_rfl) (by kernel_rfl) (by kernel_rfl) (by kernel_rfl)

-- parcener/ratio.Sub
noncomputable def r76_0 : List Oper := opsIn 0 f76
noncomputable def q76_1 : Q := .region 0 (fun _ => r76_0) [] false [0, 1, 2, 3] []
noncomputable def r76_1 : List Oper := opsIn 1 f76
noncomputable def q76_4 : Q := .region 1 (fun _ => r76_1) [] false [0, 1, 2, 3] []
noncomputable def r76_2 : List Oper := opsIn 2 f76
noncomputable def q76_6 : Q := .region 2 (fun _ => r76_2) [] false [0, 1] []
noncomputable def r76_3 : List Oper := opsIn 3 f76
noncomputable def q76_9 : Q := .region 3 (fun _ => r76_3) [] false [0, 1, 2, 3] []
noncomputable def q76_8 : Q := .seq (fun _ => q76_9) (fun _ => .ret)
noncomputable def q76_7 : Q := .cond (.tmp 11) (fun _ => q76_8) (fun _ => .skip)
noncomputable def q76_5 : Q := .seq (fun _ => q76_6) (fun _ => q76_7)
noncomputable def q76_3 : Q := .seq (fun _ => q76_4) (fun _ => q76_5)
noncomputable def r76_4 : List Oper := opsIn 4 f76
noncomputable def q76_11 : Q := .region 4 (fun _ => r76_4) [] false [0, 1, 2, 3, 4] []
noncomputable def r76_5 : List Oper := opsIn 5 f76
noncomputable def q76_13 : Q := .region 5 (fun _ => r76_5) [] false [0, 1, 2, 3, 4, 5, 6] []
noncomputable def q76_12 : Q := .seq (fun _ => q76_13) (fun _ => .ret)
noncomputable def q76_10 : Q := .seq (fun _ => q76_11) (fun _ => q76_12)
noncomputable def q76_2 : Q := .seq (fun _ => q76_3) (fun _ => q76_10)
noncomputable def q76_0 : Q := .seq (fun _ => q76_1) (fun _ => q76_2)
noncomputable def q76 : Unit → Q := fun _ => q76_0
theorem ok76 : FnOk 76 q76 [.cell 4 43, .tmp 5] 23 := .of f76 func76 call76 (by kernel_rfl) (by kernel_rfl) (by kernel_rfl) (by kernel_rfl)

-- parcener/ratio.Mul
noncomputable def r77_0 : List Oper := opsIn 0 f77
noncomputable def q77_1 : Q := .region 0 (fun _ => r77_0) [] false [0, 1, 2, 3] []
noncomputable def r77_1 : List Oper := opsIn 1 f77
noncomputable def q77_4 : Q := .region 1 (fun _ => r77_1) [] false [0, 1, 2, 3] []
noncomputable def r77_2 : List Oper := opsIn 2 f77
noncomputable def q77_6 : Q := .region 2 (fun _ => r77_2) [] false [0, 1] []
noncomputable def r77_3 : List Oper := opsIn 3 f77
noncomputable def q77_9 : Q := .region 3 (fun _ => r77_3) [] false [0, 1, 2, 3] []
noncomputable def q77_8 : Q := .seq (fun _ => q77_9) (fun _ => .ret)
noncomputable def q77_7 : Q := .cond (.tmp 21) (fun _ => q77_8) (fun _ => .skip)
noncomputable def q77_5 : Q := .seq (fun _ => q77_6) (fun _ => q77_7)
noncomputable def q77_3 : Q := .seq (fun _ => q77_4) (fun _ => q77_5)
noncomputable def r77_4 : List Oper := opsIn 4 f77
noncomputable def q77_11 : Q := .region 4 (fun _ => r77_4) [] true [0, 1, 3, 4, 5, 6, 7, 9, 10, 11, 2, 8, 12, 13, 14, 15] []
noncomputable def r77_5 : List Oper := opsIn 5 f77
noncomputable def q77_13 : Q := .region 5 (fun _ => r77_5) [] false [0, 1, 2, 3, 4, 5, 6, 7] []
noncomputable def r77_6 : List Oper := opsIn 6 f77
noncomputable def q77_15 : Q := .region 6 (fun _ => r77_6) [] true [0, 1, 2, 3, 4, 5, 6, 7, 8, 9, 10, 11] []
noncomputable def r77_7 : List Oper := opsIn 7 f77
noncomputable def q77_17 : Q := .region 7 (fun _ => r77_7) [] true [0, 1, 2, 3, 4, 5, 6, 7, 8, 9, 10, 11] []
noncomputable def r77_8 : List Oper := opsIn 8 f77
noncomputable def q77_20 : Q := .region 8 (fun _ => r77_8) [] false [0, 1, 2, 3] []
noncomputable def r77_9 : List Oper := opsIn 9 f77
noncomputable def q77_23 : Q := .region 9 (fun _ => r77_9) [] false [0, 1, 2] []
noncomputable def q77_22 : Q := .seq (fun _ => q77_23) (fun _ => .ret)
noncomputable def q77_21 : Q := .cond (.tmp 65) (fun _ => q77_22) (fun _ => .skip)
noncomputable def q77_19 : Q := .seq (fun _ => q77_20) (fun _ => q77_21)
noncomputable def r77_10 : List Oper := opsIn 10 f77
noncomputable def q77_25 : Q := .region 10 (fun _ => r77_10) [2] false [0, 1, 2, 3, 4, 5, 6, 7, 8, 9, 10, 11, 12, 13, 14, 15, 16, 17] []
noncomputable def q77_24 : Q := .seq (fun _ => q77_25) (fun _ => .ret)
noncomputable def q77_18 : Q := .seq (fun _ => q77_19) (fun _ => q77_24)
noncomputable def q77_16 : Q := .seq (fun _ => q77_17) (fun _ => q77_18)
noncomputable def q77_14 : Q := .seq (fun _ => q77_15) (fun _ => q77_16)
noncomputable def q77_12 : Q := .seq (fun _ => q77_13) (fun _ => q77_14)
noncomputable def q77_10 : Q := .seq (fun _ => q77_11) (fun _ => q77_12)
noncomputable def q77_2 : Q := .seq (fun _ => q77_3) (fun _ => q77_10)
noncomputable def q77_0 : Q := .seq (fun _ => q77_1) (fun _ => q77_2)
noncomputable def q77 : Unit → Q := fun _ => q77_0
theorem ok77 : FnOk 77 q77 [.cell 4 43, .tmp 5] 83 := .of f77 func77 call77 (by kernel_rfl) (by kernel_rfl) (by kernel_rfl) (by kernel_rfl)

-- parcener/ratio.Add
noncomputable def r78_0 : List Oper := opsIn 0 f78
noncomputable def q78_1 : Q := .region 0 (fun _ => r78_0) [] false [0, 1, 2, 3] []
noncomputable def r78_1 : List Oper := opsIn 1 f78
noncomputable def q78_4 : Q := .region 1 (fun _ => r78_1) [] false [0, 1, 2, 3] []
noncomputable def r78_2 : List Oper := opsIn 2 f78
noncomputable def q78_6 : Q := .region 2 (fun _ => r78_2) [] false [0, 1] []
noncomputable def r78_3 : List Oper := opsIn 3 f78
noncomputable def q78_9 : Q := .region 3 (fun _ => r78_3) [] false [0, 1, 2, 3] []
noncomputable def q78_8 : Q := .seq (fun _ => q78_9) (fun _ => .ret)
noncomputable def q78_7 : Q := .cond (.tmp 25) (fun _ => q78_8) (fun _ => .skip)
noncomputable def q78_5 : Q := .seq (fun _ => q78_6) (fun _ => q78_7)
noncomputable def q78_3 : Q := .seq (fun _ => q78_4) (fun _ => q78_5)
noncomputable def r78_4 : List Oper := opsIn 4 f78
noncomputable def q78_11 : Q := .region 4 (fun _ => r78_4) [] false [0, 1, 2, 3, 4, 5, 6, 7] []
noncomputable def r78_5 : List Oper := opsIn 5 f78
noncomputable def q78_13 : Q := .region 5 (fun _ => r78_5) [] true [0, 1, 3, 4, 5, 6, 7, 2, 8, 9, 10, 11, 12, 13] []
noncomputable def r78_6 : List Oper := opsIn 6 f78
noncomputable def q78_15 : Q := .region 6 (fun _ => r78_6) [] true [0, 1, 3, 4, 5, 6, 7, 2, 8, 9, 10, 11, 12, 13] []
noncomputable def r78_7 : List Oper := opsIn 7 f78
noncomputable def q78_17 : Q := .region 7 (fun _ => r78_7) [] false [0, 1, 2, 3] []
noncomputable def r78_8 : List Oper := opsIn 8 f78
noncomputable def q78_19 : Q := .region 8 (fun _ => r78_8) [] false [0, 1, 2] []
noncomputable def r78_9 : List Oper := opsIn 9 f78
noncomputable def q78_22 : Q := .region 9 (fun _ => r78_9) [] false [0, 1, 2, 3, 4, 5, 6] []
noncomputable def r78_10 : List Oper := opsIn 10 f78
noncomputable def q78_25 : Q := .region 10 (fun _ => r78_10) [] false [0, 1, 2, 3, 4, 5, 6, 7] []
noncomputable def r78_11 : List Oper := opsIn 11 f78
noncomputable def q78_26 : Q := .region 11 (fun _ => r78_11) [] false [0, 1, 2, 3, 4, 5, 6, 7] []
noncomputable def q78_24 : Q := .seq (fun _ => q78_25) (fun _ => q78_26)
noncomputable def r78_12 : List Oper := opsIn 12 f78
noncomputable def q78_29 : Q := .region 12 (fun _ => r78_12) [3, 7] false [0, 1, 2, 3, 4, 5, 6, 7, 8, 9, 10, 11, 12] []
noncomputable def r78_13 : List Oper := opsIn 13 f78
noncomputable def q78_32 : Q := .region 13 (fun _ => r78_13) [] false [0, 1, 2, 3, 4, 5, 6, 7] []
noncomputable def r78_14 : List Oper := opsIn 14 f78
noncomputable def q78_33 : Q := .region 14 (fun _ => r78_14) [] false [0, 1, 2] []
noncomputable def q78_31 : Q := .seq (fun _ => q78_32) (fun _ => q78_33)
noncomputable def q78_30 : Q := .cond (.tmp 94) (fun _ => q78_31) (fun _ => .skip)
noncomputable def q78_28 : Q := .seq (fun _ => q78_29) (fun _ => q78_30)
noncomputable def r78_15 : List Oper := opsIn 15 f78
noncomputable def q78_35 : Q := .region 15 (fun _ => r78_15) [] false [0, 1, 2, 3, 4, 5, 6, 7] []
noncomputable def r78_16 : List Oper := opsIn 16 f78
noncomputable def q78_36 : Q := .region 16 (fun _ => r78_16) [] false [0, 1, 2, 3, 4, 5, 6, 7] []
noncomputable def q78_34 : Q := .seq (fun _ => q78_35) (fun _ => q78_36)
noncomputable def q78_27 : Q := .seq (fun _ => q78_28) (fun _ => q78_34)
noncomputable def q78_23 : Q := .cond (.tmp 68) (fun _ => q78_24) (fun _ => q78_27)
noncomputable def q78_21 : Q := .seq (fun _ => q78_22) (fun _ => q78_23)
noncomputable def r78_17 : List Oper := opsIn 17 f78
noncomputable def q78_39 : Q := .region 17 (fun _ => r78_17) [2] false [0, 1, 2, 3, 4, 5] []
noncomputable def r78_18 : List Oper := opsIn 18 f78
noncomputable def q78_42 : Q := .region 18 (fun _ => r78_18) [] false [0, 1, 2] []
noncomputable def q78_41 : Q := .seq (fun _ => q78_42) (fun _ => .ret)
noncomputable def q78_40 : Q := .cond (.tmp 119) (fun _ => q78_41) (fun _ => .skip)
noncomputable def q78_38 : Q := .seq (fun _ => q78_39) (fun _ => q78_40)
noncomputable def r78_19 : List Oper := opsIn 19 f78
noncomputable def q78_44 : Q := .region 19 (fun _ => r78_19) [] false [0, 1, 2, 3, 4, 5, 6] []
noncomputable def r78_20 : List Oper := opsIn 20 f78
noncomputable def q78_47 : Q := .region 20 (fun _ => r78_20) [] false [0, 1, 2] []
noncomputable def r78_21 : List Oper := opsIn 21 f78
noncomputable def q78_50 : Q := .region 21 (fun _ => r78_21) [] false [0, 1, 2] []
noncomputable def q78_49 : Q := .seq (fun _ => q78_50) (fun _ => .ret)
noncomputable def q78_48 : Q := .cond (.tmp 129) (fun _ => q78_49) (fun _ => .skip)
noncomputable def q78_46 : Q := .seq (fun _ => q78_47) (fun _ => q78_48)
noncomputable def r78_22 : List Oper := opsIn 22 f78
noncomputable def q78_52 : Q := .region 22 (fun _ => r78_22) [] false [0, 1, 2, 3, 4, 5, 6, 7, 8] []
noncomputable def r78_23 : List Oper := opsIn 23 f78
noncomputable def q78_54 : Q := .region 23 (fun _ => r78_23) [] true [0, 1, 2, 3, 4, 5, 6, 7, 8, 9, 10, 11, 12, 13, 14, 15] []
noncomputable def r78_24 : List Oper := opsIn 24 f78
noncomputable def q78_57 : Q := .region 24 (fun _ => r78_24) [] false [0, 1] []
noncomputable def r78_25 : List Oper := opsIn 25 f78
noncomputable def q78_60 : Q := .region 25 (fun _ => r78_25) [] false [0, 1, 2] []
noncomputable def q78_59 : Q := .seq (fun _ => q78_60) (fun _ => .ret)
noncomputable def q78_58 : Q := .cond (.tmp 153) (fun _ => q78_59) (fun _ => .skip)
noncomputable def q78_56 : Q := .seq (fun _ => q78_57) (fun _ => q78_58)
noncomputable def r78_26 : List Oper := opsIn 26 f78
noncomputable def q78_62 : Q := .region 26 (fun _ => r78_26) [] false [0, 1, 2, 3, 4, 5, 6, 7] []
noncomputable def q78_61 : Q := .seq (fun _ => q78_62) (fun _ => .ret)
noncomputable def q78_55 : Q := .seq (fun _ => q78_56) (fun _ => q78_61)
noncomputable def q78_53 : Q := .seq (fun _ => q78_54) (fun _ => q78_55)
noncomputable def q78_51 : Q := .seq (fun _ => q78_52) (fun _ => q78_53)
noncomputable def q78_45 : Q := .seq (fun _ => q78_46) (fun _ => q78_51)
noncomputable def q78_43 : Q := .seq (fun _ => q78_44) (fun _ => q78_45)
noncomputable def q78_37 : Q := .seq (fun _ => q78_38) (fun _ => q78_43)
noncomputable def q78_20 : Q := .seq (fun _ => q78_21) (fun _ => q78_37)
noncomputable def q78_18 : Q := .seq (fun _ => q78_19) (fun _ => q78_20)
noncomputable def q78_16 : Q := .seq (fun _ => q78_17) (fun _ => q78_18)
noncomputable def q78_14 : Q := .seq (fun _ => q78_15) (fun _ => q78_16)
noncomputable def q78_12 : Q := .seq (fun _ => q78_13) (fun _ => q78_14)
noncomputable def q78_10 : Q := .seq (fun _ => q78_11) (fun _ => q78_12)
noncomputable def q78_2 : Q := .seq (fun _ => q78_3) (fun _ => q78_10)
noncomputable def q78_0 : Q := .seq (fun _ => q78_1) (fun _ => q78_2)
noncomputable def q78 : Unit → Q := fun _ => q78_0
theorem ok78 : FnOk 78 q78 [.cell 4 43, .tmp 5] 161 := .of f78 func78 call78 (by kernel_rfl) (by kernel_rfl) (by kernel_rfl) (by kernel_rfl)

-- parcener/ratio.Check
noncomputable def r79_0 : List Oper := opsIn 0 f79
noncomputable def q79_1 : Q := .region 0 (fun _ => r79_0) [] false [0, 1] []
noncomputable def r79_1 : List Oper := opsIn 1 f79
noncomputable def q79_4 : Q := .region 1 (fun _ => r79_1) [3, 13] true [0, 1, 2, 3, 4, 5, 7, 8, 9, 6, 10, 11, 12, 13, 14, 15, 17, 18, 19, 16, 20, 21, 22] []
noncomputable def r79_2 : List Oper := opsIn 2 f79
noncomputable def q79_7 : Q := .region 2 (fun _ => r79_2) [] false [0] []
noncomputable def q79_6 : Q := .seq (fun _ => q79_7) (fun _ => .ret)
noncomputable def q79_5 : Q := .cond (.tmp 25) (fun _ => q79_6) (fun _ => .skip)
noncomputable def q79_3 : Q := .seq (fun _ => q79_4) (fun _ => q79_5)
noncomputable def r79_3 : List Oper := opsIn 3 f79
noncomputable def q79_9 : Q := .region 3 (fun _ => r79_3) [] false [0] []
noncomputable def q79_8 : Q := .seq (fun _ => q79_9) (fun _ => .ret)
noncomputable def q79_2 : Q := .seq (fun _ => q79_3) (fun _ => q79_8)
noncomputable def q79_0 : Q := .seq (fun _ => q79_1) (fun _ => q79_2)
noncomputable def q79 : Unit → Q := fun _ => q79_0
theorem ok79 : FnOk 79 q79 [.tmp 2] 26 := .of f79 func79 call79 (by kernel_rfl) (by kernel_rfl) (by kernel_rfl) (by kernel_rfl)

-- parcener/cake.walk
noncomputable def r80_0 : List Oper := opsIn 0 f80
noncomputable def q80_1 : Q := .region 0 (fun _ => r80_0) [] false [0, 1, 2] []
noncomputable def r80_1 : List Oper := opsIn 1 f80
noncomputable def q80_4 : Q := .region 1 (fun _ => r80_1) [] false [0, 1, 2, 3] []
noncomputable def r80_2 : List Oper := opsIn 2 f80
noncomputable def q80_8 : Q := .region 2 (fun _ => r80_2) [] false [0] []
noncomputable def q80_10 : Q := .cond (.tmp 17) (fun _ => .skip) (fun _ => (.exit 0))
noncomputable def r80_3 : List Oper := opsIn 3 f80
noncomputable def q80_14 : Q := .region 3 (fun _ => r80_3) [] false [0, 1, 2, 3, 4] []
noncomputable def r80_4 : List Oper := opsIn 4 f80
noncomputable def q80_16 : Q := .region 4 (fun _ => r80_4) [] false [0, 1, 2, 3, 4, 5, 6, 7, 8] []
noncomputable def r80_5 : List Oper := opsIn 5 f80
noncomputable def q80_19 : Q := .region 5 (fun _ => r80_5) [] false [0, 1, 2, 3] []
noncomputable def q80_20 : Q := .cond (.tmp 31) (fun _ => (.exit 1)) (fun _ => .skip)
noncomputable def q80_18 : Q := .seq (fun _ => q80_19) (fun _ => q80_20)
noncomputable def r80_6 : List Oper := opsIn 6 f80
noncomputable def q80_22 : Q := .region 6 (fun _ => r80_6) [] false [0, 1, 2] []
noncomputable def r80_7 : List Oper := opsIn 7 f80
noncomputable def q80_25 : Q := .region 7 (fun _ => r80_7) [] false [0, 1] []
noncomputable def r80_8 : List Oper := opsIn 8 f80
noncomputable def q80_28 : Q := .region 8 (fun _ => r80_8) [] false [0, 1, 2, 3, 4, 5, 6, 7, 8] []
noncomputable def r80_9 : List Oper := opsIn 9 f80
noncomputable def q80_31 : Q := .region 9 (fun _ => r80_9) [] false [0, 1] []
noncomputable def r80_10 : List Oper := opsIn 10 f80
noncomputable def q80_34 : Q := .region 10 (fun _ => r80_10) [] false [0, 1] []
noncomputable def q80_33 : Q := .seq (fun _ => q80_34) (fun _ => .ret)
noncomputable def q80_32 : Q := .cond (.tmp 42) (fun _ => q80_33) (fun _ => .skip)
noncomputable def q80_30 : Q := .seq (fun _ => q80_31) (fun _ => q80_32)
noncomputable def r80_11 : List Oper := opsIn 11 f80
noncomputable def q80_36 : Q := .region 11 (fun _ => r80_11) [] true [0, 1, 2, 3, 4, 5, 6, 7, 8] [(6, ⟨true, false, []⟩)]
noncomputable def r80_12 : List Oper := opsIn 12 f80
noncomputable def q80_38 : Q := .region 12 (fun _ => r80_12) [] false [0, 1] []
noncomputable def r80_13 : List Oper := opsIn 13 f80
noncomputable def q80_41 : Q := .region 13 (fun _ => r80_13) [] false [0, 1] []
noncomputable def q80_40 : Q := .seq (fun _ => q80_41) (fun _ => .ret)
noncomputable def q80_39 : Q := .cond (.tmp 52) (fun _ => q80_40) (fun _ => .skip)
noncomputable def q80_37 : Q := .seq (fun _ => q80_38) (fun _ => q80_39)
noncomputable def q80_35 : Q := .seq (fun _ => q80_36) (fun _ => q80_37)
noncomputable def q80_29 : Q := .seq (fun _ => q80_30) (fun _ => q80_35)
noncomputable def q80_27 : Q := .seq (fun _ => q80_28) (fun _ => q80_29)
noncomputable def q80_26 : Q := .cond (.tmp 34) (fun _ => q80_27) (fun _ => .skip)
noncomputable def q80_24 : Q := .seq (fun _ => q80_25) (fun _ => q80_26)
noncomputable def r80_14 : List Oper := opsIn 14 f80
noncomputable def q80_44 : Q := .region 14 (fun _ => r80_14) [] false [0, 1, 2, 3, 4, 5] [(5, ⟨false, true, []⟩)]
noncomputable def r80_15 : List Oper := opsIn 15 f80
noncomputable def q80_47 : Q := .region 15 (fun _ => r80_15) [] false [0] []
noncomputable def q80_46 : Q := .seq (fun _ => q80_47) (fun _ => .ret)
noncomputable def q80_45 : Q := .cond (.tmp 59) (fun _ => q80_46) (fun _ => .skip)
noncomputable def q80_43 : Q := .seq (fun _ => q80_44) (fun _ => q80_45)
noncomputable def r80_16 : List Oper := opsIn 16 f80
noncomputable def q80_48 : Q := .region 16 (fun _ => r80_16) [] false [0, 1] []
noncomputable def q80_42 : Q := .seq (fun _ => q80_43) (fun _ => q80_48)
noncomputable def q80_23 : Q := .seq (fun _ => q80_24) (fun _ => q80_42)
noncomputable def q80_21 : Q := .seq (fun _ => q80_22) (fun _ => q80_23)
noncomputable def q80_17 : Q := .seq (fun _ => q80_18) (fun _ => q80_21)
noncomputable def q80_15 : Q := .seq (fun _ => q80_16) (fun _ => q80_17)
noncomputable def q80_13 : Q := .seq (fun _ => q80_14) (fun _ => q80_15)
noncomputable def q80_12 : Q := .block 1 (fun _ => q80_13)
noncomputable def r80_17 : List Oper := opsIn 17 f80
noncomputable def q80_49 : Q := .region 17 (fun _ => r80_17) [] false [0, 1] []
noncomputable def q80_11 : Q := .seq (fun _ => q80_12) (fun _ => q80_49)
noncomputable def q80_9 : Q := .seq (fun _ => q80_10) (fun _ => q80_11)
noncomputable def q80_7 : Q := .seq (fun _ => q80_8) (fun _ => q80_9)
noncomputable def q80_6 : Q := .loop (fun _ => q80_7)
noncomputable def q80_5 : Q := .block 0 (fun _ => q80_6)
noncomputable def q80_3 : Q := .seq (fun _ => q80_4) (fun _ => q80_5)
noncomputable def r80_18 : List Oper := opsIn 18 f80
noncomputable def q80_51 : Q := .region 18 (fun _ => r80_18) [] false [0] []
noncomputable def q80_50 : Q := .seq (fun _ => q80_51) (fun _ => .ret)
noncomputable def q80_2 : Q := .seq (fun _ => q80_3) (fun _ => q80_50)
noncomputable def q80_0 : Q := .seq (fun _ => q80_1) (fun _ => q80_2)
noncomputable def q80 : Unit → Q := fun _ => q80_0
theorem ok80 : FnOk 80 q80 [.tmp 6] 62 := .of f80 func80 call80 (by kernel_rfl) (by kernel_rfl) (by kernel_rfl) (by kernel_rfl)

-- parcener/cake.Mark$1
noncomputable def r81_0 : List Oper := opsIn 0 f81
noncomputable def q81_1 : Q := .region 0 (fun _ => r81_0) [] false [0, 1, 2, 3] []
noncomputable def r81_1 : List Oper := opsIn 1 f81
noncomputable def q81_4 : Q := .region 1 (fun _ => r81_1) [] false [0, 1] []
noncomputable def r81_2 : List Oper := opsIn 2 f81
noncomputable def q81_7 : Q := .region 2 (fun _ => r81_2) [] false [0] []
noncomputable def q81_6 : Q := .seq (fun _ => q81_7) (fun _ => .ret)
noncomputable def q81_5 : Q := .cond (.tmp 17) (fun _ => q81_6) (fun _ => .skip)
noncomputable def q81_3 : Q := .seq (fun _ => q81_4) (fun _ => q81_5)
noncomputable def r81_3 : List Oper := opsIn 3 f81
noncomputable def q81_10 : Q := .region 3 (fun _ => r81_3) [] false [0, 1, 2] []
noncomputable def r81_4 : List Oper := opsIn 4 f81
noncomputable def q81_13 : Q := .region 4 (fun _ => r81_4) [] false [0, 1, 2, 3, 4, 5, 6, 7, 8] []
noncomputable def r81_5 : List Oper := opsIn 5 f81
noncomputable def q81_15 : Q := .region 5 (fun _ => r81_5) [] false [0, 1, 2] []
noncomputable def r81_6 : List Oper := opsIn 6 f81
noncomputable def q81_18 : Q := .region 6 (fun _ => r81_6) [] false [0, 1] []
noncomputable def r81_7 : List Oper := opsIn 7 f81
noncomputable def q81_20 : Q := .region 7 (fun _ => r81_7) [] false [0, 1] []
noncomputable def q81_19 : Q := .cond (.tmp 29) (fun _ => q81_20) (fun _ => .skip)
noncomputable def q81_17 : Q := .seq (fun _ => q81_18) (fun _ => q81_19)
noncomputable def r81_8 : List Oper := opsIn 8 f81
noncomputable def q81_22 : Q := .region 8 (fun _ => r81_8) [] false [0, 1, 2] []
noncomputable def q81_21 : Q := .seq (fun _ => q81_22) (fun _ => .ret)
noncomputable def q81_16 : Q := .seq (fun _ => q81_17) (fun _ => q81_21)
noncomputable def q81_14 : Q := .seq (fun _ => q81_15) (fun _ => q81_16)
noncomputable def q81_12 : Q := .seq (fun _ => q81_13) (fun _ => q81_14)
noncomputable def q81_11 : Q := .cond (.tmp 20) (fun _ => q81_12) (fun _ => .skip)
noncomputable def q81_9 : Q := .seq (fun _ => q81_10) (fun _ => q81_11)
noncomputable def r81_9 : List Oper := opsIn 9 f81
noncomputable def q81_24 : Q := .region 9 (fun _ => r81_9) [] true [0, 1, 2, 3, 4, 5, 6, 7, 8, 9] [(6, ⟨true, false, []⟩)]
noncomputable def r81_10 : List Oper := opsIn 10 f81
noncomputable def q81_27 : Q := .region 10 (fun _ => r81_10) [] false [0, 1] []
noncomputable def r81_11 : List Oper := opsIn 11 f81
noncomputable def q81_29 : Q := .region 11 (fun _ => r81_11) [] false [0, 1, 2, 3, 4, 5, 6, 7] []
noncomputable def q81_28 : Q := .cond (.tmp 41) (fun _ => q81_29) (fun _ => .skip)
noncomputable def q81_26 : Q := .seq (fun _ => q81_27) (fun _ => q81_28)
noncomputable def r81_12 : List Oper := opsIn 12 f81
noncomputable def q81_31 : Q := .region 12 (fun _ => r81_12) [] false [0, 1] []
noncomputable def r81_13 : List Oper := opsIn 13 f81
noncomputable def q81_33 : Q := .region 13 (fun _ => r81_13) [] false [0] []
noncomputable def q81_32 : Q := .seq (fun _ => q81_33) (fun _ => .ret)
noncomputable def q81_30 : Q := .seq (fun _ => q81_31) (fun _ => q81_32)
noncomputable def q81_25 : Q := .seq (fun _ => q81_26) (fun _ => q81_30)
noncomputable def q81_23 : Q := .seq (fun _ => q81_24) (fun _ => q81_25)
noncomputable def q81_8 : Q := .seq (fun _ => q81_9) (fun _ => q81_23)
noncomputable def q81_2 : Q := .seq (fun _ => q81_3) (fun _ => q81_8)
noncomputable def q81_0 : Q := .seq (fun _ => q81_1) (fun _ => q81_2)
noncomputable def q81 : Unit → Q := fun _ => q81_0
theorem ok81 : FnOk 81 q81 [.tmp 11] 49 := .of f81 func81 call81 (by kernel_rfl) (by kernel_rfl) (by kernel_rfl) (by kernel_rfl)

end Go.SX
