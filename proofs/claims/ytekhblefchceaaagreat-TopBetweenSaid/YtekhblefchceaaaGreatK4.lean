/- The abstract code of the functions that quartotop.TopBetween reaches besides, printed by a program (tools/gen.py). -/
import Derived.Test.YtekhblefchceaaaGreatMC
import Derived.Test.YtekhblefchceaaaGreatProg
set_option linter.unusedVariables false
set_option linter.unusedSimpArgs false
namespace Go.Proofs.YtekhblefchceaaaGreat.AM
open Go Go.Proofs
abbrev r6_0 : List AInstr :=
 [⟨(some 4), none, .mv (.c (.bool false))⟩]
abbrev r6_1 : List AInstr :=
 [⟨(some 17), none, .mv (.t 0)⟩, ⟨(some 18), none, .mv (.t 1)⟩, ⟨(some 19), none, .call 34 [(.t 17), (.t 18)]⟩, ⟨(some 20), none, .not (.t 19)⟩, ⟨(some 21), none, .mv (.t 20)⟩, ⟨(some 22), (some (21, false)), .mv (.t 1)⟩, ⟨(some 23), (some (21, false)), .len .l (.t 22)⟩, ⟨(some 24), (some (21, false)), .bin .gtr (.t 23) (.c (.int .i64 6))⟩, ⟨(some 25), none, .pick (.t 21) (.c (.bool true)) (.t 24)⟩]
abbrev r6_2 : List AInstr :=
 [⟨(some 4), none, .mv (.c (.bool true))⟩]
abbrev r6_3 : List AInstr :=
 [⟨(some 27), none, .call 35 [(.c (.int .i64 3000)), (.c (.int .u64 3))]⟩, ⟨(some 26), none, .mv (.t 27)⟩, ⟨(some 28), none, .ext (.t 26) 0⟩, ⟨(some 29), none, .ext (.t 26) 1⟩, ⟨(some 5), none, .mv (.t 28)⟩, ⟨(some 6), none, .mv (.t 29)⟩]
abbrev r6_4 : List AInstr :=
 [⟨(some 30), none, .mv (.t 5)⟩, ⟨(some 31), none, .eqv .ptr false (.t 30) (.c (.nilp))⟩, ⟨(some 32), none, .mv (.t 31)⟩, ⟨(some 33), (some (32, false)), .mv (.t 6)⟩, ⟨(some 34), (some (32, false)), .bin .neq (.t 33) (.c (.int .i64 0))⟩, ⟨(some 35), none, .pick (.t 32) (.c (.bool true)) (.t 34)⟩]
abbrev r6_5 : List AInstr :=
 [⟨(some 4), none, .mv (.c (.bool false))⟩]
abbrev r6_6 : List AInstr :=
 [⟨(some 37), none, .mv (.t 5)⟩, ⟨(some 38), none, .mv (.t 0)⟩, ⟨(some 39), none, .mv (.t 1)⟩, ⟨(some 40), none, .call 36 [(.t 37), (.t 38), (.t 39)]⟩, ⟨(some 36), none, .mv (.t 40)⟩, ⟨(some 41), none, .ext (.t 36) 0⟩, ⟨(some 42), none, .ext (.t 36) 1⟩, ⟨(some 7), none, .mv (.t 41)⟩, ⟨(some 8), none, .mv (.t 42)⟩]
abbrev r6_7 : List AInstr :=
 [⟨(some 43), none, .mv (.t 8)⟩, ⟨(some 44), none, .not (.t 43)⟩]
abbrev r6_8 : List AInstr :=
 [⟨(some 4), none, .mv (.c (.bool false))⟩]
abbrev r6_9 : List AInstr :=
 [⟨(some 9), none, .mv (.c (.int .i64 0))⟩]
abbrev r6_10 : List AInstr :=
 [⟨(some 45), none, .mv (.t 9)⟩, ⟨(some 46), none, .mv (.t 7)⟩, ⟨(some 47), none, .len .l (.t 46)⟩, ⟨(some 48), none, .bin .lss (.t 45) (.t 47)⟩]
abbrev r6_12 : List AInstr :=
 [⟨(some 10), none, .mv (.c (.int .i64 0))⟩]
abbrev r6_13 : List AInstr :=
 [⟨(some 51), none, .mv (.t 10)⟩, ⟨(some 52), none, .mv (.t 7)⟩, ⟨(some 53), none, .len .l (.t 52)⟩, ⟨(some 54), none, .bin .lss (.t 51) (.t 53)⟩]
abbrev r6_15 : List AInstr :=
 [⟨(some 58), none, .mv (.t 5)⟩, ⟨(some 59), none, .mv (.t 7)⟩, ⟨(some 60), none, .mv (.t 9)⟩, ⟨(some 61), none, .idxA 6 (.t 59) (.t 60)⟩, ⟨(some 62), none, .fld 0 (.t 61)⟩, ⟨(some 63), none, .load true 5 (.t 62)⟩, ⟨(some 64), none, .mv (.t 7)⟩, ⟨(some 65), none, .mv (.t 10)⟩, ⟨(some 66), none, .idxA 6 (.t 64) (.t 65)⟩, ⟨(some 67), none, .fld 0 (.t 66)⟩, ⟨(some 68), none, .load true 5 (.t 67)⟩, ⟨(some 69), none, .call 11 [(.t 58), (.t 63), (.t 68)]⟩, ⟨(some 57), none, .mv (.t 69)⟩, ⟨(some 70), none, .ext (.t 57) 0⟩, ⟨(some 71), none, .ext (.t 57) 1⟩, ⟨(some 11), none, .mv (.t 70)⟩, ⟨(some 12), none, .mv (.t 71)⟩]
abbrev r6_16 : List AInstr :=
 [⟨(some 73), none, .mv (.t 7)⟩, ⟨(some 74), none, .mv (.t 9)⟩, ⟨(some 75), none, .idxA 6 (.t 73) (.t 74)⟩, ⟨(some 76), none, .fld 5 (.t 75)⟩, ⟨(some 77), none, .load false 1 (.t 76)⟩, ⟨(some 78), none, .mv (.t 11)⟩, ⟨(some 79), none, .call 14 [(.t 77), (.t 78)]⟩, ⟨(some 72), none, .mv (.t 79)⟩, ⟨(some 80), none, .ext (.t 72) 0⟩, ⟨(some 81), none, .ext (.t 72) 1⟩, ⟨(some 13), none, .mv (.t 80)⟩, ⟨(some 14), none, .mv (.t 81)⟩]
abbrev r6_17 : List AInstr :=
 [⟨(some 82), none, .mv (.t 12)⟩, ⟨(some 83), none, .bin .neq (.t 82) (.c (.int .i64 0))⟩, ⟨(some 84), none, .mv (.t 83)⟩, ⟨(some 85), (some (84, false)), .mv (.t 14)⟩, ⟨(some 86), (some (84, false)), .bin .neq (.t 85) (.c (.int .i64 0))⟩, ⟨(some 87), none, .pick (.t 84) (.c (.bool true)) (.t 86)⟩, ⟨(some 88), none, .mv (.t 87)⟩, ⟨(some 89), (some (88, false)), .mv (.t 13)⟩, ⟨(some 90), (some (88, false)), .mv (.t 7)⟩, ⟨(some 91), (some (88, false)), .mv (.t 10)⟩, ⟨(some 92), (some (88, false)), .idxA 6 (.t 90) (.t 91)⟩, ⟨(some 93), (some (88, false)), .fld 5 (.t 92)⟩, ⟨(some 94), (some (88, false)), .load false 1 (.t 93)⟩, ⟨(some 95), (some (88, false)), .bin .neq (.t 89) (.t 94)⟩, ⟨(some 96), none, .pick (.t 88) (.c (.bool true)) (.t 95)⟩]
abbrev r6_18 : List AInstr :=
 [⟨(some 4), none, .mv (.c (.bool false))⟩]
abbrev r6_19 : List AInstr :=
 [⟨(some 98), none, .mv (.t 5)⟩, ⟨(some 99), none, .mv (.t 7)⟩, ⟨(some 100), none, .mv (.t 9)⟩, ⟨(some 101), none, .idxA 6 (.t 99) (.t 100)⟩, ⟨(some 102), none, .fld 0 (.t 101)⟩, ⟨(some 103), none, .load true 5 (.t 102)⟩, ⟨(some 104), none, .mv (.t 11)⟩, ⟨(some 105), none, .call 17 [(.t 98), (.t 103), (.t 104)]⟩, ⟨(some 97), none, .mv (.t 105)⟩, ⟨(some 106), none, .ext (.t 97) 0⟩, ⟨(some 107), none, .ext (.t 97) 1⟩, ⟨(some 15), none, .alloc [.int .u64 0, .int .i64 0, .int .i64 0, .int .i64 0, .int .i64 0, .vs [] .ex, .vs [] .ex]⟩, ⟨none, none, .store 7 (.t 15) (.t 106)⟩, ⟨(some 12), none, .mv (.t 107)⟩]
abbrev r6_20 : List AInstr :=
 [⟨(some 108), none, .mv (.t 12)⟩, ⟨(some 109), none, .bin .neq (.t 108) (.c (.int .i64 0))⟩]
abbrev r6_21 : List AInstr :=
 [⟨(some 4), none, .mv (.c (.bool false))⟩]
abbrev r6_22 : List AInstr :=
 [⟨(some 111), none, .mv (.t 5)⟩, ⟨(some 112), none, .fld 0 (.t 15)⟩, ⟨(some 113), none, .load true 5 (.t 112)⟩, ⟨(some 114), none, .mv (.t 7)⟩, ⟨(some 115), none, .mv (.t 10)⟩, ⟨(some 116), none, .idxA 6 (.t 114) (.t 115)⟩, ⟨(some 117), none, .fld 0 (.t 116)⟩, ⟨(some 118), none, .load true 5 (.t 117)⟩, ⟨(some 119), none, .call 37 [(.t 111), (.t 113), (.t 118)]⟩, ⟨(some 110), none, .mv (.t 119)⟩, ⟨(some 120), none, .ext (.t 110) 0⟩, ⟨(some 121), none, .ext (.t 110) 1⟩, ⟨(some 16), none, .mv (.t 120)⟩, ⟨(some 12), none, .mv (.t 121)⟩]
abbrev r6_23 : List AInstr :=
 [⟨(some 122), none, .mv (.t 12)⟩, ⟨(some 123), none, .bin .neq (.t 122) (.c (.int .i64 0))⟩, ⟨(some 124), none, .mv (.t 123)⟩, ⟨(some 125), (some (124, false)), .mv (.t 16)⟩, ⟨(some 126), (some (124, false)), .bin .neq (.t 125) (.c (.int .i64 0))⟩, ⟨(some 127), none, .pick (.t 124) (.c (.bool true)) (.t 126)⟩, ⟨(some 128), none, .mv (.t 127)⟩, ⟨(some 129), (some (128, false)), .mv (.t 5)⟩, ⟨(some 130), (some (128, false)), .load true 7 (.t 15)⟩, ⟨(some 131), (some (128, false)), .call 38 [(.t 129), (.t 130)]⟩, ⟨(some 132), (some (128, false)), .bin .neq (.t 131) (.c (.int .i64 0))⟩, ⟨(some 133), none, .pick (.t 128) (.c (.bool true)) (.t 132)⟩]
abbrev r6_24 : List AInstr :=
 [⟨(some 4), none, .mv (.c (.bool false))⟩]
abbrev r6_14 : List AInstr :=
 [⟨(some 55), none, .mv (.t 10)⟩, ⟨(some 56), none, .bin .add (.t 55) (.c (.int .i64 1))⟩, ⟨(some 10), none, .mv (.t 56)⟩]
abbrev l6_24 : ACode :=
 .seq (.seq (.rg r6_13) (.cond (.t 54) (.skip) (.exit 2))) (.seq (.block 3 (.seq (.rg r6_15) (.seq (.rg r6_16) (.seq (.seq (.rg r6_17) (.cond (.t 96) (.seq (.rg r6_18) (.ret)) (.skip))) (.seq (.rg r6_19) (.seq (.seq (.rg r6_20) (.cond (.t 109) (.seq (.rg r6_21) (.ret)) (.skip))) (.seq (.rg r6_22) (.seq (.rg r6_23) (.cond (.t 133) (.seq (.rg r6_24) (.ret)) (.skip)))))))))) (.rg r6_14))
abbrev r6_11 : List AInstr :=
 [⟨(some 49), none, .mv (.t 9)⟩, ⟨(some 50), none, .bin .add (.t 49) (.c (.int .i64 1))⟩, ⟨(some 9), none, .mv (.t 50)⟩]
abbrev l6_26 : ACode :=
 .seq (.seq (.rg r6_10) (.cond (.t 48) (.skip) (.exit 0))) (.seq (.block 1 (.seq (.rg r6_12) (.block 2 (.loop l6_24)))) (.rg r6_11))
abbrev r6_25 : List AInstr :=
 [⟨(some 4), none, .mv (.c (.bool true))⟩]
abbrev c6 : ACode :=
 .seq (.rg r6_0) (.seq (.seq (.rg r6_1) (.cond (.t 25) (.seq (.rg r6_2) (.ret)) (.skip))) (.seq (.rg r6_3) (.seq (.seq (.rg r6_4) (.cond (.t 35) (.seq (.rg r6_5) (.ret)) (.skip))) (.seq (.rg r6_6) (.seq (.seq (.rg r6_7) (.cond (.t 44) (.seq (.rg r6_8) (.ret)) (.skip))) (.seq (.seq (.rg r6_9) (.block 0 (.loop l6_26))) (.seq (.rg r6_25) (.ret))))))))
abbrev a6 : AFunc := { np := 2, nt := 134, res := [.tmp 4], body := c6 }
abbrev r34_0 : List AInstr :=
 [⟨(some 4), none, .mv (.c (.bool false))⟩]
abbrev r34_1 : List AInstr :=
 [⟨(some 6), none, .mv (.t 0)⟩, ⟨(some 7), none, .len .s (.t 6)⟩, ⟨(some 8), none, .bin .gtr (.t 7) (.c (.int .i64 80))⟩, ⟨(some 9), none, .mv (.t 8)⟩, ⟨(some 10), (some (9, false)), .mv (.t 1)⟩, ⟨(some 11), (some (9, false)), .len .l (.t 10)⟩, ⟨(some 12), (some (9, false)), .bin .gtr (.t 11) (.c (.int .i64 10))⟩, ⟨(some 13), none, .pick (.t 9) (.c (.bool true)) (.t 12)⟩]
abbrev r34_2 : List AInstr :=
 [⟨(some 4), none, .mv (.c (.bool false))⟩]
abbrev r34_3 : List AInstr :=
 [⟨(some 5), none, .mv (.c (.int .i64 0))⟩]
abbrev r34_4 : List AInstr :=
 [⟨(some 14), none, .mv (.t 5)⟩, ⟨(some 15), none, .mv (.t 1)⟩, ⟨(some 16), none, .len .l (.t 15)⟩, ⟨(some 17), none, .bin .lss (.t 14) (.t 16)⟩]
abbrev r34_6 : List AInstr :=
 [⟨(some 20), none, .mv (.t 1)⟩, ⟨(some 21), none, .mv (.t 5)⟩, ⟨(some 22), none, .idxA 4 (.t 20) (.t 21)⟩, ⟨(some 23), none, .fld 3 (.t 22)⟩, ⟨(some 24), none, .load false 1 (.t 23)⟩, ⟨(some 25), none, .len .s (.t 24)⟩, ⟨(some 26), none, .bin .gtr (.t 25) (.c (.int .i64 40))⟩]
abbrev r34_7 : List AInstr :=
 [⟨(some 4), none, .mv (.c (.bool false))⟩]
abbrev r34_5 : List AInstr :=
 [⟨(some 18), none, .mv (.t 5)⟩, ⟨(some 19), none, .bin .add (.t 18) (.c (.int .i64 1))⟩, ⟨(some 5), none, .mv (.t 19)⟩]
abbrev l34_8 : ACode :=
 .seq (.seq (.rg r34_4) (.cond (.t 17) (.skip) (.exit 0))) (.seq (.block 1 (.seq (.rg r34_6) (.cond (.t 26) (.seq (.rg r34_7) (.ret)) (.skip)))) (.rg r34_5))
abbrev r34_8 : List AInstr :=
 [⟨(some 4), none, .mv (.c (.bool true))⟩]
abbrev c34 : ACode :=
 .seq (.rg r34_0) (.seq (.seq (.rg r34_1) (.cond (.t 13) (.seq (.rg r34_2) (.ret)) (.skip))) (.seq (.seq (.rg r34_3) (.block 0 (.loop l34_8))) (.seq (.rg r34_8) (.ret))))
abbrev a34 : AFunc := { np := 2, nt := 27, res := [.tmp 4], body := c34 }
abbrev r36_0 : List AInstr :=
 [⟨(some 6), none, .mv (.c (.vs [] .ex))⟩, ⟨(some 7), none, .mv (.c (.bool false))⟩]
abbrev r36_1 : List AInstr :=
 [⟨(some 24), none, .mv (.t 0)⟩, ⟨(some 25), none, .mv (.t 1)⟩, ⟨(some 26), none, .call 57 [(.t 24), (.t 25)]⟩, ⟨(some 23), none, .mv (.t 26)⟩, ⟨(some 27), none, .ext (.t 23) 0⟩, ⟨(some 28), none, .ext (.t 23) 1⟩, ⟨(some 8), none, .alloc [.int .u64 0, .int .i64 0, .int .i64 0, .int .i64 0, .int .i64 0]⟩, ⟨none, none, .store 5 (.t 8) (.t 27)⟩, ⟨(some 9), none, .mv (.t 28)⟩]
abbrev r36_2 : List AInstr :=
 [⟨(some 29), none, .mv (.t 9)⟩, ⟨(some 30), none, .bin .neq (.t 29) (.c (.int .i64 0))⟩]
abbrev r36_3 : List AInstr :=
 [⟨(some 6), none, .mv (.c (.vs [] .ex))⟩, ⟨(some 7), none, .mv (.c (.bool false))⟩]
abbrev r36_4 : List AInstr :=
 [⟨(some 31), none, .load true 5 (.t 8)⟩, ⟨(some 32), none, .mv (.t 1)⟩, ⟨(some 33), none, .build [.int .u64 0, .int .i64 0, .int .i64 0, .int .i64 0, .int .i64 0, .str []] [(0, 5, (.t 31)), (5, 1, (.t 32))]⟩, ⟨(some 34), none, .lit 6 [(.t 33)]⟩, ⟨(some 10), none, .mv (.t 34)⟩]
abbrev r36_5 : List AInstr :=
 [⟨(some 11), none, .mv (.c (.int .i64 0))⟩]
abbrev r36_6 : List AInstr :=
 [⟨(some 35), none, .mv (.t 11)⟩, ⟨(some 36), none, .mv (.t 2)⟩, ⟨(some 37), none, .len .l (.t 36)⟩, ⟨(some 38), none, .bin .lss (.t 35) (.t 37)⟩]
abbrev r36_8 : List AInstr :=
 [⟨(some 41), none, .mv (.t 10)⟩, ⟨(some 42), none, .mv (.t 2)⟩, ⟨(some 43), none, .mv (.t 11)⟩, ⟨(some 44), none, .idxA 4 (.t 42) (.t 43)⟩, ⟨(some 45), none, .fld 0 (.t 44)⟩, ⟨(some 46), none, .load false 1 (.t 45)⟩, ⟨(some 47), none, .mv (.t 10)⟩, ⟨(some 48), none, .len .l (.t 47)⟩, ⟨(some 49), none, .call 82 [(.t 46), (.t 48)]⟩, ⟨(some 50), none, .idxA 6 (.t 41) (.t 49)⟩, ⟨(some 51), none, .load true 6 (.t 50)⟩, ⟨(some 12), none, .alloc [.int .u64 0, .int .i64 0, .int .i64 0, .int .i64 0, .int .i64 0, .str []]⟩, ⟨none, none, .store 6 (.t 12) (.t 51)⟩]
abbrev r36_9 : List AInstr :=
 [⟨(some 52), none, .mv (.t 2)⟩, ⟨(some 53), none, .mv (.t 11)⟩, ⟨(some 54), none, .idxA 4 (.t 52) (.t 53)⟩, ⟨(some 55), none, .fld 1 (.t 54)⟩, ⟨(some 56), none, .load false 1 (.t 55)⟩, ⟨(some 57), none, .fld 5 (.t 12)⟩, ⟨(some 58), none, .load false 1 (.t 57)⟩, ⟨(some 59), none, .len .s (.t 58)⟩, ⟨(some 60), none, .bin .add (.t 59) (.c (.int .i64 1))⟩, ⟨(some 61), none, .call 82 [(.t 56), (.t 60)]⟩, ⟨(some 13), none, .mv (.t 61)⟩]
abbrev r36_10 : List AInstr :=
 [⟨(some 62), none, .mv (.t 2)⟩, ⟨(some 63), none, .mv (.t 11)⟩, ⟨(some 64), none, .idxA 4 (.t 62) (.t 63)⟩, ⟨(some 65), none, .fld 2 (.t 64)⟩, ⟨(some 66), none, .load false 1 (.t 65)⟩, ⟨(some 67), none, .fld 5 (.t 12)⟩, ⟨(some 68), none, .load false 1 (.t 67)⟩, ⟨(some 69), none, .len .s (.t 68)⟩, ⟨(some 70), none, .mv (.t 13)⟩, ⟨(some 71), none, .bin .sub (.t 69) (.t 70)⟩, ⟨(some 72), none, .bin .add (.t 71) (.c (.int .i64 1))⟩, ⟨(some 73), none, .call 82 [(.t 66), (.t 72)]⟩, ⟨(some 14), none, .mv (.t 73)⟩]
abbrev r36_11 : List AInstr :=
 [⟨(some 74), none, .mv (.t 0)⟩, ⟨(some 75), none, .call 83 [(.t 74)]⟩, ⟨(some 76), none, .field false 2 1 (.t 75)⟩, ⟨(some 15), none, .mv (.t 76)⟩]
abbrev r36_12 : List AInstr :=
 [⟨(some 78), none, .mv (.t 0)⟩, ⟨(some 79), none, .fld 0 (.t 12)⟩, ⟨(some 80), none, .load true 5 (.t 79)⟩, ⟨(some 81), none, .mv (.t 13)⟩, ⟨(some 82), none, .mv (.t 14)⟩, ⟨(some 83), none, .mv (.t 2)⟩, ⟨(some 84), none, .mv (.t 11)⟩, ⟨(some 85), none, .idxA 4 (.t 83) (.t 84)⟩, ⟨(some 86), none, .fld 3 (.t 85)⟩, ⟨(some 87), none, .load false 1 (.t 86)⟩, ⟨(some 88), none, .call 84 [(.t 78), (.t 80), (.t 81), (.t 82), (.t 87)]⟩, ⟨(some 77), none, .mv (.t 88)⟩, ⟨(some 89), none, .ext (.t 77) 0⟩, ⟨(some 90), none, .ext (.t 77) 1⟩, ⟨(some 16), none, .alloc [.int .u64 0, .int .i64 0, .int .i64 0, .int .i64 0, .int .i64 0, .vs [] .ex, .vs [] .ex]⟩, ⟨none, none, .store 7 (.t 16) (.t 89)⟩, ⟨(some 17), none, .mv (.t 90)⟩]
abbrev r36_13 : List AInstr :=
 [⟨(some 91), none, .mv (.t 17)⟩, ⟨(some 92), none, .bin .neq (.t 91) (.c (.int .i64 0))⟩]
abbrev r36_14 : List AInstr :=
 [⟨(some 6), none, .mv (.c (.vs [] .ex))⟩, ⟨(some 7), none, .mv (.c (.bool false))⟩]
abbrev r36_15 : List AInstr :=
 [⟨(some 93), none, .mv (.t 0)⟩, ⟨(some 94), none, .call 83 [(.t 93)]⟩, ⟨(some 95), none, .field false 2 1 (.t 94)⟩, ⟨(some 96), none, .mv (.t 15)⟩, ⟨(some 97), none, .fld 5 (.t 16)⟩, ⟨(some 98), none, .load false 1 (.t 97)⟩, ⟨(some 99), none, .len .l (.t 98)⟩, ⟨(some 100), none, .bin .add (.t 96) (.t 99)⟩, ⟨(some 101), none, .bin .neq (.t 95) (.t 100)⟩]
abbrev r36_16 : List AInstr :=
 [⟨(some 6), none, .mv (.c (.vs [] .ex))⟩, ⟨(some 7), none, .mv (.c (.bool false))⟩]
abbrev r36_17 : List AInstr :=
 [⟨(some 103), none, .mv (.t 0)⟩, ⟨(some 104), none, .fld 0 (.t 12)⟩, ⟨(some 105), none, .load true 5 (.t 104)⟩, ⟨(some 106), none, .call 85 [(.t 103), (.t 105)]⟩, ⟨(some 102), none, .mv (.t 106)⟩, ⟨(some 107), none, .ext (.t 102) 0⟩, ⟨(some 108), none, .ext (.t 102) 1⟩, ⟨(some 18), none, .mv (.t 107)⟩, ⟨(some 17), none, .mv (.t 108)⟩]
abbrev r36_18 : List AInstr :=
 [⟨(some 110), none, .mv (.t 0)⟩, ⟨(some 111), none, .fld 0 (.t 16)⟩, ⟨(some 112), none, .load true 5 (.t 111)⟩, ⟨(some 113), none, .call 85 [(.t 110), (.t 112)]⟩, ⟨(some 109), none, .mv (.t 113)⟩, ⟨(some 114), none, .ext (.t 109) 0⟩, ⟨(some 115), none, .ext (.t 109) 1⟩, ⟨(some 19), none, .mv (.t 114)⟩, ⟨(some 20), none, .mv (.t 115)⟩]
abbrev r36_19 : List AInstr :=
 [⟨(some 116), none, .mv (.t 17)⟩, ⟨(some 117), none, .bin .neq (.t 116) (.c (.int .i64 0))⟩, ⟨(some 118), none, .mv (.t 117)⟩, ⟨(some 119), (some (118, false)), .mv (.t 20)⟩, ⟨(some 120), (some (118, false)), .bin .neq (.t 119) (.c (.int .i64 0))⟩, ⟨(some 121), none, .pick (.t 118) (.c (.bool true)) (.t 120)⟩]
abbrev r36_20 : List AInstr :=
 [⟨(some 6), none, .mv (.c (.vs [] .ex))⟩, ⟨(some 7), none, .mv (.c (.bool false))⟩]
abbrev r36_21 : List AInstr :=
 [⟨(some 21), none, .mv (.c (.int .i64 0))⟩]
abbrev r36_22 : List AInstr :=
 [⟨(some 122), none, .mv (.t 21)⟩, ⟨(some 123), none, .mv (.t 18)⟩, ⟨(some 124), none, .len .l (.t 123)⟩, ⟨(some 125), none, .bin .lss (.t 122) (.t 124)⟩]
abbrev r36_24 : List AInstr :=
 [⟨(some 128), none, .mv (.t 19)⟩, ⟨(some 129), none, .mv (.t 18)⟩, ⟨(some 130), none, .mv (.t 21)⟩, ⟨(some 131), none, .idxA 1 (.t 129) (.t 130)⟩, ⟨(some 132), none, .load false 1 (.t 131)⟩, ⟨(some 133), none, .call 86 [(.t 128), (.t 132)]⟩, ⟨(some 134), none, .fld 6 (.t 16)⟩, ⟨(some 135), none, .load false 1 (.t 134)⟩, ⟨(some 136), none, .mv (.t 18)⟩, ⟨(some 137), none, .mv (.t 21)⟩, ⟨(some 138), none, .idxA 1 (.t 136) (.t 137)⟩, ⟨(some 139), none, .load false 1 (.t 138)⟩, ⟨(some 140), none, .call 86 [(.t 135), (.t 139)]⟩, ⟨(some 141), none, .eqv .bool false (.t 133) (.t 140)⟩, ⟨(some 142), none, .mv (.t 141)⟩, ⟨(some 143), (some (142, false)), .fld 5 (.t 16)⟩, ⟨(some 144), (some (142, false)), .load false 1 (.t 143)⟩, ⟨(some 145), (some (142, false)), .mv (.t 18)⟩, ⟨(some 146), (some (142, false)), .mv (.t 21)⟩, ⟨(some 147), (some (142, false)), .idxA 1 (.t 145) (.t 146)⟩, ⟨(some 148), (some (142, false)), .load false 1 (.t 147)⟩, ⟨(some 149), (some (142, false)), .call 86 [(.t 144), (.t 148)]⟩, ⟨(some 150), none, .pick (.t 142) (.c (.bool true)) (.t 149)⟩]
abbrev r36_25 : List AInstr :=
 [⟨(some 6), none, .mv (.c (.vs [] .ex))⟩, ⟨(some 7), none, .mv (.c (.bool false))⟩]
abbrev r36_23 : List AInstr :=
 [⟨(some 126), none, .mv (.t 21)⟩, ⟨(some 127), none, .bin .add (.t 126) (.c (.int .i64 1))⟩, ⟨(some 21), none, .mv (.t 127)⟩]
abbrev l36_25 : ACode :=
 .seq (.seq (.rg r36_22) (.cond (.t 125) (.skip) (.exit 2))) (.seq (.block 3 (.seq (.qrg r36_24 [[], [], [], [1, 2], [3], [0, 4], [], [6], [], [], [8, 9], [10], [7, 11, 5], [5, 12], [13, 12], [14], [15, 14], [14], [14], [17, 18, 14], [19, 14], [16, 20, 14, 14], [14, 21]]) (.cond (.t 150) (.seq (.rg r36_25) (.ret)) (.skip)))) (.rg r36_23))
abbrev r36_26 : List AInstr :=
 [⟨(some 22), none, .mv (.c (.int .i64 0))⟩]
abbrev r36_27 : List AInstr :=
 [⟨(some 151), none, .mv (.t 22)⟩, ⟨(some 152), none, .mv (.t 19)⟩, ⟨(some 153), none, .len .l (.t 152)⟩, ⟨(some 154), none, .bin .lss (.t 151) (.t 153)⟩]
abbrev r36_29 : List AInstr :=
 [⟨(some 157), none, .mv (.t 18)⟩, ⟨(some 158), none, .mv (.t 19)⟩, ⟨(some 159), none, .mv (.t 22)⟩, ⟨(some 160), none, .idxA 1 (.t 158) (.t 159)⟩, ⟨(some 161), none, .load false 1 (.t 160)⟩, ⟨(some 162), none, .call 86 [(.t 157), (.t 161)]⟩, ⟨(some 163), none, .fld 5 (.t 16)⟩, ⟨(some 164), none, .load false 1 (.t 163)⟩, ⟨(some 165), none, .mv (.t 19)⟩, ⟨(some 166), none, .mv (.t 22)⟩, ⟨(some 167), none, .idxA 1 (.t 165) (.t 166)⟩, ⟨(some 168), none, .load false 1 (.t 167)⟩, ⟨(some 169), none, .call 86 [(.t 164), (.t 168)]⟩, ⟨(some 170), none, .eqv .bool false (.t 162) (.t 169)⟩]
abbrev r36_30 : List AInstr :=
 [⟨(some 6), none, .mv (.c (.vs [] .ex))⟩, ⟨(some 7), none, .mv (.c (.bool false))⟩]
abbrev r36_28 : List AInstr :=
 [⟨(some 155), none, .mv (.t 22)⟩, ⟨(some 156), none, .bin .add (.t 155) (.c (.int .i64 1))⟩, ⟨(some 22), none, .mv (.t 156)⟩]
abbrev l36_31 : ACode :=
 .seq (.seq (.rg r36_27) (.cond (.t 154) (.skip) (.exit 4))) (.seq (.block 5 (.seq (.qrg r36_29 [[], [], [], [1, 2], [3], [0, 4], [], [6], [], [], [8, 9], [10], [7, 11, 5], [5, 12]]) (.cond (.t 170) (.seq (.rg r36_30) (.ret)) (.skip)))) (.rg r36_28))
abbrev r36_31 : List AInstr :=
 [⟨(some 171), none, .mv (.t 10)⟩, ⟨(some 172), none, .fld 0 (.t 16)⟩, ⟨(some 173), none, .load true 5 (.t 172)⟩, ⟨(some 174), none, .fld 5 (.t 12)⟩, ⟨(some 175), none, .load false 1 (.t 174)⟩, ⟨(some 176), none, .mv (.t 13)⟩, ⟨(some 177), none, .sslice (.t 175) none (some (.t 176))⟩, ⟨(some 178), none, .mv (.t 2)⟩, ⟨(some 179), none, .mv (.t 11)⟩, ⟨(some 180), none, .idxA 4 (.t 178) (.t 179)⟩, ⟨(some 181), none, .fld 3 (.t 180)⟩, ⟨(some 182), none, .load false 1 (.t 181)⟩, ⟨(some 183), none, .bin .add (.t 177) (.t 182)⟩, ⟨(some 184), none, .fld 5 (.t 12)⟩, ⟨(some 185), none, .load false 1 (.t 184)⟩, ⟨(some 186), none, .mv (.t 13)⟩, ⟨(some 187), none, .mv (.t 14)⟩, ⟨(some 188), none, .bin .add (.t 186) (.t 187)⟩, ⟨(some 189), none, .sslice (.t 185) (some (.t 188)) none⟩, ⟨(some 190), none, .bin .add (.t 183) (.t 189)⟩, ⟨(some 191), none, .build [.int .u64 0, .int .i64 0, .int .i64 0, .int .i64 0, .int .i64 0, .str []] [(0, 5, (.t 173)), (5, 1, (.t 190))]⟩, ⟨(some 192), none, .lit 6 [(.t 191)]⟩, ⟨(some 193), none, .app true 6 56 (.t 171) (.t 192)⟩, ⟨(some 10), none, .mv (.t 193)⟩]
abbrev r36_7 : List AInstr :=
 [⟨(some 39), none, .mv (.t 11)⟩, ⟨(some 40), none, .bin .add (.t 39) (.c (.int .i64 1))⟩, ⟨(some 11), none, .mv (.t 40)⟩]
abbrev l36_34 : ACode :=
 .seq (.seq (.rg r36_6) (.cond (.t 38) (.skip) (.exit 0))) (.seq (.block 1 (.seq (.rg r36_8) (.seq (.rg r36_9) (.seq (.rg r36_10) (.seq (.rg r36_11) (.seq (.qrg r36_12 [[], [], [1], [], [], [], [], [5, 6], [7], [8], [0, 2, 3, 4, 9], [10], [11], [11], [], [14, 12, 10, 0, 1, 2, 3, 4, 5, 6, 7, 8, 9, 10, 11, 12, 14], [13, 15, 0, 1, 2, 3, 4, 5, 6, 7, 8, 9, 10, 11, 12, 13, 14, 15]]) (.seq (.seq (.rg r36_13) (.cond (.t 92) (.seq (.rg r36_14) (.ret)) (.skip))) (.seq (.seq (.qrg r36_15 [[], [0], [1], [], [], [4], [5], [3, 6], [2, 7]]) (.cond (.t 101) (.seq (.rg r36_16) (.ret)) (.skip))) (.seq (.rg r36_17) (.seq (.rg r36_18) (.seq (.seq (.rg r36_19) (.cond (.t 121) (.seq (.rg r36_20) (.ret)) (.skip))) (.seq (.seq (.rg r36_21) (.block 2 (.loop l36_25))) (.seq (.seq (.rg r36_26) (.block 4 (.loop l36_31))) (.rg r36_31)))))))))))))) (.rg r36_7))
abbrev r36_32 : List AInstr :=
 [⟨(some 194), none, .mv (.t 10)⟩, ⟨(some 6), none, .mv (.t 194)⟩, ⟨(some 7), none, .mv (.c (.bool true))⟩]
abbrev c36 : ACode :=
 .seq (.rg r36_0) (.seq (.rg r36_1) (.seq (.seq (.rg r36_2) (.cond (.t 30) (.seq (.rg r36_3) (.ret)) (.skip))) (.seq (.rg r36_4) (.seq (.seq (.rg r36_5) (.block 0 (.loop l36_34))) (.seq (.rg r36_32) (.ret))))))
abbrev a36 : AFunc := { np := 3, nt := 195, res := [.tmp 6, .tmp 7], body := c36 }
abbrev r37_0 : List AInstr :=
 [⟨(some 4), none, .box 5 (.t 1)⟩, ⟨(some 5), none, .box 5 (.t 2)⟩, ⟨(some 6), none, .mv (.c (.int .i64 0))⟩, ⟨(some 7), none, .mv (.c (.int .i64 0))⟩]
abbrev r37_1 : List AInstr :=
 [⟨(some 15), none, .load true 5 (.t 4)⟩, ⟨(some 16), none, .load true 5 (.t 5)⟩, ⟨(some 17), none, .lit 5 [(.t 15), (.t 16)]⟩, ⟨(some 18), none, .len .l (.t 17)⟩, ⟨(some 19), none, .mv (.c (.int .i64 0))⟩]
abbrev r37_2 : List AInstr :=
 [⟨(some 20), none, .bin .lss (.t 19) (.t 18)⟩]
abbrev r37_3 : List AInstr :=
 [⟨(some 21), none, .idxA 5 (.t 17) (.t 19)⟩, ⟨(some 22), none, .load true 5 (.t 21)⟩, ⟨(some 9), none, .alloc [.int .u64 0, .int .i64 0, .int .i64 0, .int .i64 0, .int .i64 0]⟩, ⟨none, none, .store 5 (.t 9) (.t 22)⟩]
abbrev r37_4 : List AInstr :=
 [⟨(some 24), none, .mv (.t 0)⟩, ⟨(some 25), none, .load true 5 (.t 9)⟩, ⟨(some 26), none, .call 53 [(.t 24), (.t 25)]⟩, ⟨(some 23), none, .mv (.t 26)⟩, ⟨(some 27), none, .ext (.t 23) 0⟩, ⟨(some 28), none, .ext (.t 23) 1⟩, ⟨(some 10), none, .alloc [.int .u64 0, .int .i64 0, .int .i64 0, .int .i64 0, .int .i64 0, .str [], .vs [] .ex]⟩, ⟨none, none, .store 7 (.t 10) (.t 27)⟩, ⟨(some 11), none, .mv (.t 28)⟩]
abbrev r37_5 : List AInstr :=
 [⟨(some 29), none, .mv (.t 11)⟩, ⟨(some 30), none, .bin .neq (.t 29) (.c (.int .i64 0))⟩]
abbrev r37_6 : List AInstr :=
 [⟨(some 31), none, .mv (.t 11)⟩, ⟨(some 6), none, .mv (.c (.int .i64 0))⟩, ⟨(some 7), none, .mv (.t 31)⟩]
abbrev r37_7 : List AInstr :=
 [⟨(some 32), none, .bin .add (.t 19) (.c (.int .i64 1))⟩, ⟨(some 19), none, .mv (.t 32)⟩]
abbrev l37_8 : ACode :=
 .seq (.rg r37_2) (.seq (.cond (.t 20) (.skip) (.exit 0)) (.seq (.block 1 (.seq (.rg r37_3) (.seq (.rg r37_4) (.seq (.rg r37_5) (.cond (.t 30) (.seq (.rg r37_6) (.ret)) (.skip)))))) (.rg r37_7)))
abbrev r37_8 : List AInstr :=
 [⟨(some 34), none, .mv (.t 0)⟩, ⟨(some 35), none, .load true 5 (.t 4)⟩, ⟨(some 36), none, .fld 2 (.t 4)⟩, ⟨(some 37), none, .fld 0 (.t 36)⟩, ⟨(some 38), none, .load false 1 (.t 37)⟩, ⟨(some 39), none, .call 87 [(.t 34), (.t 35), (.c (.int .i64 0)), (.t 38)]⟩, ⟨(some 33), none, .mv (.t 39)⟩, ⟨(some 40), none, .ext (.t 33) 0⟩, ⟨(some 41), none, .ext (.t 33) 1⟩, ⟨(some 12), none, .mv (.t 40)⟩, ⟨(some 13), none, .mv (.t 41)⟩]
abbrev r37_9 : List AInstr :=
 [⟨(some 42), none, .mv (.t 13)⟩, ⟨(some 43), none, .bin .neq (.t 42) (.c (.int .i64 0))⟩]
abbrev r37_10 : List AInstr :=
 [⟨(some 44), none, .mv (.t 13)⟩, ⟨(some 6), none, .mv (.c (.int .i64 0))⟩, ⟨(some 7), none, .mv (.t 44)⟩]
abbrev r37_11 : List AInstr :=
 [⟨(some 46), none, .mv (.t 0)⟩, ⟨(some 47), none, .load true 5 (.t 5)⟩, ⟨(some 48), none, .fld 2 (.t 5)⟩, ⟨(some 49), none, .fld 0 (.t 48)⟩, ⟨(some 50), none, .load false 1 (.t 49)⟩, ⟨(some 51), none, .call 87 [(.t 46), (.t 47), (.c (.int .i64 0)), (.t 50)]⟩, ⟨(some 45), none, .mv (.t 51)⟩, ⟨(some 52), none, .ext (.t 45) 0⟩, ⟨(some 53), none, .ext (.t 45) 1⟩, ⟨(some 14), none, .mv (.t 52)⟩, ⟨(some 13), none, .mv (.t 53)⟩]
abbrev r37_12 : List AInstr :=
 [⟨(some 54), none, .mv (.t 13)⟩, ⟨(some 55), none, .bin .neq (.t 54) (.c (.int .i64 0))⟩]
abbrev r37_13 : List AInstr :=
 [⟨(some 56), none, .mv (.t 13)⟩, ⟨(some 6), none, .mv (.c (.int .i64 0))⟩, ⟨(some 7), none, .mv (.t 56)⟩]
abbrev r37_14 : List AInstr :=
 [⟨(some 57), none, .mv (.t 12)⟩, ⟨(some 58), none, .mv (.t 14)⟩, ⟨(some 59), none, .call 88 [(.t 57), (.t 58)]⟩, ⟨(some 6), none, .mv (.t 59)⟩, ⟨(some 7), none, .mv (.c (.int .i64 0))⟩]
abbrev c37 : ACode :=
 .seq (.rg r37_0) (.seq (.seq (.rg r37_1) (.block 0 (.loop l37_8))) (.seq (.rg r37_8) (.seq (.seq (.rg r37_9) (.cond (.t 43) (.seq (.rg r37_10) (.ret)) (.skip))) (.seq (.rg r37_11) (.seq (.seq (.rg r37_12) (.cond (.t 55) (.seq (.rg r37_13) (.ret)) (.skip))) (.seq (.rg r37_14) (.ret)))))))
abbrev a37 : AFunc := { np := 3, nt := 60, res := [.tmp 6, .tmp 7], body := c37 }
abbrev r38_0 : List AInstr :=
 [⟨(some 3), none, .box 7 (.t 1)⟩, ⟨(some 4), none, .mv (.c (.int .i64 0))⟩]
abbrev r38_1 : List AInstr :=
 [⟨(some 12), none, .mv (.t 0)⟩, ⟨(some 13), none, .eqv .ptr false (.t 12) (.c (.nilp))⟩]
abbrev r38_2 : List AInstr :=
 [⟨(some 4), none, .mv (.c (.int .i64 1))⟩]
abbrev r38_3 : List AInstr :=
 [⟨(some 14), none, .mkmap⟩, ⟨(some 5), none, .mv (.t 14)⟩]
abbrev r38_4 : List AInstr :=
 [⟨(some 15), none, .fld 5 (.t 3)⟩, ⟨(some 16), none, .load false 1 (.t 15)⟩, ⟨(some 17), none, .len .l (.t 16)⟩, ⟨(some 18), none, .mv (.c (.int .i64 0))⟩]
abbrev r38_5 : List AInstr :=
 [⟨(some 19), none, .bin .lss (.t 18) (.t 17)⟩]
abbrev r38_6 : List AInstr :=
 [⟨(some 20), none, .idxA 1 (.t 16) (.t 18)⟩, ⟨(some 21), none, .load false 1 (.t 20)⟩, ⟨(some 7), none, .mv (.t 21)⟩]
abbrev r38_7 : List AInstr :=
 [⟨(some 22), none, .mv (.t 5)⟩, ⟨(some 23), none, .mv (.t 7)⟩, ⟨(some 24), none, .lookup .i (.bool false) (.t 22) (.t 23) false⟩]
abbrev r38_8 : List AInstr :=
 [⟨(some 4), none, .mv (.c (.int .i64 9))⟩]
abbrev r38_9 : List AInstr :=
 [⟨(some 25), none, .mv (.t 5)⟩, ⟨(some 26), none, .mv (.t 7)⟩, ⟨none, none, .mapup .i (.t 25) (.t 26) (.c (.bool true))⟩]
abbrev r38_10 : List AInstr :=
 [⟨(some 27), none, .bin .add (.t 18) (.c (.int .i64 1))⟩, ⟨(some 18), none, .mv (.t 27)⟩]
abbrev l38_11 : ACode :=
 .seq (.rg r38_5) (.seq (.cond (.t 19) (.skip) (.exit 0)) (.seq (.block 1 (.seq (.rg r38_6) (.seq (.seq (.rg r38_7) (.cond (.t 24) (.seq (.rg r38_8) (.ret)) (.skip))) (.rg r38_9)))) (.rg r38_10)))
abbrev r38_11 : List AInstr :=
 [⟨(some 28), none, .fld 5 (.t 3)⟩, ⟨(some 29), none, .load false 1 (.t 28)⟩, ⟨(some 30), none, .len .l (.t 29)⟩, ⟨(some 31), none, .mv (.c (.int .i64 0))⟩]
abbrev r38_12 : List AInstr :=
 [⟨(some 32), none, .bin .lss (.t 31) (.t 30)⟩]
abbrev r38_13 : List AInstr :=
 [⟨(some 33), none, .idxA 1 (.t 29) (.t 31)⟩, ⟨(some 34), none, .load false 1 (.t 33)⟩, ⟨(some 9), none, .mv (.t 34)⟩]
abbrev r38_14 : List AInstr :=
 [⟨(some 35), none, .mv (.t 0)⟩, ⟨(some 36), none, .mv (.t 9)⟩, ⟨(some 37), none, .call 89 [(.t 35), (.t 36)]⟩, ⟨(some 38), none, .not (.t 37)⟩]
abbrev r38_15 : List AInstr :=
 [⟨(some 4), none, .mv (.c (.int .i64 10))⟩]
abbrev r38_16 : List AInstr :=
 [⟨(some 39), none, .bin .add (.t 31) (.c (.int .i64 1))⟩, ⟨(some 31), none, .mv (.t 39)⟩]
abbrev l38_18 : ACode :=
 .seq (.rg r38_12) (.seq (.cond (.t 32) (.skip) (.exit 2)) (.seq (.block 3 (.seq (.rg r38_13) (.seq (.rg r38_14) (.cond (.t 38) (.seq (.rg r38_15) (.ret)) (.skip))))) (.rg r38_16)))
abbrev r38_17 : List AInstr :=
 [⟨(some 40), none, .fld 5 (.t 3)⟩, ⟨(some 41), none, .load false 1 (.t 40)⟩, ⟨(some 42), none, .len .l (.t 41)⟩, ⟨(some 43), none, .bin .sub (.t 42) (.c (.int .i64 1))⟩, ⟨(some 10), none, .mv (.t 43)⟩]
abbrev r38_18 : List AInstr :=
 [⟨(some 44), none, .mv (.t 10)⟩, ⟨(some 45), none, .bin .geq (.t 44) (.c (.int .i64 0))⟩]
abbrev r38_20 : List AInstr :=
 [⟨(some 48), none, .mv (.t 0)⟩, ⟨(some 49), none, .fld 5 (.t 3)⟩, ⟨(some 50), none, .load false 1 (.t 49)⟩, ⟨(some 51), none, .mv (.t 10)⟩, ⟨(some 52), none, .idxA 1 (.t 50) (.t 51)⟩, ⟨(some 53), none, .load false 1 (.t 52)⟩, ⟨(some 54), none, .call 90 [(.t 48), (.t 53)]⟩, ⟨(some 11), none, .mv (.t 54)⟩]
abbrev r38_21 : List AInstr :=
 [⟨(some 55), none, .mv (.t 11)⟩, ⟨(some 56), none, .bin .neq (.t 55) (.c (.int .i64 0))⟩]
abbrev r38_22 : List AInstr :=
 [⟨(some 57), none, .mv (.t 11)⟩, ⟨(some 4), none, .mv (.t 57)⟩]
abbrev r38_19 : List AInstr :=
 [⟨(some 46), none, .mv (.t 10)⟩, ⟨(some 47), none, .bin .sub (.t 46) (.c (.int .i64 1))⟩, ⟨(some 10), none, .mv (.t 47)⟩]
abbrev l38_25 : ACode :=
 .seq (.seq (.rg r38_18) (.cond (.t 45) (.skip) (.exit 4))) (.seq (.block 5 (.seq (.rg r38_20) (.seq (.rg r38_21) (.cond (.t 56) (.seq (.rg r38_22) (.ret)) (.skip))))) (.rg r38_19))
abbrev r38_23 : List AInstr :=
 [⟨(some 4), none, .mv (.c (.int .i64 0))⟩]
abbrev c38 : ACode :=
 .seq (.rg r38_0) (.seq (.seq (.rg r38_1) (.cond (.t 13) (.seq (.rg r38_2) (.ret)) (.skip))) (.seq (.rg r38_3) (.seq (.seq (.rg r38_4) (.block 0 (.loop l38_11))) (.seq (.seq (.rg r38_11) (.block 2 (.loop l38_18))) (.seq (.seq (.rg r38_17) (.block 4 (.loop l38_25))) (.seq (.rg r38_23) (.ret)))))))
abbrev a38 : AFunc := { np := 2, nt := 58, res := [.tmp 4], body := c38 }
abbrev r82_0 : List AInstr :=
 [⟨(some 4), none, .mv (.c (.int .i64 0))⟩]
abbrev r82_1 : List AInstr :=
 [⟨(some 5), none, .mv (.t 1)⟩, ⟨(some 6), none, .bin .lss (.t 5) (.c (.int .i64 1))⟩]
abbrev r82_2 : List AInstr :=
 [⟨(some 4), none, .mv (.c (.int .i64 0))⟩]
abbrev r82_3 : List AInstr :=
 [⟨(some 7), none, .mv (.t 0)⟩, ⟨(some 8), none, .mv (.t 1)⟩, ⟨(some 9), none, .bin .rem (.t 7) (.t 8)⟩, ⟨(some 10), none, .mv (.t 1)⟩, ⟨(some 11), none, .bin .add (.t 9) (.t 10)⟩, ⟨(some 12), none, .mv (.t 1)⟩, ⟨(some 13), none, .bin .rem (.t 11) (.t 12)⟩, ⟨(some 4), none, .mv (.t 13)⟩]
abbrev c82 : ACode :=
 .seq (.rg r82_0) (.seq (.seq (.rg r82_1) (.cond (.t 6) (.seq (.rg r82_2) (.ret)) (.skip))) (.seq (.rg r82_3) (.ret)))
abbrev a82 : AFunc := { np := 2, nt := 14, res := [.tmp 4], body := c82 }
abbrev r84_0 : List AInstr :=
 [⟨(some 5), none, .box 1 (.t 0)⟩, ⟨(some 6), none, .box 5 (.t 1)⟩, ⟨(some 7), none, .box 1 (.t 2)⟩, ⟨(some 8), none, .box 1 (.t 3)⟩, ⟨(some 9), none, .box 1 (.t 4)⟩, ⟨(some 10), none, .alloc [.int .u64 0, .int .i64 0, .int .i64 0, .int .i64 0, .int .i64 0, .vs [] .ex, .vs [] .ex]⟩, ⟨(some 11), none, .mv (.c (.int .i64 0))⟩]
abbrev r84_1 : List AInstr :=
 [⟨(some 12), none, .load false 1 (.t 5)⟩, ⟨(some 13), none, .mkfn 158 [(.t 5), (.t 6), (.t 7), (.t 8), (.t 9)]⟩, ⟨(some 14), none, .load true 5 (.t 6)⟩, ⟨(some 15), none, .lit 5 [(.t 14)]⟩, ⟨(some 16), none, .call 157 [(.t 12), (.t 13), (.t 15)]⟩, ⟨(some 17), none, .ext (.t 16) 0⟩, ⟨(some 18), none, .ext (.t 16) 1⟩, ⟨none, none, .store 7 (.t 10) (.t 17)⟩, ⟨(some 11), none, .mv (.t 18)⟩]
abbrev c84 : ACode :=
 .seq (.rg r84_0) (.seq (.rg r84_1) (.ret))
abbrev a84 : AFunc := { np := 5, nt := 19, res := [.cell 10 true 7, .tmp 11], body := c84 }
abbrev r86_0 : List AInstr :=
 [⟨(some 4), none, .mv (.c (.bool false))⟩]
abbrev r86_1 : List AInstr :=
 [⟨(some 5), none, .mv (.c (.int .i64 0))⟩]
abbrev r86_2 : List AInstr :=
 [⟨(some 6), none, .mv (.t 5)⟩, ⟨(some 7), none, .mv (.t 0)⟩, ⟨(some 8), none, .len .l (.t 7)⟩, ⟨(some 9), none, .bin .lss (.t 6) (.t 8)⟩]
abbrev r86_4 : List AInstr :=
 [⟨(some 12), none, .mv (.t 0)⟩, ⟨(some 13), none, .mv (.t 5)⟩, ⟨(some 14), none, .idxA 1 (.t 12) (.t 13)⟩, ⟨(some 15), none, .load false 1 (.t 14)⟩, ⟨(some 16), none, .mv (.t 1)⟩, ⟨(some 17), none, .bin .eql (.t 15) (.t 16)⟩]
abbrev r86_5 : List AInstr :=
 [⟨(some 4), none, .mv (.c (.bool true))⟩]
abbrev r86_3 : List AInstr :=
 [⟨(some 10), none, .mv (.t 5)⟩, ⟨(some 11), none, .bin .add (.t 10) (.c (.int .i64 1))⟩, ⟨(some 5), none, .mv (.t 11)⟩]
abbrev l86_6 : ACode :=
 .seq (.seq (.rg r86_2) (.cond (.t 9) (.skip) (.exit 0))) (.seq (.block 1 (.seq (.rg r86_4) (.cond (.t 17) (.seq (.rg r86_5) (.ret)) (.skip)))) (.rg r86_3))
abbrev r86_6 : List AInstr :=
 [⟨(some 4), none, .mv (.c (.bool false))⟩]
abbrev c86 : ACode :=
 .seq (.rg r86_0) (.seq (.seq (.rg r86_1) (.block 0 (.loop l86_6))) (.seq (.rg r86_6) (.ret)))
abbrev a86 : AFunc := { np := 2, nt := 18, res := [.tmp 4], body := c86 }
abbrev r87_0 : List AInstr :=
 [⟨(some 5), none, .box 5 (.t 1)⟩, ⟨(some 8), none, .mv (.c (.str []))⟩, ⟨(some 9), none, .mv (.c (.int .i64 0))⟩]
abbrev r87_1 : List AInstr :=
 [⟨(some 13), none, .mv (.t 0)⟩, ⟨(some 14), none, .load true 5 (.t 5)⟩, ⟨(some 15), none, .mv (.t 2)⟩, ⟨(some 16), none, .mv (.t 3)⟩, ⟨(some 17), none, .call 160 [(.t 13), (.t 14), (.t 15), (.t 16)]⟩, ⟨(some 12), none, .mv (.t 17)⟩, ⟨(some 18), none, .ext (.t 12) 0⟩, ⟨(some 19), none, .ext (.t 12) 1⟩, ⟨(some 10), none, .mv (.t 18)⟩, ⟨(some 11), none, .mv (.t 19)⟩]
abbrev r87_2 : List AInstr :=
 [⟨(some 20), none, .mv (.t 10)⟩, ⟨(some 21), none, .call 161 [(.t 20), (.c (.str []))]⟩, ⟨(some 22), none, .mv (.t 11)⟩, ⟨(some 8), none, .mv (.t 21)⟩, ⟨(some 9), none, .mv (.t 22)⟩]
abbrev c87 : ACode :=
 .seq (.rg r87_0) (.seq (.rg r87_1) (.seq (.rg r87_2) (.ret)))
abbrev a87 : AFunc := { np := 4, nt := 23, res := [.tmp 8, .tmp 9], body := c87 }
abbrev r89_0 : List AInstr :=
 [⟨(some 4), none, .mv (.c (.bool false))⟩]
abbrev r89_1 : List AInstr :=
 [⟨(some 5), none, .mv (.t 0)⟩, ⟨(some 6), none, .eqv .ptr false (.t 5) (.c (.nilp))⟩]
abbrev r89_2 : List AInstr :=
 [⟨(some 4), none, .mv (.c (.bool false))⟩]
abbrev r89_3 : List AInstr :=
 [⟨(some 7), none, .mv (.t 0)⟩, ⟨(some 8), none, .nilc (.t 7)⟩, ⟨(some 9), none, .fld 1 (.t 8)⟩, ⟨(some 10), none, .load false 1 (.t 9)⟩, ⟨(some 11), none, .mv (.t 1)⟩, ⟨(some 12), none, .call 163 [(.t 10), (.t 11)]⟩, ⟨(some 4), none, .mv (.t 12)⟩]
abbrev c89 : ACode :=
 .seq (.rg r89_0) (.seq (.seq (.rg r89_1) (.cond (.t 6) (.seq (.rg r89_2) (.ret)) (.skip))) (.seq (.rg r89_3) (.ret)))
abbrev a89 : AFunc := { np := 2, nt := 13, res := [.tmp 4], body := c89 }
abbrev r90_0 : List AInstr :=
 [⟨(some 4), none, .mv (.c (.int .i64 0))⟩]
abbrev r90_1 : List AInstr :=
 [⟨(some 7), none, .mv (.t 0)⟩, ⟨(some 8), none, .eqv .ptr false (.t 7) (.c (.nilp))⟩]
abbrev r90_2 : List AInstr :=
 [⟨(some 4), none, .mv (.c (.int .i64 1))⟩]
abbrev r90_3 : List AInstr :=
 [⟨(some 10), none, .mv (.t 0)⟩, ⟨(some 11), none, .nilc (.t 10)⟩, ⟨(some 12), none, .fld 1 (.t 11)⟩, ⟨(some 13), none, .load false 1 (.t 12)⟩, ⟨(some 14), none, .mv (.t 1)⟩, ⟨(some 15), none, .call 164 [(.t 13), (.t 14)]⟩, ⟨(some 9), none, .mv (.t 15)⟩, ⟨(some 16), none, .ext (.t 9) 0⟩, ⟨(some 17), none, .ext (.t 9) 1⟩, ⟨(some 5), none, .mv (.t 16)⟩, ⟨(some 6), none, .mv (.t 17)⟩]
abbrev r90_4 : List AInstr :=
 [⟨(some 18), none, .mv (.t 6)⟩, ⟨(some 19), none, .bin .neq (.t 18) (.c (.int .i64 0))⟩]
abbrev r90_5 : List AInstr :=
 [⟨(some 20), none, .mv (.t 0)⟩, ⟨(some 21), none, .nilc (.t 20)⟩, ⟨(some 22), none, .fld 5 (.t 21)⟩, ⟨(some 23), none, .load false 1 (.t 22)⟩, ⟨(some 24), none, .bin .add (.t 23) (.c (.int .i64 1))⟩, ⟨(some 25), none, .nilc (.t 20)⟩, ⟨(some 26), none, .fld 5 (.t 25)⟩, ⟨none, none, .store 1 (.t 26) (.t 24)⟩]
abbrev r90_6 : List AInstr :=
 [⟨(some 27), none, .mv (.t 6)⟩, ⟨(some 4), none, .mv (.t 27)⟩]
abbrev r90_7 : List AInstr :=
 [⟨(some 28), none, .mv (.t 0)⟩, ⟨(some 29), none, .nilc (.t 28)⟩, ⟨(some 30), none, .fld 2 (.t 29)⟩, ⟨(some 31), none, .load false 1 (.t 30)⟩, ⟨(some 32), none, .mv (.t 1)⟩, ⟨none, none, .del .i (.t 31) (.t 32)⟩]
abbrev r90_8 : List AInstr :=
 [⟨(some 33), none, .mv (.t 0)⟩, ⟨(some 34), none, .nilc (.t 33)⟩, ⟨(some 35), none, .fld 4 (.t 34)⟩, ⟨(some 36), none, .load false 1 (.t 35)⟩, ⟨(some 37), none, .bin .add (.t 36) (.c (.int .i64 1))⟩, ⟨(some 38), none, .nilc (.t 33)⟩, ⟨(some 39), none, .fld 4 (.t 38)⟩, ⟨none, none, .store 1 (.t 39) (.t 37)⟩]
abbrev r90_9 : List AInstr :=
 [⟨(some 4), none, .mv (.c (.int .i64 0))⟩]
abbrev c90 : ACode :=
 .seq (.rg r90_0) (.seq (.seq (.rg r90_1) (.cond (.t 8) (.seq (.rg r90_2) (.ret)) (.skip))) (.seq (.seq (.rg r90_3) (.seq (.rg r90_4) (.cond (.t 19) (.seq (.rg r90_5) (.seq (.rg r90_6) (.ret))) (.skip)))) (.seq (.rg r90_7) (.seq (.rg r90_8) (.seq (.rg r90_9) (.ret))))))
abbrev a90 : AFunc := { np := 2, nt := 40, res := [.tmp 4], body := c90 }
abbrev r157_0 : List AInstr :=
 [⟨(some 6), none, .alloc [.int .u64 0, .int .i64 0, .int .i64 0, .int .i64 0, .int .i64 0, .vs [] .ex, .vs [] .ex]⟩, ⟨(some 7), none, .mv (.c (.int .i64 0))⟩]
abbrev r157_1 : List AInstr :=
 [⟨(some 19), none, .mv (.t 1)⟩, ⟨(some 20), none, .callv (.t 19) []⟩, ⟨(some 18), none, .mv (.t 20)⟩, ⟨(some 21), none, .ext (.t 18) 0⟩, ⟨(some 22), none, .ext (.t 18) 1⟩, ⟨(some 8), none, .alloc [.int .u64 0, .int .i64 0, .int .i64 0, .int .i64 0, .int .i64 0, .str [], .vs [] .ex]⟩, ⟨none, none, .store 7 (.t 8) (.t 21)⟩, ⟨(some 9), none, .mv (.t 22)⟩]
abbrev r157_2 : List AInstr :=
 [⟨(some 23), none, .mv (.t 9)⟩, ⟨(some 24), none, .bin .neq (.t 23) (.c (.int .i64 0))⟩]
abbrev r157_3 : List AInstr :=
 [⟨(some 25), none, .build [.int .u64 0, .int .i64 0, .int .i64 0, .int .i64 0, .int .i64 0, .vs [] .ex, .vs [] .ex] []⟩, ⟨(some 26), none, .mv (.t 9)⟩, ⟨none, none, .store 7 (.t 6) (.t 25)⟩, ⟨(some 7), none, .mv (.t 26)⟩]
abbrev r157_4 : List AInstr :=
 [⟨(some 27), none, .build [.int .u64 0, .int .i64 0, .int .i64 0, .int .i64 0, .int .i64 0, .vs [] .ex, .vs [] .ex] []⟩, ⟨(some 10), none, .alloc [.int .u64 0, .int .i64 0, .int .i64 0, .int .i64 0, .int .i64 0, .vs [] .ex, .vs [] .ex]⟩, ⟨none, none, .store 7 (.t 10) (.t 27)⟩]
abbrev r157_5 : List AInstr :=
 [⟨(some 28), none, .mkmap⟩, ⟨(some 11), none, .mv (.t 28)⟩]
abbrev r157_6 : List AInstr :=
 [⟨(some 29), none, .mv (.t 2)⟩, ⟨(some 30), none, .len .l (.t 29)⟩, ⟨(some 31), none, .mv (.c (.int .i64 0))⟩]
abbrev r157_7 : List AInstr :=
 [⟨(some 32), none, .bin .lss (.t 31) (.t 30)⟩]
abbrev r157_8 : List AInstr :=
 [⟨(some 33), none, .idxA 5 (.t 29) (.t 31)⟩, ⟨(some 34), none, .load true 5 (.t 33)⟩, ⟨(some 13), none, .alloc [.int .u64 0, .int .i64 0, .int .i64 0, .int .i64 0, .int .i64 0]⟩, ⟨none, none, .store 5 (.t 13) (.t 34)⟩]
abbrev r157_9 : List AInstr :=
 [⟨(some 36), none, .mv (.t 0)⟩, ⟨(some 37), none, .load true 5 (.t 13)⟩, ⟨(some 38), none, .load true 7 (.t 8)⟩, ⟨(some 39), none, .call 55 [(.t 36), (.t 37), (.t 38)]⟩, ⟨(some 35), none, .mv (.t 39)⟩, ⟨(some 40), none, .ext (.t 35) 0⟩, ⟨(some 41), none, .ext (.t 35) 1⟩, ⟨(some 14), none, .mv (.t 40)⟩, ⟨(some 15), none, .mv (.t 41)⟩]
abbrev r157_10 : List AInstr :=
 [⟨(some 42), none, .mv (.t 15)⟩, ⟨(some 43), none, .bin .neq (.t 42) (.c (.int .i64 0))⟩]
abbrev r157_11 : List AInstr :=
 [⟨(some 44), none, .build [.int .u64 0, .int .i64 0, .int .i64 0, .int .i64 0, .int .i64 0, .vs [] .ex, .vs [] .ex] []⟩, ⟨(some 45), none, .mv (.t 15)⟩, ⟨none, none, .store 7 (.t 6) (.t 44)⟩, ⟨(some 7), none, .mv (.t 45)⟩]
abbrev r157_12 : List AInstr :=
 [⟨(some 46), none, .mv (.t 14)⟩, ⟨(some 47), none, .len .l (.t 46)⟩, ⟨(some 48), none, .mv (.c (.int .i64 0))⟩]
abbrev r157_13 : List AInstr :=
 [⟨(some 49), none, .bin .lss (.t 48) (.t 47)⟩]
abbrev r157_14 : List AInstr :=
 [⟨(some 50), none, .idxA 1 (.t 46) (.t 48)⟩, ⟨(some 51), none, .load false 1 (.t 50)⟩, ⟨(some 17), none, .mv (.t 51)⟩]
abbrev r157_15 : List AInstr :=
 [⟨(some 52), none, .mv (.t 11)⟩, ⟨(some 53), none, .mv (.t 17)⟩, ⟨(some 54), none, .lookup .i (.bool false) (.t 52) (.t 53) false⟩, ⟨(some 55), none, .not (.t 54)⟩]
abbrev r157_16 : List AInstr :=
 [⟨(some 56), none, .mv (.t 11)⟩, ⟨(some 57), none, .mv (.t 17)⟩, ⟨none, none, .mapup .i (.t 56) (.t 57) (.c (.bool true))⟩]
abbrev r157_17 : List AInstr :=
 [⟨(some 58), none, .fld 6 (.t 10)⟩, ⟨(some 59), none, .load false 1 (.t 58)⟩, ⟨(some 60), none, .mv (.t 17)⟩, ⟨(some 61), none, .lit 1 [(.t 60)]⟩, ⟨(some 62), none, .app false 1 8 (.t 59) (.t 61)⟩, ⟨(some 63), none, .fld 6 (.t 10)⟩, ⟨none, none, .store 1 (.t 63) (.t 62)⟩]
abbrev r157_18 : List AInstr :=
 [⟨(some 64), none, .bin .add (.t 48) (.c (.int .i64 1))⟩, ⟨(some 48), none, .mv (.t 64)⟩]
abbrev l157_19 : ACode :=
 .seq (.rg r157_13) (.seq (.cond (.t 49) (.skip) (.exit 2)) (.seq (.block 3 (.seq (.rg r157_14) (.seq (.rg r157_15) (.cond (.t 55) (.seq (.rg r157_16) (.rg r157_17)) (.skip))))) (.rg r157_18)))
abbrev r157_19 : List AInstr :=
 [⟨(some 65), none, .bin .add (.t 31) (.c (.int .i64 1))⟩, ⟨(some 31), none, .mv (.t 65)⟩]
abbrev l157_21 : ACode :=
 .seq (.rg r157_7) (.seq (.cond (.t 32) (.skip) (.exit 0)) (.seq (.block 1 (.seq (.rg r157_8) (.seq (.rg r157_9) (.seq (.seq (.rg r157_10) (.cond (.t 43) (.seq (.rg r157_11) (.ret)) (.skip))) (.seq (.rg r157_12) (.block 2 (.loop l157_19))))))) (.rg r157_19)))
abbrev r157_20 : List AInstr :=
 [⟨(some 67), none, .mv (.t 0)⟩, ⟨(some 68), none, .load true 7 (.t 8)⟩, ⟨(some 69), none, .call 44 [(.t 67), (.t 68)]⟩, ⟨(some 66), none, .mv (.t 69)⟩, ⟨(some 70), none, .ext (.t 66) 0⟩, ⟨(some 71), none, .ext (.t 66) 1⟩, ⟨(some 72), none, .ext (.t 66) 2⟩, ⟨(some 73), none, .fld 0 (.t 10)⟩, ⟨none, none, .store 5 (.t 73) (.t 70)⟩, ⟨(some 74), none, .fld 5 (.t 10)⟩, ⟨none, none, .store 1 (.t 74) (.t 71)⟩, ⟨(some 9), none, .mv (.t 72)⟩]
abbrev r157_21 : List AInstr :=
 [⟨(some 75), none, .mv (.t 9)⟩, ⟨(some 76), none, .bin .neq (.t 75) (.c (.int .i64 0))⟩]
abbrev r157_22 : List AInstr :=
 [⟨(some 77), none, .build [.int .u64 0, .int .i64 0, .int .i64 0, .int .i64 0, .int .i64 0, .vs [] .ex, .vs [] .ex] []⟩, ⟨(some 78), none, .mv (.t 9)⟩, ⟨none, none, .store 7 (.t 6) (.t 77)⟩, ⟨(some 7), none, .mv (.t 78)⟩]
abbrev r157_23 : List AInstr :=
 [⟨(some 79), none, .load true 7 (.t 10)⟩, ⟨none, none, .store 7 (.t 6) (.t 79)⟩, ⟨(some 7), none, .mv (.c (.int .i64 0))⟩]
abbrev c157 : ACode :=
 .seq (.rg r157_0) (.seq (.rg r157_1) (.seq (.seq (.rg r157_2) (.cond (.t 24) (.seq (.rg r157_3) (.ret)) (.skip))) (.seq (.rg r157_4) (.seq (.rg r157_5) (.seq (.seq (.rg r157_6) (.block 0 (.loop l157_21))) (.seq (.seq (.rg r157_20) (.seq (.rg r157_21) (.cond (.t 76) (.seq (.rg r157_22) (.ret)) (.skip)))) (.seq (.rg r157_23) (.ret))))))))
abbrev a157 : AFunc := { np := 3, nt := 80, res := [.cell 6 true 7, .tmp 7], body := c157 }
abbrev r158_0 : List AInstr :=
 [⟨(some 5), none, .alloc [.int .u64 0, .int .i64 0, .int .i64 0, .int .i64 0, .int .i64 0, .str [], .vs [] .ex]⟩, ⟨(some 6), none, .mv (.c (.int .i64 0))⟩]
abbrev r158_1 : List AInstr :=
 [⟨(some 7), none, .load false 1 (.t 0)⟩, ⟨(some 8), none, .load true 5 (.t 1)⟩, ⟨(some 9), none, .load false 1 (.t 2)⟩, ⟨(some 10), none, .load false 1 (.t 3)⟩, ⟨(some 11), none, .load false 1 (.t 4)⟩, ⟨(some 12), none, .call 159 [(.t 7), (.t 8), (.t 9), (.t 10), (.t 11)]⟩, ⟨(some 13), none, .ext (.t 12) 0⟩, ⟨(some 14), none, .ext (.t 12) 1⟩, ⟨none, none, .store 7 (.t 5) (.t 13)⟩, ⟨(some 6), none, .mv (.t 14)⟩]
abbrev c158 : ACode :=
 .seq (.rg r158_0) (.seq (.rg r158_1) (.ret))
abbrev a158 : AFunc := { np := 5, nt := 15, res := [.cell 5 true 7, .tmp 6], body := c158 }
abbrev r159_0 : List AInstr :=
 [⟨(some 6), none, .box 5 (.t 1)⟩, ⟨(some 10), none, .alloc [.int .u64 0, .int .i64 0, .int .i64 0, .int .i64 0, .int .i64 0, .str [], .vs [] .ex]⟩, ⟨(some 11), none, .mv (.c (.int .i64 0))⟩]
abbrev r159_1 : List AInstr :=
 [⟨(some 15), none, .mv (.t 0)⟩, ⟨(some 16), none, .load true 5 (.t 6)⟩, ⟨(some 17), none, .call 53 [(.t 15), (.t 16)]⟩, ⟨(some 14), none, .mv (.t 17)⟩, ⟨(some 18), none, .ext (.t 14) 0⟩, ⟨(some 19), none, .ext (.t 14) 1⟩, ⟨(some 12), none, .alloc [.int .u64 0, .int .i64 0, .int .i64 0, .int .i64 0, .int .i64 0, .str [], .vs [] .ex]⟩, ⟨none, none, .store 7 (.t 12) (.t 18)⟩, ⟨(some 13), none, .mv (.t 19)⟩]
abbrev r159_2 : List AInstr :=
 [⟨(some 20), none, .mv (.t 13)⟩, ⟨(some 21), none, .bin .neq (.t 20) (.c (.int .i64 0))⟩]
abbrev r159_3 : List AInstr :=
 [⟨(some 22), none, .build [.int .u64 0, .int .i64 0, .int .i64 0, .int .i64 0, .int .i64 0, .str [], .vs [] .ex] []⟩, ⟨(some 23), none, .mv (.t 13)⟩, ⟨none, none, .store 7 (.t 10) (.t 22)⟩, ⟨(some 11), none, .mv (.t 23)⟩]
abbrev r159_4 : List AInstr :=
 [⟨(some 24), none, .mv (.t 0)⟩, ⟨(some 25), none, .load true 7 (.t 12)⟩, ⟨(some 26), none, .mv (.t 2)⟩, ⟨(some 27), none, .mv (.t 3)⟩, ⟨(some 28), none, .mv (.t 4)⟩, ⟨(some 29), none, .call 92 [(.t 24), (.t 25), (.t 26), (.t 27), (.t 28)]⟩, ⟨(some 30), none, .ext (.t 29) 0⟩, ⟨(some 31), none, .ext (.t 29) 1⟩, ⟨none, none, .store 7 (.t 10) (.t 30)⟩, ⟨(some 11), none, .mv (.t 31)⟩]
abbrev c159 : ACode :=
 .seq (.rg r159_0) (.seq (.rg r159_1) (.seq (.seq (.rg r159_2) (.cond (.t 21) (.seq (.rg r159_3) (.ret)) (.skip))) (.seq (.rg r159_4) (.ret))))
abbrev a159 : AFunc := { np := 5, nt := 32, res := [.cell 10 true 7, .tmp 11], body := c159 }
abbrev r160_0 : List AInstr :=
 [⟨(some 5), none, .box 5 (.t 1)⟩, ⟨(some 8), none, .mv (.c (.vs [] .ex))⟩, ⟨(some 9), none, .mv (.c (.int .i64 0))⟩]
abbrev r160_1 : List AInstr :=
 [⟨(some 15), none, .mv (.t 0)⟩, ⟨(some 16), none, .load true 5 (.t 5)⟩, ⟨(some 17), none, .mv (.t 2)⟩, ⟨(some 18), none, .mv (.t 3)⟩, ⟨(some 19), none, .call 214 [(.t 15), (.t 16), (.t 17), (.t 18)]⟩, ⟨(some 10), none, .mv (.t 19)⟩]
abbrev r160_2 : List AInstr :=
 [⟨(some 20), none, .mv (.t 10)⟩, ⟨(some 21), none, .bin .neq (.t 20) (.c (.int .i64 0))⟩]
abbrev r160_3 : List AInstr :=
 [⟨(some 22), none, .mv (.t 10)⟩, ⟨(some 8), none, .mv (.c (.vs [] .ex))⟩, ⟨(some 9), none, .mv (.t 22)⟩]
abbrev r160_4 : List AInstr :=
 [⟨(some 11), none, .alloc [.vs [] .ex]⟩]
abbrev r160_5 : List AInstr :=
 [⟨(some 12), none, .alloc [.int .i64 0]⟩, ⟨none, none, .store 1 (.t 12) (.c (.int .i64 0))⟩]
abbrev r160_6 : List AInstr :=
 [⟨(some 23), none, .mv (.t 0)⟩, ⟨(some 24), none, .load true 5 (.t 5)⟩, ⟨(some 25), none, .mv (.t 2)⟩, ⟨(some 26), none, .mv (.t 3)⟩, ⟨(some 27), none, .call 215 [(.t 23), (.t 24), (.t 25), (.t 26)]⟩]
abbrev r160_7 : List AInstr :=
 [⟨(some 13), none, .mv (.t 28)⟩]
abbrev r160_8 : List AInstr :=
 [⟨(some 14), none, .mv (.t 29)⟩]
abbrev x160_9 : ACode :=
 .seq (.rg r160_7) (.rg r160_8)
abbrev r160_9 : List AInstr :=
 [⟨(some 30), none, .mv (.t 14)⟩, ⟨(some 31), none, .bin .neq (.t 30) (.c (.int .i64 0))⟩]
abbrev r160_10 : List AInstr :=
 [⟨(some 32), none, .mv (.t 14)⟩, ⟨none, none, .store 1 (.t 11) (.c (.vs [] .ex))⟩, ⟨none, none, .store 1 (.t 12) (.t 32)⟩]
abbrev r160_11 : List AInstr :=
 [⟨(some 33), none, .load false 1 (.t 11)⟩, ⟨(some 34), none, .mv (.t 13)⟩, ⟨(some 35), none, .lit 1 [(.t 34)]⟩, ⟨(some 36), none, .app false 1 16 (.t 33) (.t 35)⟩, ⟨none, none, .store 1 (.t 11) (.t 36)⟩]
abbrev y160_13 : ACode :=
 .block 1 (.seq (.seq (.rg r160_9) (.cond (.t 31) (.seq (.rg r160_10) (.exit 0)) (.skip))) (.rg r160_11))
abbrev r160_12 : List AInstr :=
 [⟨(some 37), none, .load false 1 (.t 11)⟩, ⟨(some 38), none, .load false 1 (.t 12)⟩, ⟨(some 8), none, .mv (.t 37)⟩, ⟨(some 9), none, .mv (.t 38)⟩]
abbrev c160 : ACode :=
 .seq (.rg r160_0) (.scope (.seq (.seq (.rg r160_1) (.seq (.rg r160_2) (.cond (.t 21) (.seq (.rg r160_3) (.ret)) (.skip)))) (.seq (.rg r160_4) (.seq (.rg r160_5) (.seq (.skip) (.seq (.seq (.rg r160_6) (.block 0 (.rf (.t 27) [28, 29] x160_9 y160_13))) (.seq (.rg r160_12) (.ret))))))))
abbrev a160 : AFunc := { np := 4, nt := 39, res := [.tmp 8, .tmp 9], body := c160 }
abbrev r163_0 : List AInstr :=
 [⟨(some 4), none, .mv (.c (.bool false))⟩]
abbrev r163_1 : List AInstr :=
 [⟨(some 7), none, .mv (.t 0)⟩, ⟨(some 8), none, .eqv .ptr false (.t 7) (.c (.nilp))⟩]
abbrev r163_2 : List AInstr :=
 [⟨(some 4), none, .mv (.c (.bool false))⟩]
abbrev r163_3 : List AInstr :=
 [⟨(some 10), none, .mv (.t 0)⟩, ⟨(some 11), none, .mv (.t 1)⟩, ⟨(some 12), none, .call 217 [(.t 10), (.t 11)]⟩, ⟨(some 9), none, .mv (.t 12)⟩, ⟨(some 13), none, .ext (.t 9) 0⟩, ⟨(some 14), none, .ext (.t 9) 1⟩, ⟨(some 5), none, .mv (.t 13)⟩, ⟨(some 6), none, .mv (.t 14)⟩]
abbrev r163_4 : List AInstr :=
 [⟨(some 15), none, .mv (.t 6)⟩, ⟨(some 4), none, .mv (.t 15)⟩]
abbrev c163 : ACode :=
 .seq (.rg r163_0) (.seq (.seq (.rg r163_1) (.cond (.t 8) (.seq (.rg r163_2) (.ret)) (.skip))) (.seq (.rg r163_3) (.seq (.rg r163_4) (.ret))))
abbrev a163 : AFunc := { np := 2, nt := 16, res := [.tmp 4], body := c163 }
abbrev r164_0 : List AInstr :=
 [⟨(some 4), none, .mv (.c (.bool false))⟩, ⟨(some 5), none, .mv (.c (.int .i64 0))⟩]
abbrev r164_1 : List AInstr :=
 [⟨(some 8), none, .mv (.t 0)⟩, ⟨(some 9), none, .eqv .ptr false (.t 8) (.c (.nilp))⟩]
abbrev r164_2 : List AInstr :=
 [⟨(some 4), none, .mv (.c (.bool false))⟩, ⟨(some 5), none, .mv (.c (.int .i64 1))⟩]
abbrev r164_3 : List AInstr :=
 [⟨(some 11), none, .mv (.t 0)⟩, ⟨(some 12), none, .mv (.t 1)⟩, ⟨(some 13), none, .call 217 [(.t 11), (.t 12)]⟩, ⟨(some 10), none, .mv (.t 13)⟩, ⟨(some 14), none, .ext (.t 10) 0⟩, ⟨(some 15), none, .ext (.t 10) 1⟩, ⟨(some 6), none, .mv (.t 14)⟩, ⟨(some 7), none, .mv (.t 15)⟩]
abbrev r164_4 : List AInstr :=
 [⟨(some 16), none, .mv (.t 7)⟩, ⟨(some 17), none, .not (.t 16)⟩]
abbrev r164_5 : List AInstr :=
 [⟨(some 4), none, .mv (.c (.bool false))⟩, ⟨(some 5), none, .mv (.c (.int .i64 10))⟩]
abbrev r164_6 : List AInstr :=
 [⟨(some 18), none, .mv (.t 0)⟩, ⟨(some 19), none, .nilc (.t 18)⟩, ⟨(some 20), none, .fld 2 (.t 19)⟩, ⟨(some 21), none, .load false 1 (.t 20)⟩, ⟨(some 22), none, .mv (.t 6)⟩, ⟨(some 23), none, .idxA 1 (.t 21) (.t 22)⟩, ⟨(some 24), none, .load false 1 (.t 23)⟩, ⟨(some 25), none, .mv (.t 0)⟩, ⟨(some 26), none, .nilc (.t 25)⟩, ⟨(some 27), none, .fld 3 (.t 26)⟩, ⟨(some 28), none, .load false 1 (.t 27)⟩, ⟨(some 29), none, .bin .eql (.t 24) (.t 28)⟩]
abbrev r164_7 : List AInstr :=
 [⟨(some 30), none, .mv (.t 0)⟩, ⟨(some 31), none, .nilc (.t 30)⟩, ⟨(some 32), none, .fld 1 (.t 31)⟩, ⟨(some 33), none, .load false 1 (.t 32)⟩, ⟨(some 34), none, .mv (.t 6)⟩, ⟨(some 35), none, .idxA 1 (.t 33) (.t 34)⟩, ⟨none, none, .store 1 (.t 35) (.c (.int .u8 2))⟩]
abbrev r164_8 : List AInstr :=
 [⟨(some 4), none, .mv (.c (.bool true))⟩, ⟨(some 5), none, .mv (.c (.int .i64 0))⟩]
abbrev r164_9 : List AInstr :=
 [⟨(some 36), none, .mv (.t 0)⟩, ⟨(some 37), none, .nilc (.t 36)⟩, ⟨(some 38), none, .fld 2 (.t 37)⟩, ⟨(some 39), none, .load false 1 (.t 38)⟩, ⟨(some 40), none, .mv (.t 6)⟩, ⟨(some 41), none, .idxA 1 (.t 39) (.t 40)⟩, ⟨(some 42), none, .load false 1 (.t 41)⟩, ⟨(some 43), none, .bin .add (.t 42) (.c (.int .u64 1))⟩, ⟨(some 44), none, .idxA 1 (.t 39) (.t 40)⟩, ⟨none, none, .store 1 (.t 44) (.t 43)⟩]
abbrev r164_10 : List AInstr :=
 [⟨(some 45), none, .mv (.t 0)⟩, ⟨(some 46), none, .nilc (.t 45)⟩, ⟨(some 47), none, .fld 1 (.t 46)⟩, ⟨(some 48), none, .load false 1 (.t 47)⟩, ⟨(some 49), none, .mv (.t 6)⟩, ⟨(some 50), none, .idxA 1 (.t 48) (.t 49)⟩, ⟨none, none, .store 1 (.t 50) (.c (.int .u8 0))⟩]
abbrev r164_11 : List AInstr :=
 [⟨(some 51), none, .mv (.t 0)⟩, ⟨(some 52), none, .mv (.t 0)⟩, ⟨(some 53), none, .nilc (.t 52)⟩, ⟨(some 54), none, .fld 0 (.t 53)⟩, ⟨(some 55), none, .load false 1 (.t 54)⟩, ⟨(some 56), none, .mv (.t 6)⟩, ⟨(some 57), none, .lit 1 [(.t 56)]⟩, ⟨(some 58), none, .app false 1 8 (.t 55) (.t 57)⟩, ⟨(some 59), none, .nilc (.t 51)⟩, ⟨(some 60), none, .fld 0 (.t 59)⟩, ⟨none, none, .store 1 (.t 60) (.t 58)⟩]
abbrev r164_12 : List AInstr :=
 [⟨(some 4), none, .mv (.c (.bool false))⟩, ⟨(some 5), none, .mv (.c (.int .i64 0))⟩]
abbrev c164 : ACode :=
 .seq (.rg r164_0) (.seq (.seq (.rg r164_1) (.cond (.t 9) (.seq (.rg r164_2) (.ret)) (.skip))) (.seq (.rg r164_3) (.seq (.seq (.rg r164_4) (.cond (.t 17) (.seq (.rg r164_5) (.ret)) (.skip))) (.seq (.seq (.rg r164_6) (.cond (.t 29) (.seq (.rg r164_7) (.seq (.rg r164_8) (.ret))) (.skip))) (.seq (.rg r164_9) (.seq (.rg r164_10) (.seq (.rg r164_11) (.seq (.rg r164_12) (.ret)))))))))
abbrev a164 : AFunc := { np := 2, nt := 61, res := [.tmp 4, .tmp 5], body := c164 }
abbrev r214_0 : List AInstr :=
 [⟨(some 5), none, .box 5 (.t 1)⟩, ⟨(some 8), none, .mv (.c (.int .i64 0))⟩]
abbrev r214_1 : List AInstr :=
 [⟨(some 12), none, .mv (.t 0)⟩, ⟨(some 13), none, .load true 5 (.t 5)⟩, ⟨(some 14), none, .call 53 [(.t 12), (.t 13)]⟩, ⟨(some 11), none, .mv (.t 14)⟩, ⟨(some 15), none, .ext (.t 11) 0⟩, ⟨(some 16), none, .ext (.t 11) 1⟩, ⟨(some 9), none, .alloc [.int .u64 0, .int .i64 0, .int .i64 0, .int .i64 0, .int .i64 0, .str [], .vs [] .ex]⟩, ⟨none, none, .store 7 (.t 9) (.t 15)⟩, ⟨(some 10), none, .mv (.t 16)⟩]
abbrev r214_2 : List AInstr :=
 [⟨(some 17), none, .mv (.t 10)⟩, ⟨(some 18), none, .bin .neq (.t 17) (.c (.int .i64 0))⟩]
abbrev r214_3 : List AInstr :=
 [⟨(some 19), none, .mv (.t 10)⟩, ⟨(some 8), none, .mv (.t 19)⟩]
abbrev r214_4 : List AInstr :=
 [⟨(some 20), none, .mv (.t 2)⟩, ⟨(some 21), none, .bin .lss (.t 20) (.c (.int .i64 0))⟩, ⟨(some 22), none, .mv (.t 21)⟩, ⟨(some 23), (some (22, false)), .mv (.t 2)⟩, ⟨(some 24), (some (22, false)), .fld 2 (.t 5)⟩, ⟨(some 25), (some (22, false)), .fld 0 (.t 24)⟩, ⟨(some 26), (some (22, false)), .load false 1 (.t 25)⟩, ⟨(some 27), (some (22, false)), .bin .gtr (.t 23) (.t 26)⟩, ⟨(some 28), none, .pick (.t 22) (.c (.bool true)) (.t 27)⟩, ⟨(some 29), none, .mv (.t 28)⟩, ⟨(some 30), (some (29, false)), .mv (.t 3)⟩, ⟨(some 31), (some (29, false)), .bin .lss (.t 30) (.c (.int .i64 0))⟩, ⟨(some 32), none, .pick (.t 29) (.c (.bool true)) (.t 31)⟩, ⟨(some 33), none, .mv (.t 32)⟩, ⟨(some 34), (some (33, false)), .mv (.t 3)⟩, ⟨(some 35), (some (33, false)), .fld 2 (.t 5)⟩, ⟨(some 36), (some (33, false)), .fld 0 (.t 35)⟩, ⟨(some 37), (some (33, false)), .load false 1 (.t 36)⟩, ⟨(some 38), (some (33, false)), .mv (.t 2)⟩, ⟨(some 39), (some (33, false)), .bin .sub (.t 37) (.t 38)⟩, ⟨(some 40), (some (33, false)), .bin .gtr (.t 34) (.t 39)⟩, ⟨(some 41), none, .pick (.t 33) (.c (.bool true)) (.t 40)⟩]
abbrev r214_5 : List AInstr :=
 [⟨(some 8), none, .mv (.c (.int .i64 3))⟩]
abbrev r214_6 : List AInstr :=
 [⟨(some 8), none, .mv (.c (.int .i64 0))⟩]
abbrev c214 : ACode :=
 .seq (.rg r214_0) (.seq (.seq (.rg r214_1) (.seq (.rg r214_2) (.cond (.t 18) (.seq (.rg r214_3) (.ret)) (.skip)))) (.seq (.seq (.rg r214_4) (.cond (.t 41) (.seq (.rg r214_5) (.ret)) (.skip))) (.seq (.rg r214_6) (.ret))))
abbrev a214 : AFunc := { np := 4, nt := 42, res := [.tmp 8], body := c214 }
abbrev r215_0 : List AInstr :=
 [⟨(some 4), none, .box 1 (.t 0)⟩, ⟨(some 5), none, .box 5 (.t 1)⟩, ⟨(some 6), none, .box 1 (.t 2)⟩, ⟨(some 7), none, .box 1 (.t 3)⟩, ⟨(some 8), none, .mv (.c (.nilfn))⟩]
abbrev r215_1 : List AInstr :=
 [⟨(some 9), none, .mkfn 247 [(.t 7), (.t 4), (.t 5), (.t 6)]⟩, ⟨(some 8), none, .mv (.t 9)⟩]
abbrev c215 : ACode :=
 .seq (.rg r215_0) (.seq (.rg r215_1) (.ret))
abbrev a215 : AFunc := { np := 4, nt := 10, res := [.tmp 8], body := c215 }
abbrev r217_0 : List AInstr :=
 [⟨(some 4), none, .mv (.c (.int .i64 0))⟩, ⟨(some 5), none, .mv (.c (.bool false))⟩]
abbrev r217_1 : List AInstr :=
 [⟨(some 10), none, .mv (.t 1)⟩, ⟨(some 11), none, .call 249 [(.t 10)]⟩, ⟨(some 9), none, .mv (.t 11)⟩, ⟨(some 12), none, .ext (.t 9) 0⟩, ⟨(some 13), none, .ext (.t 9) 1⟩, ⟨(some 6), none, .mv (.t 12)⟩, ⟨(some 7), none, .mv (.t 13)⟩]
abbrev r217_2 : List AInstr :=
 [⟨(some 14), none, .mv (.t 7)⟩, ⟨(some 15), none, .bin .neq (.t 14) (.c (.int .i64 0))⟩, ⟨(some 16), none, .mv (.t 15)⟩, ⟨(some 17), (some (16, false)), .mv (.t 6)⟩, ⟨(some 18), (some (16, false)), .mv (.t 0)⟩, ⟨(some 19), (some (16, false)), .nilc (.t 18)⟩, ⟨(some 20), (some (16, false)), .fld 1 (.t 19)⟩, ⟨(some 21), (some (16, false)), .load false 1 (.t 20)⟩, ⟨(some 22), (some (16, false)), .len .l (.t 21)⟩, ⟨(some 23), (some (16, false)), .bin .geq (.t 17) (.t 22)⟩, ⟨(some 24), none, .pick (.t 16) (.c (.bool true)) (.t 23)⟩, ⟨(some 25), none, .mv (.t 24)⟩, ⟨(some 26), (some (25, false)), .mv (.t 0)⟩, ⟨(some 27), (some (25, false)), .nilc (.t 26)⟩, ⟨(some 28), (some (25, false)), .fld 1 (.t 27)⟩, ⟨(some 29), (some (25, false)), .load false 1 (.t 28)⟩, ⟨(some 30), (some (25, false)), .mv (.t 6)⟩, ⟨(some 31), (some (25, false)), .idxA 1 (.t 29) (.t 30)⟩, ⟨(some 32), (some (25, false)), .load false 1 (.t 31)⟩, ⟨(some 33), (some (25, false)), .bin .neq (.t 32) (.c (.int .u8 1))⟩, ⟨(some 34), none, .pick (.t 25) (.c (.bool true)) (.t 33)⟩]
abbrev r217_3 : List AInstr :=
 [⟨(some 4), none, .mv (.c (.int .i64 0))⟩, ⟨(some 5), none, .mv (.c (.bool false))⟩]
abbrev r217_4 : List AInstr :=
 [⟨(some 36), none, .mv (.t 1)⟩, ⟨(some 37), none, .call 250 [(.t 36)]⟩, ⟨(some 35), none, .mv (.t 37)⟩, ⟨(some 38), none, .ext (.t 35) 0⟩, ⟨(some 39), none, .ext (.t 35) 1⟩, ⟨(some 8), none, .mv (.t 38)⟩, ⟨(some 7), none, .mv (.t 39)⟩]
abbrev r217_5 : List AInstr :=
 [⟨(some 40), none, .mv (.t 6)⟩, ⟨(some 41), none, .mv (.t 7)⟩, ⟨(some 42), none, .bin .eql (.t 41) (.c (.int .i64 0))⟩, ⟨(some 43), none, .mv (.t 42)⟩, ⟨(some 44), (some (43, true)), .mv (.t 8)⟩, ⟨(some 45), (some (43, true)), .mv (.t 0)⟩, ⟨(some 46), (some (43, true)), .nilc (.t 45)⟩, ⟨(some 47), (some (43, true)), .fld 2 (.t 46)⟩, ⟨(some 48), (some (43, true)), .load false 1 (.t 47)⟩, ⟨(some 49), (some (43, true)), .mv (.t 6)⟩, ⟨(some 50), (some (43, true)), .idxA 1 (.t 48) (.t 49)⟩, ⟨(some 51), (some (43, true)), .load false 1 (.t 50)⟩, ⟨(some 52), (some (43, true)), .bin .eql (.t 44) (.t 51)⟩, ⟨(some 53), none, .pick (.t 43) (.t 52) (.c (.bool false))⟩, ⟨(some 4), none, .mv (.t 40)⟩, ⟨(some 5), none, .mv (.t 53)⟩]
abbrev c217 : ACode :=
 .seq (.rg r217_0) (.seq (.rg r217_1) (.seq (.seq (.rg r217_2) (.cond (.t 34) (.seq (.rg r217_3) (.ret)) (.skip))) (.seq (.rg r217_4) (.seq (.rg r217_5) (.ret)))))
abbrev a217 : AFunc := { np := 2, nt := 54, res := [.tmp 4, .tmp 5], body := c217 }
abbrev r247_0 : List AInstr :=
 [⟨(some 10), none, .load false 1 (.t 1)⟩, ⟨(some 11), none, .bin .gtr (.t 10) (.c (.int .i64 0))⟩]
abbrev r247_1 : List AInstr :=
 [⟨(some 13), none, .load false 1 (.t 2)⟩, ⟨(some 14), none, .load true 5 (.t 3)⟩, ⟨(some 15), none, .load false 1 (.t 4)⟩, ⟨(some 16), none, .call 248 [(.t 13), (.t 14), (.t 15)]⟩, ⟨(some 12), none, .mv (.t 16)⟩, ⟨(some 17), none, .ext (.t 12) 0⟩, ⟨(some 18), none, .ext (.t 12) 1⟩, ⟨(some 19), none, .ext (.t 12) 2⟩, ⟨(some 20), none, .ext (.t 12) 3⟩, ⟨(some 6), none, .mv (.t 17)⟩, ⟨(some 7), none, .mv (.t 18)⟩, ⟨(some 8), none, .mv (.t 19)⟩, ⟨(some 9), none, .mv (.t 20)⟩]
abbrev r247_2 : List AInstr :=
 [⟨(some 21), none, .mv (.t 9)⟩, ⟨(some 22), none, .bin .eql (.t 21) (.c (.int .i64 0))⟩, ⟨(some 23), none, .mv (.t 22)⟩, ⟨(some 24), (some (23, true)), .mv (.t 7)⟩, ⟨(some 25), (some (23, true)), .mv (.t 6)⟩, ⟨(some 26), (some (23, true)), .len .s (.t 25)⟩, ⟨(some 27), (some (23, true)), .bin .geq (.t 24) (.t 26)⟩, ⟨(some 28), none, .pick (.t 23) (.t 27) (.c (.bool false))⟩]
abbrev r247_3 : List AInstr :=
 [⟨(some 9), none, .mv (.c (.int .i64 23))⟩]
abbrev r247_4 : List AInstr :=
 [⟨(some 29), none, .mv (.t 9)⟩, ⟨(some 30), none, .bin .neq (.t 29) (.c (.int .i64 0))⟩]
abbrev r247_5 : List AInstr :=
 [⟨(some 31), none, .mv (.t 0)⟩, ⟨(some 32), none, .mv (.t 9)⟩, ⟨(some 33), none, .callv (.t 31) [(.c (.str [])), (.t 32)]⟩]
abbrev r247_6 : List AInstr :=
 [⟨(some 34), none, .mv (.t 6)⟩, ⟨(some 35), none, .mv (.t 7)⟩, ⟨(some 36), none, .mv (.t 6)⟩, ⟨(some 37), none, .len .s (.t 36)⟩, ⟨(some 38), none, .mv (.t 7)⟩, ⟨(some 39), none, .load false 1 (.t 1)⟩, ⟨(some 40), none, .bin .add (.t 38) (.t 39)⟩, ⟨(some 41), none, .min (.t 37) (.t 40)⟩, ⟨(some 42), none, .sslice (.t 34) (some (.t 35)) (some (.t 41))⟩, ⟨(some 6), none, .mv (.t 42)⟩]
abbrev r247_7 : List AInstr :=
 [⟨(some 43), none, .mv (.t 0)⟩, ⟨(some 44), none, .mv (.t 6)⟩, ⟨(some 45), none, .callv (.t 43) [(.t 44), (.c (.int .i64 0))]⟩, ⟨(some 46), none, .not (.t 45)⟩]
abbrev r247_8 : List AInstr :=
 [⟨(some 47), none, .load false 1 (.t 4)⟩, ⟨(some 48), none, .mv (.t 6)⟩, ⟨(some 49), none, .len .s (.t 48)⟩, ⟨(some 50), none, .bin .add (.t 47) (.t 49)⟩, ⟨(some 51), none, .load false 1 (.t 1)⟩, ⟨(some 52), none, .mv (.t 6)⟩, ⟨(some 53), none, .len .s (.t 52)⟩, ⟨(some 54), none, .bin .sub (.t 51) (.t 53)⟩, ⟨none, none, .store 1 (.t 4) (.t 50)⟩, ⟨none, none, .store 1 (.t 1) (.t 54)⟩]
abbrev l247_9 : ACode :=
 .seq (.seq (.rg r247_0) (.cond (.t 11) (.skip) (.exit 0))) (.block 1 (.seq (.rg r247_1) (.seq (.seq (.rg r247_2) (.cond (.t 28) (.rg r247_3) (.skip))) (.seq (.seq (.rg r247_4) (.cond (.t 30) (.seq (.rg r247_5) (.ret)) (.skip))) (.seq (.rg r247_6) (.seq (.seq (.rg r247_7) (.cond (.t 46) (.ret) (.skip))) (.qrg r247_8 [[], [], [1], [0, 2], [], [], [5], [4, 6], [3, 0, 1, 2, 3], [7, 8, 0, 1, 2, 3, 4, 5, 6, 7, 8]])))))))
abbrev c247 : ACode :=
 .block 0 (.loop l247_9)
abbrev a247 : AFunc := { np := 5, nt := 55, res := [], body := c247 }
abbrev r248_0 : List AInstr :=
 [⟨(some 4), none, .box 5 (.t 1)⟩, ⟨(some 6), none, .mv (.c (.str []))⟩, ⟨(some 7), none, .mv (.c (.int .i64 0))⟩, ⟨(some 8), none, .mv (.c (.vs [] .ex))⟩, ⟨(some 9), none, .mv (.c (.int .i64 0))⟩]
abbrev r248_1 : List AInstr :=
 [⟨(some 12), none, .mv (.t 0)⟩, ⟨(some 13), none, .load true 5 (.t 4)⟩, ⟨(some 14), none, .call 269 [(.t 12), (.t 13)]⟩, ⟨(some 10), none, .mv (.t 14)⟩]
abbrev r248_2 : List AInstr :=
 [⟨(some 15), none, .mv (.t 10)⟩, ⟨(some 16), none, .bin .neq (.t 15) (.c (.int .i64 0))⟩]
abbrev r248_3 : List AInstr :=
 [⟨(some 17), none, .mv (.t 10)⟩, ⟨(some 6), none, .mv (.c (.str []))⟩, ⟨(some 7), none, .mv (.c (.int .i64 0))⟩, ⟨(some 8), none, .mv (.c (.vs [] .ex))⟩, ⟨(some 9), none, .mv (.t 17)⟩]
abbrev r248_4 : List AInstr :=
 [⟨(some 18), none, .mv (.t 2)⟩, ⟨(some 19), none, .bin .lss (.t 18) (.c (.int .i64 0))⟩, ⟨(some 20), none, .mv (.t 19)⟩, ⟨(some 21), (some (20, false)), .mv (.t 2)⟩, ⟨(some 22), (some (20, false)), .fld 2 (.t 4)⟩, ⟨(some 23), (some (20, false)), .fld 0 (.t 22)⟩, ⟨(some 24), (some (20, false)), .load false 1 (.t 23)⟩, ⟨(some 25), (some (20, false)), .bin .geq (.t 21) (.t 24)⟩, ⟨(some 26), none, .pick (.t 20) (.c (.bool true)) (.t 25)⟩]
abbrev r248_5 : List AInstr :=
 [⟨(some 6), none, .mv (.c (.str []))⟩, ⟨(some 7), none, .mv (.c (.int .i64 0))⟩, ⟨(some 8), none, .mv (.c (.vs [] .ex))⟩, ⟨(some 9), none, .mv (.c (.int .i64 3))⟩]
abbrev r248_6 : List AInstr :=
 [⟨(some 28), none, .mv (.t 0)⟩, ⟨(some 29), none, .load true 5 (.t 4)⟩, ⟨(some 30), none, .mv (.t 2)⟩, ⟨(some 31), none, .call 270 [(.t 28), (.t 29), (.t 30), (.c (.fn 271 [])), (.c (.fn 272 []))]⟩, ⟨(some 27), none, .mv (.t 31)⟩, ⟨(some 32), none, .ext (.t 27) 0⟩, ⟨(some 33), none, .ext (.t 27) 1⟩, ⟨(some 11), none, .alloc [.str [], .int .i64 0, .vs [] .ex]⟩, ⟨none, none, .store 3 (.t 11) (.t 32)⟩, ⟨(some 9), none, .mv (.t 33)⟩]
abbrev r248_7 : List AInstr :=
 [⟨(some 34), none, .fld 0 (.t 11)⟩, ⟨(some 35), none, .load false 1 (.t 34)⟩, ⟨(some 36), none, .fld 1 (.t 11)⟩, ⟨(some 37), none, .load false 1 (.t 36)⟩, ⟨(some 38), none, .fld 2 (.t 11)⟩, ⟨(some 39), none, .load false 1 (.t 38)⟩, ⟨(some 40), none, .mv (.t 9)⟩, ⟨(some 6), none, .mv (.t 35)⟩, ⟨(some 7), none, .mv (.t 37)⟩, ⟨(some 8), none, .mv (.t 39)⟩, ⟨(some 9), none, .mv (.t 40)⟩]
abbrev c248 : ACode :=
 .seq (.rg r248_0) (.seq (.seq (.rg r248_1) (.seq (.rg r248_2) (.cond (.t 16) (.seq (.rg r248_3) (.ret)) (.skip)))) (.seq (.seq (.rg r248_4) (.cond (.t 26) (.seq (.rg r248_5) (.ret)) (.skip))) (.seq (.rg r248_6) (.seq (.rg r248_7) (.ret)))))
abbrev a248 : AFunc := { np := 3, nt := 41, res := [.tmp 6, .tmp 7, .tmp 8, .tmp 9], body := c248 }
abbrev r249_0 : List AInstr :=
 [⟨(some 2), none, .mv (.c (.int .i64 0))⟩, ⟨(some 3), none, .mv (.c (.int .i64 0))⟩]
abbrev r249_1 : List AInstr :=
 [⟨(some 7), none, .mv (.t 0)⟩, ⟨(some 8), none, .call 264 [(.t 7)]⟩, ⟨(some 4), none, .mv (.t 8)⟩]
abbrev r249_2 : List AInstr :=
 [⟨(some 9), none, .mv (.t 4)⟩, ⟨(some 10), none, .bin .neq (.t 9) (.c (.int .i64 0))⟩]
abbrev r249_3 : List AInstr :=
 [⟨(some 11), none, .mv (.t 4)⟩, ⟨(some 2), none, .mv (.c (.int .i64 0))⟩, ⟨(some 3), none, .mv (.t 11)⟩]
abbrev r249_4 : List AInstr :=
 [⟨(some 13), none, .mv (.t 0)⟩, ⟨(some 14), none, .call 273 [(.t 13)]⟩, ⟨(some 12), none, .mv (.t 14)⟩, ⟨(some 15), none, .ext (.t 12) 0⟩, ⟨(some 16), none, .ext (.t 12) 1⟩, ⟨(some 5), none, .mv (.t 15)⟩, ⟨(some 6), none, .mv (.t 16)⟩]
abbrev r249_5 : List AInstr :=
 [⟨(some 17), none, .mv (.t 5)⟩, ⟨(some 2), none, .mv (.t 17)⟩, ⟨(some 3), none, .mv (.c (.int .i64 0))⟩]
abbrev c249 : ACode :=
 .seq (.rg r249_0) (.seq (.seq (.rg r249_1) (.seq (.rg r249_2) (.cond (.t 10) (.seq (.rg r249_3) (.ret)) (.skip)))) (.seq (.rg r249_4) (.seq (.rg r249_5) (.ret))))
abbrev a249 : AFunc := { np := 1, nt := 18, res := [.tmp 2, .tmp 3], body := c249 }
abbrev r250_0 : List AInstr :=
 [⟨(some 2), none, .mv (.c (.int .u64 0))⟩, ⟨(some 3), none, .mv (.c (.int .i64 0))⟩]
abbrev r250_1 : List AInstr :=
 [⟨(some 7), none, .mv (.t 0)⟩, ⟨(some 8), none, .call 264 [(.t 7)]⟩, ⟨(some 4), none, .mv (.t 8)⟩]
abbrev r250_2 : List AInstr :=
 [⟨(some 9), none, .mv (.t 4)⟩, ⟨(some 10), none, .bin .neq (.t 9) (.c (.int .i64 0))⟩]
abbrev r250_3 : List AInstr :=
 [⟨(some 11), none, .mv (.t 4)⟩, ⟨(some 2), none, .mv (.c (.int .u64 0))⟩, ⟨(some 3), none, .mv (.t 11)⟩]
abbrev r250_4 : List AInstr :=
 [⟨(some 13), none, .mv (.t 0)⟩, ⟨(some 14), none, .call 273 [(.t 13)]⟩, ⟨(some 12), none, .mv (.t 14)⟩, ⟨(some 15), none, .ext (.t 12) 0⟩, ⟨(some 16), none, .ext (.t 12) 1⟩, ⟨(some 5), none, .mv (.t 15)⟩, ⟨(some 6), none, .mv (.t 16)⟩]
abbrev r250_5 : List AInstr :=
 [⟨(some 17), none, .mv (.t 6)⟩, ⟨(some 2), none, .mv (.t 17)⟩, ⟨(some 3), none, .mv (.c (.int .i64 0))⟩]
abbrev c250 : ACode :=
 .seq (.rg r250_0) (.seq (.seq (.rg r250_1) (.seq (.rg r250_2) (.cond (.t 10) (.seq (.rg r250_3) (.ret)) (.skip)))) (.seq (.rg r250_4) (.seq (.rg r250_5) (.ret))))
abbrev a250 : AFunc := { np := 1, nt := 18, res := [.tmp 2, .tmp 3], body := c250 }
abbrev r269_0 : List AInstr :=
 [⟨(some 3), none, .box 5 (.t 1)⟩, ⟨(some 4), none, .mv (.c (.int .i64 0))⟩]
abbrev r269_1 : List AInstr :=
 [⟨(some 8), none, .mv (.t 0)⟩, ⟨(some 9), none, .eqv .ptr false (.t 8) (.c (.nilp))⟩]
abbrev r269_2 : List AInstr :=
 [⟨(some 4), none, .mv (.c (.int .i64 1))⟩]
abbrev r269_3 : List AInstr :=
 [⟨(some 10), none, .load true 5 (.t 3)⟩, ⟨(some 11), none, .build [.int .u64 0, .int .i64 0, .int .i64 0, .int .i64 0, .int .i64 0] []⟩, ⟨(some 12), none, .eqagg false [.i, .i, .i, .i, .i] (.t 10) (.t 11)⟩]
abbrev r269_4 : List AInstr :=
 [⟨(some 4), none, .mv (.c (.int .i64 0))⟩]
abbrev r269_5 : List AInstr :=
 [⟨(some 13), none, .fld 0 (.t 3)⟩, ⟨(some 14), none, .load false 1 (.t 13)⟩, ⟨(some 15), none, .bin .eql (.t 14) (.c (.int .u64 0))⟩]
abbrev r269_6 : List AInstr :=
 [⟨(some 4), none, .mv (.c (.int .i64 2))⟩]
abbrev r269_7 : List AInstr :=
 [⟨(some 17), none, .mv (.t 0)⟩, ⟨(some 18), none, .fld 0 (.t 3)⟩, ⟨(some 19), none, .load false 1 (.t 18)⟩, ⟨(some 20), none, .call 173 [(.t 17), (.t 19)]⟩, ⟨(some 16), none, .mv (.t 20)⟩, ⟨(some 21), none, .ext (.t 16) 0⟩, ⟨(some 22), none, .ext (.t 16) 1⟩, ⟨(some 5), none, .alloc [.int .i64 0, .str [], .vs [] .ex]⟩, ⟨none, none, .store 3 (.t 5) (.t 21)⟩, ⟨(some 6), none, .mv (.t 22)⟩]
abbrev r269_8 : List AInstr :=
 [⟨(some 23), none, .mv (.t 6)⟩, ⟨(some 24), none, .bin .neq (.t 23) (.c (.int .i64 0))⟩]
abbrev r269_9 : List AInstr :=
 [⟨(some 25), none, .mv (.t 6)⟩, ⟨(some 4), none, .mv (.t 25)⟩]
abbrev r269_10 : List AInstr :=
 [⟨(some 27), none, .load true 3 (.t 5)⟩, ⟨(some 28), none, .call 177 [(.t 27)]⟩, ⟨(some 26), none, .mv (.t 28)⟩, ⟨(some 29), none, .ext (.t 26) 0⟩, ⟨(some 30), none, .ext (.t 26) 1⟩, ⟨(some 7), none, .alloc [.int .i64 0, .int .i64 0, .int .i64 0]⟩, ⟨none, none, .store 3 (.t 7) (.t 29)⟩, ⟨(some 6), none, .mv (.t 30)⟩]
abbrev r269_11 : List AInstr :=
 [⟨(some 31), none, .mv (.t 6)⟩, ⟨(some 32), none, .bin .neq (.t 31) (.c (.int .i64 0))⟩, ⟨(some 33), none, .mv (.t 32)⟩, ⟨(some 34), (some (33, false)), .fld 0 (.t 5)⟩, ⟨(some 35), (some (33, false)), .load false 1 (.t 34)⟩, ⟨(some 36), (some (33, false)), .fld 1 (.t 3)⟩, ⟨(some 37), (some (33, false)), .load false 1 (.t 36)⟩, ⟨(some 38), (some (33, false)), .bin .neq (.t 35) (.t 37)⟩, ⟨(some 39), none, .pick (.t 33) (.c (.bool true)) (.t 38)⟩, ⟨(some 40), none, .mv (.t 39)⟩, ⟨(some 41), (some (40, false)), .load true 3 (.t 7)⟩, ⟨(some 42), (some (40, false)), .fld 2 (.t 3)⟩, ⟨(some 43), (some (40, false)), .load true 3 (.t 42)⟩, ⟨(some 44), (some (40, false)), .eqagg true [.i, .i, .i] (.t 41) (.t 43)⟩, ⟨(some 45), none, .pick (.t 40) (.c (.bool true)) (.t 44)⟩]
abbrev r269_12 : List AInstr :=
 [⟨(some 4), none, .mv (.c (.int .i64 23))⟩]
abbrev r269_13 : List AInstr :=
 [⟨(some 4), none, .mv (.c (.int .i64 0))⟩]
abbrev c269 : ACode :=
 .seq (.rg r269_0) (.seq (.seq (.rg r269_1) (.cond (.t 9) (.seq (.rg r269_2) (.ret)) (.skip))) (.seq (.seq (.rg r269_3) (.cond (.t 12) (.seq (.rg r269_4) (.ret)) (.skip))) (.seq (.seq (.rg r269_5) (.cond (.t 15) (.seq (.rg r269_6) (.ret)) (.skip))) (.seq (.rg r269_7) (.seq (.seq (.rg r269_8) (.cond (.t 24) (.seq (.rg r269_9) (.ret)) (.skip))) (.seq (.rg r269_10) (.seq (.seq (.rg r269_11) (.cond (.t 45) (.seq (.rg r269_12) (.ret)) (.skip))) (.seq (.rg r269_13) (.ret)))))))))
abbrev a269 : AFunc := { np := 2, nt := 46, res := [.tmp 4], body := c269 }
abbrev r270_0 : List AInstr :=
 [⟨(some 6), none, .box 5 (.t 1)⟩, ⟨(some 10), none, .alloc [.str [], .int .i64 0, .vs [] .ex]⟩, ⟨(some 11), none, .mv (.c (.int .i64 0))⟩]
abbrev r270_1 : List AInstr :=
 [⟨(some 20), none, .mv (.t 2)⟩, ⟨(some 21), none, .build [.str [], .int .i64 0, .vs [] .ex] [(1, 1, (.t 20))]⟩, ⟨(some 12), none, .alloc [.str [], .int .i64 0, .vs [] .ex]⟩, ⟨none, none, .store 3 (.t 12) (.t 21)⟩]
abbrev r270_2 : List AInstr :=
 [⟨(some 22), none, .fld 0 (.t 6)⟩, ⟨(some 23), none, .load false 1 (.t 22)⟩, ⟨(some 13), none, .mv (.t 23)⟩]
abbrev r270_3 : List AInstr :=
 [⟨(some 25), none, .mv (.t 0)⟩, ⟨(some 26), none, .mv (.t 13)⟩, ⟨(some 27), none, .call 173 [(.t 25), (.t 26)]⟩, ⟨(some 24), none, .mv (.t 27)⟩, ⟨(some 28), none, .ext (.t 24) 0⟩, ⟨(some 29), none, .ext (.t 24) 1⟩, ⟨(some 14), none, .alloc [.int .i64 0, .str [], .vs [] .ex]⟩, ⟨none, none, .store 3 (.t 14) (.t 28)⟩, ⟨(some 15), none, .mv (.t 29)⟩]
abbrev r270_4 : List AInstr :=
 [⟨(some 30), none, .mv (.t 15)⟩, ⟨(some 31), none, .bin .neq (.t 30) (.c (.int .i64 0))⟩]
abbrev r270_5 : List AInstr :=
 [⟨(some 32), none, .build [.str [], .int .i64 0, .vs [] .ex] []⟩, ⟨(some 33), none, .mv (.t 15)⟩, ⟨none, none, .store 3 (.t 10) (.t 32)⟩, ⟨(some 11), none, .mv (.t 33)⟩]
abbrev r270_6 : List AInstr :=
 [⟨(some 34), none, .fld 2 (.t 12)⟩, ⟨(some 35), none, .load false 1 (.t 34)⟩, ⟨(some 36), none, .mv (.t 13)⟩, ⟨(some 37), none, .lit 1 [(.t 36)]⟩, ⟨(some 38), none, .app false 1 8 (.t 35) (.t 37)⟩, ⟨(some 39), none, .fld 2 (.t 12)⟩, ⟨none, none, .store 1 (.t 39) (.t 38)⟩]
abbrev r270_7 : List AInstr :=
 [⟨(some 40), none, .fld 0 (.t 14)⟩, ⟨(some 41), none, .load false 1 (.t 40)⟩, ⟨(some 42), none, .bin .eql (.t 41) (.c (.int .i64 0))⟩]
abbrev r270_8 : List AInstr :=
 [⟨(some 43), none, .fld 1 (.t 14)⟩, ⟨(some 44), none, .load false 1 (.t 43)⟩, ⟨(some 45), none, .fld 0 (.t 12)⟩, ⟨none, none, .store 1 (.t 45) (.t 44)⟩]
abbrev r270_9 : List AInstr :=
 [⟨(some 46), none, .load true 3 (.t 12)⟩, ⟨none, none, .store 3 (.t 10) (.t 46)⟩, ⟨(some 11), none, .mv (.c (.int .i64 0))⟩]
abbrev r270_10 : List AInstr :=
 [⟨(some 48), none, .mv (.t 3)⟩, ⟨(some 49), none, .load true 3 (.t 14)⟩, ⟨(some 50), none, .fld 1 (.t 12)⟩, ⟨(some 51), none, .load false 1 (.t 50)⟩, ⟨(some 52), none, .callv (.t 48) [(.t 49), (.t 51)]⟩, ⟨(some 47), none, .mv (.t 52)⟩, ⟨(some 53), none, .ext (.t 47) 0⟩, ⟨(some 54), none, .ext (.t 47) 1⟩, ⟨(some 55), none, .ext (.t 47) 2⟩, ⟨(some 16), none, .mv (.t 53)⟩, ⟨(some 17), none, .mv (.t 54)⟩, ⟨(some 15), none, .mv (.t 55)⟩]
abbrev r270_11 : List AInstr :=
 [⟨(some 56), none, .mv (.t 15)⟩, ⟨(some 57), none, .bin .neq (.t 56) (.c (.int .i64 0))⟩]
abbrev r270_12 : List AInstr :=
 [⟨(some 58), none, .build [.str [], .int .i64 0, .vs [] .ex] []⟩, ⟨(some 59), none, .mv (.t 15)⟩, ⟨none, none, .store 3 (.t 10) (.t 58)⟩, ⟨(some 11), none, .mv (.t 59)⟩]
abbrev r270_13 : List AInstr :=
 [⟨(some 60), none, .fld 2 (.t 14)⟩, ⟨(some 61), none, .load false 1 (.t 60)⟩, ⟨(some 62), none, .mv (.t 16)⟩, ⟨(some 63), none, .slice 4 (.t 61) none (some (.t 62)) none⟩, ⟨(some 64), none, .len .l (.t 63)⟩, ⟨(some 65), none, .mv (.c (.int .i64 0))⟩]
abbrev r270_14 : List AInstr :=
 [⟨(some 66), none, .bin .lss (.t 65) (.t 64)⟩]
abbrev r270_15 : List AInstr :=
 [⟨(some 67), none, .idxA 4 (.t 63) (.t 65)⟩, ⟨(some 68), none, .load true 4 (.t 67)⟩, ⟨(some 19), none, .alloc [.int .u64 0, .int .i64 0, .int .i64 0, .int .i64 0]⟩, ⟨none, none, .store 4 (.t 19) (.t 68)⟩]
abbrev r270_16 : List AInstr :=
 [⟨(some 69), none, .mv (.t 4)⟩, ⟨(some 70), none, .fld 1 (.t 19)⟩, ⟨(some 71), none, .load true 3 (.t 70)⟩, ⟨(some 72), none, .callv (.t 69) [(.t 71)]⟩]
abbrev r270_17 : List AInstr :=
 [⟨(some 73), none, .bin .add (.t 65) (.c (.int .i64 1))⟩, ⟨(some 65), none, .mv (.t 73)⟩]
abbrev l270_18 : ACode :=
 .seq (.rg r270_14) (.seq (.cond (.t 66) (.skip) (.exit 2)) (.seq (.block 3 (.seq (.rg r270_15) (.rg r270_16))) (.rg r270_17)))
abbrev r270_18 : List AInstr :=
 [⟨(some 74), none, .mv (.t 17)⟩, ⟨(some 75), none, .fld 2 (.t 14)⟩, ⟨(some 76), none, .load false 1 (.t 75)⟩, ⟨(some 77), none, .mv (.t 16)⟩, ⟨(some 78), none, .idxA 4 (.t 76) (.t 77)⟩, ⟨(some 79), none, .fld 0 (.t 78)⟩, ⟨(some 80), none, .load false 1 (.t 79)⟩, ⟨(some 81), none, .fld 1 (.t 12)⟩, ⟨none, none, .store 1 (.t 81) (.t 74)⟩, ⟨(some 13), none, .mv (.t 80)⟩]
abbrev l270_20 : ACode :=
 .block 1 (.seq (.rg r270_3) (.seq (.seq (.rg r270_4) (.cond (.t 31) (.seq (.rg r270_5) (.ret)) (.skip))) (.seq (.rg r270_6) (.seq (.seq (.rg r270_7) (.cond (.t 42) (.seq (.rg r270_8) (.seq (.rg r270_9) (.ret))) (.skip))) (.seq (.rg r270_10) (.seq (.seq (.rg r270_11) (.cond (.t 57) (.seq (.rg r270_12) (.ret)) (.skip))) (.seq (.seq (.rg r270_13) (.block 2 (.loop l270_18))) (.qrg r270_18 [[], [], [1], [], [2, 3], [4], [5], [0], [7, 0, 0], [6, 8, 0, 1, 2, 3, 4, 5, 6, 7, 8]]))))))))
abbrev c270 : ACode :=
 .seq (.rg r270_0) (.seq (.rg r270_1) (.seq (.rg r270_2) (.block 0 (.loop l270_20))))
abbrev a270 : AFunc := { np := 5, nt := 82, res := [.cell 10 true 3, .tmp 11], body := c270 }
abbrev r271_0 : List AInstr :=
 [⟨(some 2), none, .box 3 (.t 0)⟩, ⟨(some 4), none, .mv (.c (.int .i64 0))⟩, ⟨(some 5), none, .mv (.c (.int .i64 0))⟩, ⟨(some 6), none, .mv (.c (.int .i64 0))⟩]
abbrev r271_1 : List AInstr :=
 [⟨(some 7), none, .load true 3 (.t 2)⟩, ⟨(some 8), none, .mv (.t 1)⟩, ⟨(some 9), none, .call 283 [(.t 7), (.t 8), (.c (.fn 284 []))]⟩, ⟨(some 10), none, .ext (.t 9) 0⟩, ⟨(some 11), none, .ext (.t 9) 1⟩, ⟨(some 12), none, .ext (.t 9) 2⟩, ⟨(some 4), none, .mv (.t 10)⟩, ⟨(some 5), none, .mv (.t 11)⟩, ⟨(some 6), none, .mv (.t 12)⟩]
abbrev c271 : ACode :=
 .seq (.rg r271_0) (.seq (.rg r271_1) (.ret))
abbrev a271 : AFunc := { np := 2, nt := 13, res := [.tmp 4, .tmp 5, .tmp 6], body := c271 }
abbrev r272_0 : List AInstr :=
 [⟨(some 1), none, .box 3 (.t 0)⟩]
abbrev c272 : ACode :=
 .rg r272_0
abbrev a272 : AFunc := { np := 1, nt := 2, res := [], body := c272 }
abbrev r283_0 : List AInstr :=
 [⟨(some 3), none, .box 3 (.t 0)⟩, ⟨(some 6), none, .mv (.c (.int .i64 0))⟩, ⟨(some 7), none, .mv (.c (.int .i64 0))⟩, ⟨(some 8), none, .mv (.c (.int .i64 0))⟩]
abbrev r283_1 : List AInstr :=
 [⟨(some 12), none, .load true 3 (.t 3)⟩, ⟨(some 13), none, .call 189 [(.t 12)]⟩, ⟨(some 9), none, .mv (.t 13)⟩]
abbrev r283_2 : List AInstr :=
 [⟨(some 14), none, .mv (.t 9)⟩, ⟨(some 15), none, .bin .neq (.t 14) (.c (.int .i64 0))⟩]
abbrev r283_3 : List AInstr :=
 [⟨(some 16), none, .mv (.t 9)⟩, ⟨(some 6), none, .mv (.c (.int .i64 0))⟩, ⟨(some 7), none, .mv (.c (.int .i64 0))⟩, ⟨(some 8), none, .mv (.t 16)⟩]
abbrev r283_4 : List AInstr :=
 [⟨(some 17), none, .fld 0 (.t 3)⟩, ⟨(some 18), none, .load false 1 (.t 17)⟩, ⟨(some 19), none, .bin .eql (.t 18) (.c (.int .i64 0))⟩]
abbrev r283_5 : List AInstr :=
 [⟨(some 6), none, .mv (.c (.int .i64 0))⟩, ⟨(some 7), none, .mv (.c (.int .i64 0))⟩, ⟨(some 8), none, .mv (.c (.int .i64 8))⟩]
abbrev r283_6 : List AInstr :=
 [⟨(some 20), none, .mv (.t 1)⟩, ⟨(some 21), none, .bin .lss (.t 20) (.c (.int .i64 0))⟩]
abbrev r283_7 : List AInstr :=
 [⟨(some 6), none, .mv (.c (.int .i64 0))⟩, ⟨(some 7), none, .mv (.c (.int .i64 0))⟩, ⟨(some 8), none, .mv (.c (.int .i64 3))⟩]
abbrev r283_8 : List AInstr :=
 [⟨(some 22), none, .fld 2 (.t 3)⟩, ⟨(some 23), none, .load false 1 (.t 22)⟩, ⟨(some 24), none, .len .l (.t 23)⟩, ⟨(some 25), none, .mv (.c (.int .i64 0))⟩]
abbrev r283_9 : List AInstr :=
 [⟨(some 26), none, .bin .lss (.t 25) (.t 24)⟩]
abbrev r283_10 : List AInstr :=
 [⟨(some 27), none, .mv (.t 25)⟩, ⟨(some 28), none, .idxA 4 (.t 23) (.t 25)⟩, ⟨(some 29), none, .load true 4 (.t 28)⟩, ⟨(some 11), none, .alloc [.int .u64 0, .int .i64 0, .int .i64 0, .int .i64 0]⟩, ⟨(some 10), none, .mv (.t 27)⟩, ⟨none, none, .store 4 (.t 11) (.t 29)⟩]
abbrev r283_11 : List AInstr :=
 [⟨(some 30), none, .mv (.t 1)⟩, ⟨(some 31), none, .mv (.t 2)⟩, ⟨(some 32), none, .fld 1 (.t 11)⟩, ⟨(some 33), none, .load true 3 (.t 32)⟩, ⟨(some 34), none, .callv (.t 31) [(.t 33)]⟩, ⟨(some 35), none, .bin .lss (.t 30) (.t 34)⟩]
abbrev r283_12 : List AInstr :=
 [⟨(some 36), none, .mv (.t 10)⟩, ⟨(some 37), none, .mv (.t 1)⟩, ⟨(some 6), none, .mv (.t 36)⟩, ⟨(some 7), none, .mv (.t 37)⟩, ⟨(some 8), none, .mv (.c (.int .i64 0))⟩]
abbrev r283_13 : List AInstr :=
 [⟨(some 38), none, .mv (.t 1)⟩, ⟨(some 39), none, .mv (.t 2)⟩, ⟨(some 40), none, .fld 1 (.t 11)⟩, ⟨(some 41), none, .load true 3 (.t 40)⟩, ⟨(some 42), none, .callv (.t 39) [(.t 41)]⟩, ⟨(some 43), none, .bin .sub (.t 38) (.t 42)⟩, ⟨(some 1), none, .mv (.t 43)⟩]
abbrev r283_14 : List AInstr :=
 [⟨(some 44), none, .bin .add (.t 25) (.c (.int .i64 1))⟩, ⟨(some 25), none, .mv (.t 44)⟩]
abbrev l283_15 : ACode :=
 .seq (.rg r283_9) (.seq (.cond (.t 26) (.skip) (.exit 0)) (.seq (.block 1 (.seq (.rg r283_10) (.seq (.seq (.rg r283_11) (.cond (.t 35) (.seq (.rg r283_12) (.ret)) (.skip))) (.rg r283_13)))) (.rg r283_14)))
abbrev r283_15 : List AInstr :=
 [⟨(some 6), none, .mv (.c (.int .i64 0))⟩, ⟨(some 7), none, .mv (.c (.int .i64 0))⟩, ⟨(some 8), none, .mv (.c (.int .i64 3))⟩]
abbrev c283 : ACode :=
 .seq (.rg r283_0) (.seq (.seq (.rg r283_1) (.seq (.rg r283_2) (.cond (.t 15) (.seq (.rg r283_3) (.ret)) (.skip)))) (.seq (.seq (.rg r283_4) (.cond (.t 19) (.seq (.rg r283_5) (.ret)) (.skip))) (.seq (.seq (.rg r283_6) (.cond (.t 21) (.seq (.rg r283_7) (.ret)) (.skip))) (.seq (.seq (.rg r283_8) (.block 0 (.loop l283_15))) (.seq (.rg r283_15) (.ret))))))
abbrev a283 : AFunc := { np := 3, nt := 45, res := [.tmp 6, .tmp 7, .tmp 8], body := c283 }
abbrev r284_0 : List AInstr :=
 [⟨(some 1), none, .box 3 (.t 0)⟩, ⟨(some 2), none, .mv (.c (.int .i64 0))⟩]
abbrev r284_1 : List AInstr :=
 [⟨(some 3), none, .fld 0 (.t 1)⟩, ⟨(some 4), none, .load false 1 (.t 3)⟩, ⟨(some 2), none, .mv (.t 4)⟩]
abbrev c284 : ACode :=
 .seq (.rg r284_0) (.seq (.rg r284_1) (.ret))
abbrev a284 : AFunc := { np := 1, nt := 5, res := [.tmp 2], body := c284 }
theorem ok6 : FOk Tryz.prog 6 a6 := fk Tryz.func6
theorem ok34 : FOk Tryz.prog 34 a34 := fk Tryz.func34
theorem ok36 : FOk Tryz.prog 36 a36 := fk Tryz.func36
theorem ok37 : FOk Tryz.prog 37 a37 := fk Tryz.func37
theorem ok38 : FOk Tryz.prog 38 a38 := fk Tryz.func38
theorem ok82 : FOk Tryz.prog 82 a82 := fk Tryz.func82
theorem ok84 : FOk Tryz.prog 84 a84 := fk Tryz.func84
theorem ok86 : FOk Tryz.prog 86 a86 := fk Tryz.func86
theorem ok87 : FOk Tryz.prog 87 a87 := fk Tryz.func87
theorem ok89 : FOk Tryz.prog 89 a89 := fk Tryz.func89
theorem ok90 : FOk Tryz.prog 90 a90 := fk Tryz.func90
theorem ok157 : FOk Tryz.prog 157 a157 := fk Tryz.func157
theorem ok158 : FOk Tryz.prog 158 a158 := fk Tryz.func158
theorem ok159 : FOk Tryz.prog 159 a159 := fk Tryz.func159
theorem ok160 : FOk Tryz.prog 160 a160 := fk Tryz.func160
theorem ok163 : FOk Tryz.prog 163 a163 := fk Tryz.func163
theorem ok164 : FOk Tryz.prog 164 a164 := fk Tryz.func164
theorem ok214 : FOk Tryz.prog 214 a214 := fk Tryz.func214
theorem ok215 : FOk Tryz.prog 215 a215 := fk Tryz.func215
theorem ok217 : FOk Tryz.prog 217 a217 := fk Tryz.func217
theorem ok247 : FOk Tryz.prog 247 a247 := fk Tryz.func247
theorem ok248 : FOk Tryz.prog 248 a248 := fk Tryz.func248
theorem ok249 : FOk Tryz.prog 249 a249 := fk Tryz.func249
theorem ok250 : FOk Tryz.prog 250 a250 := fk Tryz.func250
theorem ok269 : FOk Tryz.prog 269 a269 := fk Tryz.func269
theorem ok270 : FOk Tryz.prog 270 a270 := fk Tryz.func270
theorem ok271 : FOk Tryz.prog 271 a271 := fk Tryz.func271
theorem ok272 : FOk Tryz.prog 272 a272 := fk Tryz.func272
theorem ok283 : FOk Tryz.prog 283 a283 := fk Tryz.func283
theorem ok284 : FOk Tryz.prog 284 a284 := fk Tryz.func284
end Go.Proofs.YtekhblefchceaaaGreat.AM

