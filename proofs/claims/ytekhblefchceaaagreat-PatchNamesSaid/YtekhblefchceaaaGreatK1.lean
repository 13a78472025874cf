/- The abstract code of functions, printed by a program (tools/gen.py). -/
import Derived.Test.YtekhblefchceaaaGreatMC
import Derived.Test.YtekhblefchceaaaGreatProg
set_option linter.unusedVariables false
set_option linter.unusedSimpArgs false
namespace Go.Proofs.YtekhblefchceaaaGreat.AM
open Go Go.Proofs
/- quartolaw20.PatchFinds -/
def r3_0 : List AInstr :=
  [⟨(some 8), none, .mv (.c (.bool false))⟩]
def r3_1 : List AInstr :=
  [⟨(some 23), none, .mv (.t 0)⟩, ⟨(some 24), none, .mv (.t 1)⟩, ⟨(some 25), none, .call 7 [(.t 23), (.t 24)]⟩]
def r3_2 : List AInstr :=
  [⟨(some 26), none, .call 8 []⟩, ⟨(some 8), none, .mv (.t 26)⟩]
def r3_3 : List AInstr :=
  [⟨(some 28), none, .mv (.t 0)⟩, ⟨(some 29), none, .mv (.t 1)⟩, ⟨(some 30), none, .call 9 [(.t 28), (.t 29)]⟩, ⟨(some 27), none, .mv (.t 30)⟩, ⟨(some 31), none, .ext (.t 27) 0⟩, ⟨(some 32), none, .ext (.t 27) 1⟩, ⟨(some 33), none, .ext (.t 27) 2⟩, ⟨(some 34), none, .ext (.t 27) 3⟩, ⟨(some 9), none, .mv (.t 31)⟩, ⟨(some 10), none, .mv (.t 32)⟩, ⟨(some 11), none, .mv (.t 33)⟩, ⟨(some 12), none, .mv (.t 34)⟩]
def r3_4 : List AInstr :=
  [⟨(some 35), none, .mv (.t 12)⟩, ⟨(some 36), none, .not (.t 35)⟩]
def r3_5 : List AInstr :=
  [⟨(some 8), none, .mv (.c (.bool false))⟩]
def r3_6 : List AInstr :=
  [⟨(some 37), none, .mv (.t 10)⟩, ⟨(some 38), none, .len .l (.t 37)⟩, ⟨(some 39), none, .bin .eql (.t 38) (.c (.int .i64 0))⟩]
def r3_7 : List AInstr :=
  [⟨(some 40), none, .call 8 []⟩, ⟨(some 8), none, .mv (.t 40)⟩]
def r3_8 : List AInstr :=
  [⟨(some 41), none, .mv (.t 2)⟩, ⟨(some 42), none, .mv (.t 10)⟩, ⟨(some 43), none, .len .l (.t 42)⟩, ⟨(some 44), none, .bin .sub (.t 43) (.c (.int .i64 1))⟩, ⟨(some 45), none, .call 10 [(.t 41), (.t 44)]⟩, ⟨(some 46), none, .mv (.t 3)⟩, ⟨(some 47), none, .mv (.t 10)⟩, ⟨(some 48), none, .len .l (.t 47)⟩, ⟨(some 49), none, .bin .sub (.t 48) (.c (.int .i64 1))⟩, ⟨(some 50), none, .call 10 [(.t 46), (.t 49)]⟩, ⟨(some 13), none, .mv (.t 45)⟩, ⟨(some 14), none, .mv (.t 50)⟩]
def r3_9 : List AInstr :=
  [⟨(some 52), none, .mv (.t 9)⟩, ⟨(some 53), none, .mv (.t 10)⟩, ⟨(some 54), none, .mv (.t 13)⟩, ⟨(some 55), none, .idxA 5 (.t 53) (.t 54)⟩, ⟨(some 56), none, .load true 5 (.t 55)⟩, ⟨(some 57), none, .mv (.t 10)⟩, ⟨(some 58), none, .mv (.t 14)⟩, ⟨(some 59), none, .idxA 5 (.t 57) (.t 58)⟩, ⟨(some 60), none, .load true 5 (.t 59)⟩, ⟨(some 61), none, .call 11 [(.t 52), (.t 56), (.t 60)]⟩, ⟨(some 51), none, .mv (.t 61)⟩, ⟨(some 62), none, .ext (.t 51) 0⟩, ⟨(some 63), none, .ext (.t 51) 1⟩, ⟨(some 15), none, .mv (.t 62)⟩, ⟨(some 16), none, .mv (.t 63)⟩]
def r3_10 : List AInstr :=
  [⟨(some 64), none, .mv (.t 16)⟩, ⟨(some 65), none, .bin .neq (.t 64) (.c (.int .i64 0))⟩, ⟨(some 66), none, .mv (.t 65)⟩, ⟨(some 67), (some (66, false)), .mv (.t 15)⟩, ⟨(some 68), (some (66, false)), .call 12 [(.t 67)]⟩, ⟨(some 69), (some (66, false)), .bin .neq (.t 68) (.c (.int .i64 0))⟩, ⟨(some 70), none, .pick (.t 66) (.c (.bool true)) (.t 69)⟩]
def r3_11 : List AInstr :=
  [⟨(some 8), none, .mv (.c (.bool false))⟩]
def r3_12 : List AInstr :=
  [⟨(some 72), none, .mv (.t 15)⟩, ⟨(some 73), none, .call 13 [(.t 72)]⟩, ⟨(some 71), none, .mv (.t 73)⟩, ⟨(some 74), none, .ext (.t 71) 0⟩, ⟨(some 75), none, .ext (.t 71) 1⟩, ⟨(some 17), none, .mv (.t 74)⟩, ⟨(some 18), none, .mv (.t 75)⟩]
def r3_13 : List AInstr :=
  [⟨(some 77), none, .mv (.t 11)⟩, ⟨(some 78), none, .mv (.t 13)⟩, ⟨(some 79), none, .idxA 1 (.t 77) (.t 78)⟩, ⟨(some 80), none, .load false 1 (.t 79)⟩, ⟨(some 81), none, .mv (.t 15)⟩, ⟨(some 82), none, .call 14 [(.t 80), (.t 81)]⟩, ⟨(some 76), none, .mv (.t 82)⟩, ⟨(some 83), none, .ext (.t 76) 0⟩, ⟨(some 84), none, .ext (.t 76) 1⟩, ⟨(some 19), none, .mv (.t 83)⟩, ⟨(some 20), none, .mv (.t 84)⟩]
def r3_14 : List AInstr :=
  [⟨(some 85), none, .mv (.t 18)⟩, ⟨(some 86), none, .bin .neq (.t 85) (.c (.int .i64 0))⟩, ⟨(some 87), none, .mv (.t 86)⟩, ⟨(some 88), (some (87, false)), .mv (.t 20)⟩, ⟨(some 89), (some (87, false)), .bin .neq (.t 88) (.c (.int .i64 0))⟩, ⟨(some 90), none, .pick (.t 87) (.c (.bool true)) (.t 89)⟩, ⟨(some 91), none, .mv (.t 90)⟩, ⟨(some 92), (some (91, false)), .mv (.t 15)⟩, ⟨(some 93), (some (91, false)), .mv (.t 17)⟩, ⟨(some 94), (some (91, false)), .call 15 [(.t 92), (.t 93)]⟩, ⟨(some 95), (some (91, false)), .not (.t 94)⟩, ⟨(some 96), none, .pick (.t 91) (.c (.bool true)) (.t 95)⟩, ⟨(some 97), none, .mv (.t 96)⟩, ⟨(some 98), (some (97, false)), .mv (.t 19)⟩, ⟨(some 99), (some (97, false)), .mv (.t 11)⟩, ⟨(some 100), (some (97, false)), .mv (.t 14)⟩, ⟨(some 101), (some (97, false)), .idxA 1 (.t 99) (.t 100)⟩, ⟨(some 102), (some (97, false)), .load false 1 (.t 101)⟩, ⟨(some 103), (some (97, false)), .bin .neq (.t 98) (.t 102)⟩, ⟨(some 104), none, .pick (.t 97) (.c (.bool true)) (.t 103)⟩]
def r3_15 : List AInstr :=
  [⟨(some 8), none, .mv (.c (.bool false))⟩]
def r3_16 : List AInstr :=
  [⟨(some 105), none, .mv (.t 13)⟩, ⟨(some 106), none, .mv (.t 14)⟩, ⟨(some 107), none, .bin .eql (.t 105) (.t 106)⟩, ⟨(some 108), none, .mv (.t 107)⟩, ⟨(some 109), (some (108, true)), .mv (.t 15)⟩, ⟨(some 110), (some (108, true)), .len .l (.t 109)⟩, ⟨(some 111), (some (108, true)), .bin .gtr (.t 110) (.c (.int .i64 1))⟩, ⟨(some 112), (some (108, true)), .mv (.t 111)⟩, ⟨(some 113), (some (112, false)), .mv (.t 15)⟩, ⟨(some 114), (some (112, false)), .len .l (.t 113)⟩, ⟨(some 115), (some (112, false)), .bin .eql (.t 114) (.c (.int .i64 1))⟩, ⟨(some 116), (some (112, false)), .mv (.t 115)⟩, ⟨(some 117), (some (116, true)), .mv (.t 15)⟩, ⟨(some 118), (some (116, true)), .idxA 3 (.t 117) (.c (.int .i64 0))⟩, ⟨(some 119), (some (116, true)), .load true 3 (.t 118)⟩, ⟨(some 120), (some (116, true)), .mv (.t 11)⟩, ⟨(some 121), (some (116, true)), .mv (.t 13)⟩, ⟨(some 122), (some (116, true)), .idxA 1 (.t 120) (.t 121)⟩, ⟨(some 123), (some (116, true)), .load false 1 (.t 122)⟩, ⟨(some 124), (some (116, true)), .len .s (.t 123)⟩, ⟨(some 125), (some (116, true)), .call 16 [(.t 124)]⟩, ⟨(some 126), (some (116, true)), .eqagg true [.i, .i, .s] (.t 119) (.t 125)⟩, ⟨(some 127), (some (112, false)), .pick (.t 116) (.t 126) (.c (.bool false))⟩, ⟨(some 128), (some (108, true)), .pick (.t 112) (.c (.bool true)) (.t 127)⟩, ⟨(some 129), none, .pick (.t 108) (.t 128) (.c (.bool false))⟩]
def r3_17 : List AInstr :=
  [⟨(some 8), none, .mv (.c (.bool false))⟩]
def r3_18 : List AInstr :=
  [⟨(some 131), none, .mv (.t 9)⟩, ⟨(some 132), none, .mv (.t 10)⟩, ⟨(some 133), none, .mv (.t 13)⟩, ⟨(some 134), none, .idxA 5 (.t 132) (.t 133)⟩, ⟨(some 135), none, .load true 5 (.t 134)⟩, ⟨(some 136), none, .mv (.t 15)⟩, ⟨(some 137), none, .call 17 [(.t 131), (.t 135), (.t 136)]⟩, ⟨(some 130), none, .mv (.t 137)⟩, ⟨(some 138), none, .ext (.t 130) 0⟩, ⟨(some 139), none, .ext (.t 130) 1⟩, ⟨(some 21), none, .alloc [.int .u64 0, .int .i64 0, .int .i64 0, .int .i64 0, .int .i64 0, .vs [] .ex, .vs [] .ex]⟩, ⟨none, none, .store 7 (.t 21) (.t 138)⟩, ⟨(some 16), none, .mv (.t 139)⟩]
def r3_19 : List AInstr :=
  [⟨(some 140), none, .mv (.t 16)⟩, ⟨(some 141), none, .bin .eql (.t 140) (.c (.int .i64 6))⟩]
def r3_20 : List AInstr :=
  [⟨(some 142), none, .call 8 []⟩, ⟨(some 8), none, .mv (.t 142)⟩]
def r3_21 : List AInstr :=
  [⟨(some 144), none, .mv (.t 9)⟩, ⟨(some 145), none, .fld 0 (.t 21)⟩, ⟨(some 146), none, .load true 5 (.t 145)⟩, ⟨(some 147), none, .call 18 [(.t 144), (.t 146)]⟩, ⟨(some 143), none, .mv (.t 147)⟩, ⟨(some 148), none, .ext (.t 143) 0⟩, ⟨(some 149), none, .ext (.t 143) 1⟩, ⟨(some 22), none, .mv (.t 148)⟩, ⟨(some 18), none, .mv (.t 149)⟩]
def r3_22 : List AInstr :=
  [⟨(some 150), none, .mv (.t 16)⟩, ⟨(some 151), none, .bin .eql (.t 150) (.c (.int .i64 0))⟩, ⟨(some 152), none, .mv (.t 151)⟩, ⟨(some 153), (some (152, true)), .mv (.t 18)⟩, ⟨(some 154), (some (152, true)), .bin .eql (.t 153) (.c (.int .i64 0))⟩, ⟨(some 155), none, .pick (.t 152) (.t 154) (.c (.bool false))⟩, ⟨(some 156), none, .mv (.t 155)⟩, ⟨(some 157), (some (156, true)), .mv (.t 22)⟩, ⟨(some 158), (some (156, true)), .mv (.t 11)⟩, ⟨(some 159), (some (156, true)), .mv (.t 14)⟩, ⟨(some 160), (some (156, true)), .idxA 1 (.t 158) (.t 159)⟩, ⟨(some 161), (some (156, true)), .load false 1 (.t 160)⟩, ⟨(some 162), (some (156, true)), .bin .eql (.t 157) (.t 161)⟩, ⟨(some 163), none, .pick (.t 156) (.t 162) (.c (.bool false))⟩, ⟨(some 164), none, .mv (.t 163)⟩, ⟨(some 165), (some (164, true)), .call 8 []⟩, ⟨(some 166), none, .pick (.t 164) (.t 165) (.c (.bool false))⟩, ⟨(some 8), none, .mv (.t 166)⟩]
def c3 : ACode :=
  .seq (.rg r3_0) (.seq (.seq (.rg r3_1) (.cond (.t 25) (.seq (.rg r3_2) (.ret)) (.skip))) (.seq (.rg r3_3) (.seq (.seq (.rg r3_4) (.cond (.t 36) (.seq (.rg r3_5) (.ret)) (.skip))) (.seq (.seq (.rg r3_6) (.cond (.t 39) (.seq (.rg r3_7) (.ret)) (.skip))) (.seq (.rg r3_8) (.seq (.rg r3_9) (.seq (.seq (.rg r3_10) (.cond (.t 70) (.seq (.rg r3_11) (.ret)) (.skip))) (.seq (.rg r3_12) (.seq (.rg r3_13) (.seq (.seq (.rg r3_14) (.cond (.t 104) (.seq (.rg r3_15) (.ret)) (.skip))) (.seq (.seq (.qrg r3_16 [[], [], [0, 1], [2], [3], [4, 3], [5, 3], [6, 3, 3], [7], [8, 7], [9, 7], [10, 7, 7], [11], [12, 11], [13, 11], [11], [11], [15, 16, 11], [17, 11], [18, 11], [19, 11, 11], [14, 20, 11], [11, 21, 7], [7, 22, 3], [3, 23]]) (.cond (.t 129) (.seq (.rg r3_17) (.ret)) (.skip))) (.seq (.rg r3_18) (.seq (.seq (.rg r3_19) (.cond (.t 141) (.seq (.rg r3_20) (.ret)) (.skip))) (.seq (.rg r3_21) (.seq (.rg r3_22) (.ret))))))))))))))))
def a3 : AFunc := { np := 4, nt := 167, res := [.tmp 8], body := c3 }

/- quartolaw16.Beyond -/
def r7_0 : List AInstr :=
  [⟨(some 4), none, .mv (.c (.bool false))⟩]
def r7_1 : List AInstr :=
  [⟨(some 5), none, .mv (.t 0)⟩, ⟨(some 6), none, .call 39 [(.t 5)]⟩, ⟨(some 7), none, .mv (.t 6)⟩, ⟨(some 8), (some (7, false)), .mv (.t 1)⟩, ⟨(some 9), (some (7, false)), .call 40 [(.t 8)]⟩, ⟨(some 10), none, .pick (.t 7) (.c (.bool true)) (.t 9)⟩, ⟨(some 11), none, .mv (.t 10)⟩, ⟨(some 12), (some (11, false)), .mv (.t 1)⟩, ⟨(some 13), (some (11, false)), .len .l (.t 12)⟩, ⟨(some 14), (some (11, false)), .bin .gtr (.t 13) (.c (.int .i64 12))⟩, ⟨(some 15), none, .pick (.t 11) (.c (.bool true)) (.t 14)⟩, ⟨(some 4), none, .mv (.t 15)⟩]
def c7 : ACode :=
  .seq (.rg r7_0) (.seq (.rg r7_1) (.ret))
def a7 : AFunc := { np := 2, nt := 16, res := [.tmp 4], body := c7 }

/- quartolaw20.works -/
def r8_0 : List AInstr :=
  [⟨(some 0), none, .mv (.c (.bool false))⟩]
def r8_1 : List AInstr :=
  [⟨(some 9), none, .call 19 []⟩, ⟨(some 8), none, .mv (.t 9)⟩, ⟨(some 10), none, .ext (.t 8) 0⟩, ⟨(some 11), none, .ext (.t 8) 1⟩, ⟨(some 12), none, .ext (.t 8) 2⟩, ⟨(some 2), none, .alloc [.int .u64 0, .int .i64 0, .int .i64 0, .int .i64 0, .int .i64 0]⟩, ⟨(some 1), none, .mv (.t 10)⟩, ⟨none, none, .store 5 (.t 2) (.t 11)⟩, ⟨(some 3), none, .mv (.t 12)⟩]
def r8_2 : List AInstr :=
  [⟨(some 13), none, .mv (.t 3)⟩, ⟨(some 14), none, .not (.t 13)⟩]
def r8_3 : List AInstr :=
  [⟨(some 0), none, .mv (.c (.bool false))⟩]
def r8_4 : List AInstr :=
  [⟨(some 16), none, .mv (.t 1)⟩, ⟨(some 17), none, .load true 5 (.t 2)⟩, ⟨(some 18), none, .call 16 [(.c (.int .i64 9))]⟩, ⟨(some 19), none, .call 20 [(.c (.str [120, 121, 122]))]⟩, ⟨(some 20), none, .call 16 [(.c (.int .i64 8))]⟩, ⟨(some 21), none, .lit 3 [(.t 18), (.t 19), (.t 20)]⟩, ⟨(some 22), none, .call 17 [(.t 16), (.t 17), (.t 21)]⟩, ⟨(some 15), none, .mv (.t 22)⟩, ⟨(some 23), none, .ext (.t 15) 0⟩, ⟨(some 24), none, .ext (.t 15) 1⟩, ⟨(some 4), none, .alloc [.int .u64 0, .int .i64 0, .int .i64 0, .int .i64 0, .int .i64 0, .vs [] .ex, .vs [] .ex]⟩, ⟨none, none, .store 7 (.t 4) (.t 23)⟩, ⟨(some 5), none, .mv (.t 24)⟩]
def r8_5 : List AInstr :=
  [⟨(some 26), none, .mv (.t 1)⟩, ⟨(some 27), none, .load true 5 (.t 2)⟩, ⟨(some 28), none, .fld 0 (.t 4)⟩, ⟨(some 29), none, .load true 5 (.t 28)⟩, ⟨(some 30), none, .call 25 [(.t 26), (.t 27), (.t 29)]⟩, ⟨(some 25), none, .mv (.t 30)⟩, ⟨(some 31), none, .ext (.t 25) 0⟩, ⟨(some 32), none, .ext (.t 25) 1⟩, ⟨(some 6), none, .mv (.t 31)⟩, ⟨(some 7), none, .mv (.t 32)⟩]
def r8_6 : List AInstr :=
  [⟨(some 33), none, .mv (.t 5)⟩, ⟨(some 34), none, .bin .eql (.t 33) (.c (.int .i64 0))⟩, ⟨(some 35), none, .mv (.t 34)⟩, ⟨(some 36), (some (35, true)), .mv (.t 7)⟩, ⟨(some 37), (some (35, true)), .bin .eql (.t 36) (.c (.int .i64 0))⟩, ⟨(some 38), none, .pick (.t 35) (.t 37) (.c (.bool false))⟩, ⟨(some 39), none, .mv (.t 38)⟩, ⟨(some 40), (some (39, true)), .mv (.t 6)⟩, ⟨(some 41), (some (39, true)), .bin .eql (.t 40) (.c (.int .i64 4))⟩, ⟨(some 42), none, .pick (.t 39) (.t 41) (.c (.bool false))⟩, ⟨(some 0), none, .mv (.t 42)⟩]
def c8 : ACode :=
  .seq (.rg r8_0) (.seq (.rg r8_1) (.seq (.seq (.rg r8_2) (.cond (.t 14) (.seq (.rg r8_3) (.ret)) (.skip))) (.seq (.qrg r8_4 [[], [], [], [2], [3], [2, 3, 4], [0, 1, 5, 4], [6], [7], [7], [], [10, 8, 6, 0, 1, 2, 3, 4, 5, 6, 7, 8, 10], [9, 11, 0, 1, 2, 3, 4, 5, 6, 7, 8, 9, 10, 11]]) (.seq (.rg r8_5) (.seq (.rg r8_6) (.ret))))))
def a8 : AFunc := { np := 0, nt := 43, res := [.tmp 0], body := c8 }

/- quartolaw16.Make -/
def r9_0 : List AInstr :=
  [⟨(some 4), none, .mv (.c (.nilp))⟩, ⟨(some 5), none, .mv (.c (.vs [] .ex))⟩, ⟨(some 6), none, .mv (.c (.vs [] .ex))⟩, ⟨(some 7), none, .mv (.c (.bool false))⟩]
def r9_1 : List AInstr :=
  [⟨(some 20), none, .mv (.t 0)⟩, ⟨(some 21), none, .call 41 [(.t 20)]⟩, ⟨(some 19), none, .mv (.t 21)⟩, ⟨(some 22), none, .ext (.t 19) 0⟩, ⟨(some 23), none, .ext (.t 19) 1⟩, ⟨(some 24), none, .ext (.t 19) 2⟩, ⟨(some 8), none, .mv (.t 22)⟩, ⟨(some 9), none, .mv (.t 23)⟩, ⟨(some 10), none, .mv (.t 24)⟩]
def r9_2 : List AInstr :=
  [⟨(some 25), none, .mv (.t 10)⟩, ⟨(some 26), none, .not (.t 25)⟩]
def r9_3 : List AInstr :=
  [⟨(some 4), none, .mv (.c (.nilp))⟩, ⟨(some 5), none, .mv (.c (.vs [] .ex))⟩, ⟨(some 6), none, .mv (.c (.vs [] .ex))⟩, ⟨(some 7), none, .mv (.c (.bool false))⟩]
def r9_4 : List AInstr :=
  [⟨(some 27), none, .lit 1 []⟩, ⟨(some 28), none, .mv (.t 0)⟩, ⟨(some 29), none, .app false 1 16 (.t 27) (.t 28)⟩, ⟨(some 11), none, .mv (.t 29)⟩]
def r9_5 : List AInstr :=
  [⟨(some 12), none, .mv (.c (.int .i64 0))⟩]
def r9_6 : List AInstr :=
  [⟨(some 30), none, .mv (.t 12)⟩, ⟨(some 31), none, .mv (.t 1)⟩, ⟨(some 32), none, .len .l (.t 31)⟩, ⟨(some 33), none, .bin .lss (.t 30) (.t 32)⟩]
def r9_8 : List AInstr :=
  [⟨(some 37), none, .mv (.t 8)⟩, ⟨(some 38), none, .mv (.t 9)⟩, ⟨(some 39), none, .mv (.t 1)⟩, ⟨(some 40), none, .mv (.t 12)⟩, ⟨(some 41), none, .mv (.t 12)⟩, ⟨(some 42), none, .bin .add (.t 41) (.c (.int .i64 1))⟩, ⟨(some 43), none, .slice 5 (.t 39) (some (.t 40)) (some (.t 42)) none⟩, ⟨(some 44), none, .call 42 [(.t 37), (.t 38), (.t 43)]⟩, ⟨(some 36), none, .mv (.t 44)⟩, ⟨(some 45), none, .ext (.t 36) 0⟩, ⟨(some 46), none, .ext (.t 36) 1⟩, ⟨(some 13), none, .mv (.t 45)⟩, ⟨(some 14), none, .mv (.t 46)⟩]
def r9_9 : List AInstr :=
  [⟨(some 47), none, .mv (.t 14)⟩, ⟨(some 48), none, .not (.t 47)⟩]
def r9_10 : List AInstr :=
  [⟨(some 4), none, .mv (.c (.nilp))⟩, ⟨(some 5), none, .mv (.c (.vs [] .ex))⟩, ⟨(some 6), none, .mv (.c (.vs [] .ex))⟩, ⟨(some 7), none, .mv (.c (.bool false))⟩]
def r9_11 : List AInstr :=
  [⟨(some 50), none, .mv (.t 8)⟩, ⟨(some 51), none, .mv (.t 13)⟩, ⟨(some 52), none, .idxA 7 (.t 51) (.c (.int .i64 0))⟩, ⟨(some 53), none, .load true 7 (.t 52)⟩, ⟨(some 54), none, .call 43 [(.t 50), (.t 53)]⟩, ⟨(some 49), none, .mv (.t 54)⟩, ⟨(some 55), none, .ext (.t 49) 0⟩, ⟨(some 56), none, .ext (.t 49) 1⟩, ⟨(some 15), none, .mv (.t 55)⟩, ⟨(some 16), none, .mv (.t 56)⟩]
def r9_12 : List AInstr :=
  [⟨(some 57), none, .mv (.t 16)⟩, ⟨(some 58), none, .bin .neq (.t 57) (.c (.int .i64 0))⟩]
def r9_13 : List AInstr :=
  [⟨(some 4), none, .mv (.c (.nilp))⟩, ⟨(some 5), none, .mv (.c (.vs [] .ex))⟩, ⟨(some 6), none, .mv (.c (.vs [] .ex))⟩, ⟨(some 7), none, .mv (.c (.bool false))⟩]
def r9_14 : List AInstr :=
  [⟨(some 60), none, .mv (.t 8)⟩, ⟨(some 61), none, .mv (.t 13)⟩, ⟨(some 62), none, .idxA 7 (.t 61) (.c (.int .i64 0))⟩, ⟨(some 63), none, .load true 7 (.t 62)⟩, ⟨(some 64), none, .call 44 [(.t 60), (.t 63)]⟩, ⟨(some 59), none, .mv (.t 64)⟩, ⟨(some 65), none, .ext (.t 59) 0⟩, ⟨(some 66), none, .ext (.t 59) 1⟩, ⟨(some 67), none, .ext (.t 59) 2⟩, ⟨(some 17), none, .alloc [.int .u64 0, .int .i64 0, .int .i64 0, .int .i64 0, .int .i64 0]⟩, ⟨none, none, .store 5 (.t 17) (.t 65)⟩, ⟨(some 18), none, .mv (.t 66)⟩, ⟨(some 16), none, .mv (.t 67)⟩]
def r9_15 : List AInstr :=
  [⟨(some 68), none, .mv (.t 16)⟩, ⟨(some 69), none, .bin .eql (.t 68) (.c (.int .i64 6))⟩]
def r9_16 : List AInstr :=
  [⟨(some 70), none, .mv (.t 16)⟩, ⟨(some 71), none, .bin .neq (.t 70) (.c (.int .i64 0))⟩]
def r9_17 : List AInstr :=
  [⟨(some 4), none, .mv (.c (.nilp))⟩, ⟨(some 5), none, .mv (.c (.vs [] .ex))⟩, ⟨(some 6), none, .mv (.c (.vs [] .ex))⟩, ⟨(some 7), none, .mv (.c (.bool false))⟩]
def r9_18 : List AInstr :=
  [⟨(some 72), none, .mv (.t 9)⟩, ⟨(some 73), none, .load true 5 (.t 17)⟩, ⟨(some 74), none, .lit 5 [(.t 73)]⟩, ⟨(some 75), none, .app true 5 40 (.t 72) (.t 74)⟩, ⟨(some 9), none, .mv (.t 75)⟩]
def r9_19 : List AInstr :=
  [⟨(some 76), none, .mv (.t 11)⟩, ⟨(some 77), none, .mv (.t 15)⟩, ⟨(some 78), none, .lit 1 [(.t 77)]⟩, ⟨(some 79), none, .app false 1 16 (.t 76) (.t 78)⟩, ⟨(some 11), none, .mv (.t 79)⟩]
def r9_7 : List AInstr :=
  [⟨(some 34), none, .mv (.t 12)⟩, ⟨(some 35), none, .bin .add (.t 34) (.c (.int .i64 1))⟩, ⟨(some 12), none, .mv (.t 35)⟩]
def l9_20 : ACode :=
  .seq (.seq (.rg r9_6) (.cond (.t 33) (.skip) (.exit 0))) (.seq (.block 1 (.seq (.rg r9_8) (.seq (.seq (.rg r9_9) (.cond (.t 48) (.seq (.rg r9_10) (.ret)) (.skip))) (.seq (.rg r9_11) (.seq (.seq (.rg r9_12) (.cond (.t 58) (.seq (.rg r9_13) (.ret)) (.skip))) (.seq (.rg r9_14) (.seq (.seq (.rg r9_15) (.cond (.t 69) (.exit 1) (.skip))) (.seq (.seq (.rg r9_16) (.cond (.t 71) (.seq (.rg r9_17) (.ret)) (.skip))) (.seq (.rg r9_18) (.rg r9_19)))))))))) (.rg r9_7))
def r9_20 : List AInstr :=
  [⟨(some 80), none, .mv (.t 8)⟩, ⟨(some 81), none, .mv (.t 9)⟩, ⟨(some 82), none, .mv (.t 11)⟩, ⟨(some 4), none, .mv (.t 80)⟩, ⟨(some 5), none, .mv (.t 81)⟩, ⟨(some 6), none, .mv (.t 82)⟩, ⟨(some 7), none, .mv (.c (.bool true))⟩]
def c9 : ACode :=
  .seq (.rg r9_0) (.seq (.rg r9_1) (.seq (.seq (.rg r9_2) (.cond (.t 26) (.seq (.rg r9_3) (.ret)) (.skip))) (.seq (.rg r9_4) (.seq (.seq (.rg r9_5) (.block 0 (.loop l9_20))) (.seq (.rg r9_20) (.ret))))))
def a9 : AFunc := { np := 2, nt := 83, res := [.tmp 4, .tmp 5, .tmp 6, .tmp 7], body := c9 }

/- quartolaw16.Pick -/
def r10_0 : List AInstr :=
  [⟨(some 4), none, .mv (.c (.int .i64 0))⟩]
def r10_1 : List AInstr :=
  [⟨(some 5), none, .mv (.t 0)⟩, ⟨(some 6), none, .mv (.t 1)⟩, ⟨(some 7), none, .call 45 [(.t 5), (.t 6)]⟩, ⟨(some 4), none, .mv (.t 7)⟩]
def c10 : ACode :=
  .seq (.rg r10_0) (.seq (.rg r10_1) (.ret))
def a10 : AFunc := { np := 2, nt := 8, res := [.tmp 4], body := c10 }

/- patch.Between -/
def r11_0 : List AInstr :=
  [⟨(some 4), none, .box 5 (.t 1)⟩, ⟨(some 5), none, .box 5 (.t 2)⟩, ⟨(some 6), none, .mv (.c (.vs [] .ex))⟩, ⟨(some 7), none, .mv (.c (.int .i64 0))⟩]
def r11_1 : List AInstr :=
  [⟨(some 16), none, .mv (.t 0)⟩, ⟨(some 17), none, .load true 5 (.t 4)⟩, ⟨(some 18), none, .load true 5 (.t 5)⟩, ⟨(some 19), none, .call 46 [(.t 16), (.t 17), (.t 18)]⟩, ⟨(some 15), none, .mv (.t 19)⟩, ⟨(some 20), none, .ext (.t 15) 0⟩, ⟨(some 21), none, .ext (.t 15) 1⟩, ⟨(some 22), none, .ext (.t 15) 2⟩, ⟨(some 8), none, .mv (.t 20)⟩, ⟨(some 9), none, .mv (.t 21)⟩, ⟨(some 10), none, .mv (.t 22)⟩]
def r11_2 : List AInstr :=
  [⟨(some 23), none, .mv (.t 10)⟩, ⟨(some 24), none, .bin .neq (.t 23) (.c (.int .i64 0))⟩]
def r11_3 : List AInstr :=
  [⟨(some 25), none, .mv (.t 10)⟩, ⟨(some 6), none, .mv (.c (.vs [] .ex))⟩, ⟨(some 7), none, .mv (.t 25)⟩]
def r11_4 : List AInstr :=
  [⟨(some 11), none, .mv (.c (.int .i64 0))⟩, ⟨(some 12), none, .mv (.c (.int .i64 0))⟩]
def r11_5 : List AInstr :=
  [⟨(some 26), none, .mv (.t 8)⟩, ⟨(some 27), none, .len .l (.t 26)⟩, ⟨(some 28), none, .bin .gtr (.t 27) (.c (.int .i64 0))⟩, ⟨(some 29), none, .mv (.t 28)⟩, ⟨(some 30), (some (29, true)), .mv (.t 9)⟩, ⟨(some 31), (some (29, true)), .len .l (.t 30)⟩, ⟨(some 32), (some (29, true)), .bin .gtr (.t 31) (.c (.int .i64 0))⟩, ⟨(some 33), none, .pick (.t 29) (.t 32) (.c (.bool false))⟩, ⟨(some 34), none, .mv (.t 33)⟩, ⟨(some 35), (some (34, true)), .mv (.t 8)⟩, ⟨(some 36), (some (34, true)), .idxA 2 (.t 35) (.c (.int .i64 0))⟩, ⟨(some 37), (some (34, true)), .fld 0 (.t 36)⟩, ⟨(some 38), (some (34, true)), .load false 1 (.t 37)⟩, ⟨(some 39), (some (34, true)), .mv (.t 9)⟩, ⟨(some 40), (some (34, true)), .idxA 2 (.t 39) (.c (.int .i64 0))⟩, ⟨(some 41), (some (34, true)), .fld 0 (.t 40)⟩, ⟨(some 42), (some (34, true)), .load false 1 (.t 41)⟩, ⟨(some 43), (some (34, true)), .bin .eql (.t 38) (.t 42)⟩, ⟨(some 44), none, .pick (.t 34) (.t 43) (.c (.bool false))⟩]
def r11_6 : List AInstr :=
  [⟨(some 45), none, .mv (.t 11)⟩, ⟨(some 46), none, .mv (.t 8)⟩, ⟨(some 47), none, .idxA 2 (.t 46) (.c (.int .i64 0))⟩, ⟨(some 48), none, .fld 1 (.t 47)⟩, ⟨(some 49), none, .load false 1 (.t 48)⟩, ⟨(some 50), none, .len .s (.t 49)⟩, ⟨(some 51), none, .bin .add (.t 45) (.t 50)⟩, ⟨(some 11), none, .mv (.t 51)⟩]
def r11_7 : List AInstr :=
  [⟨(some 52), none, .mv (.t 8)⟩, ⟨(some 53), none, .slice 2 (.t 52) (some (.c (.int .i64 1))) none none⟩, ⟨(some 54), none, .mv (.t 9)⟩, ⟨(some 55), none, .slice 2 (.t 54) (some (.c (.int .i64 1))) none none⟩, ⟨(some 8), none, .mv (.t 53)⟩, ⟨(some 9), none, .mv (.t 55)⟩]
def l11_8 : ACode :=
  .seq (.seq (.rg r11_5) (.cond (.t 44) (.skip) (.exit 0))) (.block 1 (.seq (.rg r11_6) (.rg r11_7)))
def r11_8 : List AInstr :=
  [⟨(some 56), none, .mv (.t 8)⟩, ⟨(some 57), none, .len .l (.t 56)⟩, ⟨(some 58), none, .bin .gtr (.t 57) (.c (.int .i64 0))⟩, ⟨(some 59), none, .mv (.t 58)⟩, ⟨(some 60), (some (59, true)), .mv (.t 9)⟩, ⟨(some 61), (some (59, true)), .len .l (.t 60)⟩, ⟨(some 62), (some (59, true)), .bin .gtr (.t 61) (.c (.int .i64 0))⟩, ⟨(some 63), none, .pick (.t 59) (.t 62) (.c (.bool false))⟩, ⟨(some 64), none, .mv (.t 63)⟩, ⟨(some 65), (some (64, true)), .mv (.t 8)⟩, ⟨(some 66), (some (64, true)), .mv (.t 8)⟩, ⟨(some 67), (some (64, true)), .len .l (.t 66)⟩, ⟨(some 68), (some (64, true)), .bin .sub (.t 67) (.c (.int .i64 1))⟩, ⟨(some 69), (some (64, true)), .idxA 2 (.t 65) (.t 68)⟩, ⟨(some 70), (some (64, true)), .fld 0 (.t 69)⟩, ⟨(some 71), (some (64, true)), .load false 1 (.t 70)⟩, ⟨(some 72), (some (64, true)), .mv (.t 9)⟩, ⟨(some 73), (some (64, true)), .mv (.t 9)⟩, ⟨(some 74), (some (64, true)), .len .l (.t 73)⟩, ⟨(some 75), (some (64, true)), .bin .sub (.t 74) (.c (.int .i64 1))⟩, ⟨(some 76), (some (64, true)), .idxA 2 (.t 72) (.t 75)⟩, ⟨(some 77), (some (64, true)), .fld 0 (.t 76)⟩, ⟨(some 78), (some (64, true)), .load false 1 (.t 77)⟩, ⟨(some 79), (some (64, true)), .bin .eql (.t 71) (.t 78)⟩, ⟨(some 80), none, .pick (.t 64) (.t 79) (.c (.bool false))⟩]
def r11_9 : List AInstr :=
  [⟨(some 81), none, .mv (.t 12)⟩, ⟨(some 82), none, .mv (.t 8)⟩, ⟨(some 83), none, .mv (.t 8)⟩, ⟨(some 84), none, .len .l (.t 83)⟩, ⟨(some 85), none, .bin .sub (.t 84) (.c (.int .i64 1))⟩, ⟨(some 86), none, .idxA 2 (.t 82) (.t 85)⟩, ⟨(some 87), none, .fld 1 (.t 86)⟩, ⟨(some 88), none, .load false 1 (.t 87)⟩, ⟨(some 89), none, .len .s (.t 88)⟩, ⟨(some 90), none, .bin .add (.t 81) (.t 89)⟩, ⟨(some 12), none, .mv (.t 90)⟩]
def r11_10 : List AInstr :=
  [⟨(some 91), none, .mv (.t 8)⟩, ⟨(some 92), none, .mv (.t 8)⟩, ⟨(some 93), none, .len .l (.t 92)⟩, ⟨(some 94), none, .bin .sub (.t 93) (.c (.int .i64 1))⟩, ⟨(some 95), none, .slice 2 (.t 91) none (some (.t 94)) none⟩, ⟨(some 96), none, .mv (.t 9)⟩, ⟨(some 97), none, .mv (.t 9)⟩, ⟨(some 98), none, .len .l (.t 97)⟩, ⟨(some 99), none, .bin .sub (.t 98) (.c (.int .i64 1))⟩, ⟨(some 100), none, .slice 2 (.t 96) none (some (.t 99)) none⟩, ⟨(some 8), none, .mv (.t 95)⟩, ⟨(some 9), none, .mv (.t 100)⟩]
def l11_12 : ACode :=
  .seq (.seq (.rg r11_8) (.cond (.t 80) (.skip) (.exit 2))) (.block 3 (.seq (.rg r11_9) (.rg r11_10)))
def r11_11 : List AInstr :=
  [⟨(some 13), none, .alloc [.vs [] .ex]⟩]
def r11_12 : List AInstr :=
  [⟨(some 101), none, .mkfn 47 [(.t 13)]⟩, ⟨(some 14), none, .mv (.t 101)⟩]
def r11_13 : List AInstr :=
  [⟨(some 102), none, .mv (.t 14)⟩, ⟨(some 103), none, .mv (.t 11)⟩, ⟨(some 104), none, .callv (.t 102) [(.c (.int .u8 1)), (.t 103), (.c (.str []))]⟩]
def r11_14 : List AInstr :=
  [⟨(some 105), none, .mv (.t 14)⟩, ⟨(some 106), none, .mv (.t 9)⟩, ⟨(some 107), none, .call 48 [(.t 106)]⟩, ⟨(some 108), none, .callv (.t 105) [(.c (.int .u8 2)), (.c (.int .i64 0)), (.t 107)]⟩]
def r11_15 : List AInstr :=
  [⟨(some 109), none, .mv (.t 14)⟩, ⟨(some 110), none, .mv (.t 8)⟩, ⟨(some 111), none, .call 48 [(.t 110)]⟩, ⟨(some 112), none, .len .s (.t 111)⟩, ⟨(some 113), none, .callv (.t 109) [(.c (.int .u8 3)), (.t 112), (.c (.str []))]⟩]
def r11_16 : List AInstr :=
  [⟨(some 114), none, .mv (.t 14)⟩, ⟨(some 115), none, .mv (.t 12)⟩, ⟨(some 116), none, .callv (.t 114) [(.c (.int .u8 1)), (.t 115), (.c (.str []))]⟩]
def r11_17 : List AInstr :=
  [⟨(some 117), none, .load false 1 (.t 13)⟩, ⟨(some 6), none, .mv (.t 117)⟩, ⟨(some 7), none, .mv (.c (.int .i64 0))⟩]
def c11 : ACode :=
  .seq (.rg r11_0) (.seq (.rg r11_1) (.seq (.seq (.rg r11_2) (.cond (.t 24) (.seq (.rg r11_3) (.ret)) (.skip))) (.seq (.rg r11_4) (.seq (.block 0 (.loop l11_8)) (.seq (.block 2 (.loop l11_12)) (.seq (.rg r11_11) (.seq (.rg r11_12) (.seq (.rg r11_13) (.seq (.rg r11_14) (.seq (.rg r11_15) (.seq (.rg r11_16) (.seq (.rg r11_17) (.ret)))))))))))))
def a11 : AFunc := { np := 3, nt := 118, res := [.tmp 6, .tmp 7], body := c11 }

/- delta.Check -/
def r12_0 : List AInstr :=
  [⟨(some 2), none, .mv (.c (.int .i64 0))⟩]
def r12_1 : List AInstr :=
  [⟨(some 7), none, .mv (.t 0)⟩, ⟨(some 8), none, .call 49 [(.t 7)]⟩, ⟨(some 6), none, .mv (.t 8)⟩, ⟨(some 9), none, .ext (.t 6) 0⟩, ⟨(some 10), none, .ext (.t 6) 1⟩, ⟨(some 11), none, .ext (.t 6) 2⟩, ⟨(some 3), none, .mv (.t 9)⟩, ⟨(some 4), none, .mv (.t 10)⟩, ⟨(some 5), none, .mv (.t 11)⟩]
def r12_2 : List AInstr :=
  [⟨(some 12), none, .mv (.t 5)⟩, ⟨(some 2), none, .mv (.t 12)⟩]
def c12 : ACode :=
  .seq (.rg r12_0) (.seq (.rg r12_1) (.seq (.rg r12_2) (.ret)))
def a12 : AFunc := { np := 1, nt := 13, res := [.tmp 2], body := c12 }

/- delta.Normalize -/
def r13_0 : List AInstr :=
  [⟨(some 2), none, .mv (.c (.vs [] .ex))⟩, ⟨(some 3), none, .mv (.c (.int .i64 0))⟩]
def r13_1 : List AInstr :=
  [⟨(some 5), none, .mv (.t 0)⟩, ⟨(some 6), none, .call 12 [(.t 5)]⟩, ⟨(some 4), none, .mv (.t 6)⟩]
def r13_2 : List AInstr :=
  [⟨(some 7), none, .mv (.t 4)⟩, ⟨(some 8), none, .bin .neq (.t 7) (.c (.int .i64 0))⟩]
def r13_3 : List AInstr :=
  [⟨(some 9), none, .mv (.t 4)⟩, ⟨(some 2), none, .mv (.c (.vs [] .ex))⟩, ⟨(some 3), none, .mv (.t 9)⟩]
def r13_4 : List AInstr :=
  [⟨(some 10), none, .mv (.t 0)⟩, ⟨(some 11), none, .call 50 [(.t 10)]⟩, ⟨(some 2), none, .mv (.t 11)⟩, ⟨(some 3), none, .mv (.c (.int .i64 0))⟩]
def c13 : ACode :=
  .seq (.rg r13_0) (.seq (.seq (.rg r13_1) (.seq (.rg r13_2) (.cond (.t 8) (.seq (.rg r13_3) (.ret)) (.skip)))) (.seq (.rg r13_4) (.ret)))
def a13 : AFunc := { np := 1, nt := 12, res := [.tmp 2, .tmp 3], body := c13 }

/- apply.Apply -/
def r14_0 : List AInstr :=
  [⟨(some 4), none, .mv (.c (.str []))⟩, ⟨(some 5), none, .mv (.c (.int .i64 0))⟩]
def r14_1 : List AInstr :=
  [⟨(some 10), none, .mv (.t 0)⟩, ⟨(some 11), none, .mv (.t 1)⟩, ⟨(some 12), none, .call 51 [(.t 10), (.t 11)]⟩, ⟨(some 6), none, .mv (.t 12)⟩]
def r14_2 : List AInstr :=
  [⟨(some 13), none, .mv (.t 6)⟩, ⟨(some 14), none, .bin .neq (.t 13) (.c (.int .i64 0))⟩]
def r14_3 : List AInstr :=
  [⟨(some 15), none, .mv (.t 6)⟩, ⟨(some 4), none, .mv (.c (.str []))⟩, ⟨(some 5), none, .mv (.t 15)⟩]
def r14_4 : List AInstr :=
  [⟨(some 17), none, .mv (.t 0)⟩, ⟨(some 18), none, .mv (.t 1)⟩, ⟨(some 19), none, .call 52 [(.t 17), (.t 18)]⟩, ⟨(some 16), none, .mv (.t 19)⟩, ⟨(some 20), none, .ext (.t 16) 0⟩, ⟨(some 21), none, .ext (.t 16) 1⟩, ⟨(some 22), none, .ext (.t 16) 2⟩, ⟨(some 7), none, .mv (.t 20)⟩, ⟨(some 8), none, .mv (.t 21)⟩, ⟨(some 9), none, .mv (.t 22)⟩]
def r14_5 : List AInstr :=
  [⟨(some 23), none, .mv (.t 7)⟩, ⟨(some 4), none, .mv (.t 23)⟩, ⟨(some 5), none, .mv (.c (.int .i64 0))⟩]
def c14 : ACode :=
  .seq (.rg r14_0) (.seq (.seq (.rg r14_1) (.seq (.rg r14_2) (.cond (.t 14) (.seq (.rg r14_3) (.ret)) (.skip)))) (.seq (.rg r14_4) (.seq (.rg r14_5) (.ret))))
def a14 : AFunc := { np := 2, nt := 24, res := [.tmp 4, .tmp 5], body := c14 }

/- quartokit.EqualPieces -/
def r15_0 : List AInstr :=
  [⟨(some 4), none, .mv (.c (.bool false))⟩]
def r15_1 : List AInstr :=
  [⟨(some 6), none, .mv (.t 0)⟩, ⟨(some 7), none, .len .l (.t 6)⟩, ⟨(some 8), none, .mv (.t 1)⟩, ⟨(some 9), none, .len .l (.t 8)⟩, ⟨(some 10), none, .bin .neq (.t 7) (.t 9)⟩]
def r15_2 : List AInstr :=
  [⟨(some 4), none, .mv (.c (.bool false))⟩]
def r15_3 : List AInstr :=
  [⟨(some 5), none, .mv (.c (.int .i64 0))⟩]
def r15_4 : List AInstr :=
  [⟨(some 11), none, .mv (.t 5)⟩, ⟨(some 12), none, .mv (.t 0)⟩, ⟨(some 13), none, .len .l (.t 12)⟩, ⟨(some 14), none, .bin .lss (.t 11) (.t 13)⟩]
def r15_6 : List AInstr :=
  [⟨(some 17), none, .mv (.t 0)⟩, ⟨(some 18), none, .mv (.t 5)⟩, ⟨(some 19), none, .idxA 3 (.t 17) (.t 18)⟩, ⟨(some 20), none, .load true 3 (.t 19)⟩, ⟨(some 21), none, .mv (.t 1)⟩, ⟨(some 22), none, .mv (.t 5)⟩, ⟨(some 23), none, .idxA 3 (.t 21) (.t 22)⟩, ⟨(some 24), none, .load true 3 (.t 23)⟩, ⟨(some 25), none, .eqagg true [.i, .i, .s] (.t 20) (.t 24)⟩]
def r15_7 : List AInstr :=
  [⟨(some 4), none, .mv (.c (.bool false))⟩]
def r15_5 : List AInstr :=
  [⟨(some 15), none, .mv (.t 5)⟩, ⟨(some 16), none, .bin .add (.t 15) (.c (.int .i64 1))⟩, ⟨(some 5), none, .mv (.t 16)⟩]
def l15_8 : ACode :=
  .seq (.seq (.rg r15_4) (.cond (.t 14) (.skip) (.exit 0))) (.seq (.block 1 (.seq (.rg r15_6) (.cond (.t 25) (.seq (.rg r15_7) (.ret)) (.skip)))) (.rg r15_5))
def r15_8 : List AInstr :=
  [⟨(some 4), none, .mv (.c (.bool true))⟩]
def c15 : ACode :=
  .seq (.rg r15_0) (.seq (.seq (.rg r15_1) (.cond (.t 10) (.seq (.rg r15_2) (.ret)) (.skip))) (.seq (.seq (.rg r15_3) (.block 0 (.loop l15_8))) (.seq (.rg r15_8) (.ret))))
def a15 : AFunc := { np := 2, nt := 26, res := [.tmp 4], body := c15 }

/- quartolaw20.keep -/
def r16_0 : List AInstr :=
  [⟨(some 2), none, .alloc [.int .u8 0, .int .i64 0, .str []]⟩]
def r16_1 : List AInstr :=
  [⟨(some 3), none, .mv (.t 0)⟩, ⟨(some 4), none, .build [.int .u8 0, .int .i64 0, .str []] [(0, 1, (.c (.int .u8 1))), (1, 1, (.t 3))]⟩, ⟨none, none, .store 3 (.t 2) (.t 4)⟩]
def c16 : ACode :=
  .seq (.rg r16_0) (.seq (.rg r16_1) (.ret))
def a16 : AFunc := { np := 1, nt := 5, res := [.cell 2 true 3], body := c16 }

/- patch.Apply -/
def r17_0 : List AInstr :=
  [⟨(some 4), none, .box 5 (.t 1)⟩, ⟨(some 6), none, .alloc [.int .u64 0, .int .i64 0, .int .i64 0, .int .i64 0, .int .i64 0, .vs [] .ex, .vs [] .ex]⟩, ⟨(some 7), none, .mv (.c (.int .i64 0))⟩]
def r17_1 : List AInstr :=
  [⟨(some 20), none, .mv (.t 0)⟩, ⟨(some 21), none, .load true 5 (.t 4)⟩, ⟨(some 22), none, .call 53 [(.t 20), (.t 21)]⟩, ⟨(some 19), none, .mv (.t 22)⟩, ⟨(some 23), none, .ext (.t 19) 0⟩, ⟨(some 24), none, .ext (.t 19) 1⟩, ⟨(some 8), none, .alloc [.int .u64 0, .int .i64 0, .int .i64 0, .int .i64 0, .int .i64 0, .str [], .vs [] .ex]⟩, ⟨none, none, .store 7 (.t 8) (.t 23)⟩, ⟨(some 9), none, .mv (.t 24)⟩]
def r17_2 : List AInstr :=
  [⟨(some 25), none, .mv (.t 9)⟩, ⟨(some 26), none, .bin .neq (.t 25) (.c (.int .i64 0))⟩]
def r17_3 : List AInstr :=
  [⟨(some 27), none, .build [.int .u64 0, .int .i64 0, .int .i64 0, .int .i64 0, .int .i64 0, .vs [] .ex, .vs [] .ex] []⟩, ⟨(some 28), none, .mv (.t 9)⟩, ⟨none, none, .store 7 (.t 6) (.t 27)⟩, ⟨(some 7), none, .mv (.t 28)⟩]
def r17_4 : List AInstr :=
  [⟨(some 30), none, .mv (.t 2)⟩, ⟨(some 31), none, .call 49 [(.t 30)]⟩, ⟨(some 29), none, .mv (.t 31)⟩, ⟨(some 32), none, .ext (.t 29) 0⟩, ⟨(some 33), none, .ext (.t 29) 1⟩, ⟨(some 34), none, .ext (.t 29) 2⟩, ⟨(some 10), none, .mv (.t 32)⟩, ⟨(some 11), none, .mv (.t 33)⟩, ⟨(some 9), none, .mv (.t 34)⟩]
def r17_5 : List AInstr :=
  [⟨(some 36), none, .mv (.t 9)⟩, ⟨(some 37), none, .bin .neq (.t 36) (.c (.int .i64 0))⟩, ⟨(some 35), none, .mv (.t 37)⟩]
def r17_6 : List AInstr :=
  [⟨(some 38), none, .build [.int .u64 0, .int .i64 0, .int .i64 0, .int .i64 0, .int .i64 0, .vs [] .ex, .vs [] .ex] []⟩, ⟨(some 39), none, .mv (.t 9)⟩, ⟨none, none, .store 7 (.t 6) (.t 38)⟩, ⟨(some 7), none, .mv (.t 39)⟩]
def r17_7 : List AInstr :=
  [⟨(some 41), none, .mv (.t 10)⟩, ⟨(some 42), none, .fld 2 (.t 4)⟩, ⟨(some 43), none, .fld 0 (.t 42)⟩, ⟨(some 44), none, .load false 1 (.t 43)⟩, ⟨(some 45), none, .bin .neq (.t 41) (.t 44)⟩, ⟨(some 40), none, .mv (.t 45)⟩]
def r17_8 : List AInstr :=
  [⟨(some 46), none, .build [.int .u64 0, .int .i64 0, .int .i64 0, .int .i64 0, .int .i64 0, .vs [] .ex, .vs [] .ex] []⟩, ⟨none, none, .store 7 (.t 6) (.t 46)⟩, ⟨(some 7), none, .mv (.c (.int .i64 21))⟩]
def r17_9 : List AInstr :=
  [⟨(some 48), none, .mv (.t 11)⟩, ⟨(some 49), none, .bin .gtr (.t 48) (.c (.int .i64 65536))⟩, ⟨(some 47), none, .mv (.t 49)⟩]
def r17_10 : List AInstr :=
  [⟨(some 50), none, .build [.int .u64 0, .int .i64 0, .int .i64 0, .int .i64 0, .int .i64 0, .vs [] .ex, .vs [] .ex] []⟩, ⟨none, none, .store 7 (.t 6) (.t 50)⟩, ⟨(some 7), none, .mv (.c (.int .i64 5))⟩]
def r17_11 : List AInstr :=
  [⟨(some 51), none, .mv (.t 0)⟩, ⟨(some 52), none, .load true 7 (.t 8)⟩, ⟨(some 53), none, .build [.nilp, .int .u64 0, .int .i64 0, .int .i64 0, .int .i64 0, .int .i64 0, .str [], .vs [] .ex, .int .u64 0, .int .i64 0, .int .i64 0, .int .i64 0, .int .i64 0, .str [], .vs [] .ex] [(0, 1, (.t 51)), (8, 7, (.t 52))]⟩, ⟨(some 54), none, .box 15 (.t 53)⟩, ⟨(some 12), none, .mv (.t 54)⟩]
def r17_12 : List AInstr :=
  [⟨(some 55), none, .mv (.t 2)⟩, ⟨(some 56), none, .len .l (.t 55)⟩, ⟨(some 57), none, .mv (.c (.int .i64 0))⟩]
def r17_13 : List AInstr :=
  [⟨(some 58), none, .bin .lss (.t 57) (.t 56)⟩]
def r17_14 : List AInstr :=
  [⟨(some 59), none, .idxA 3 (.t 55) (.t 57)⟩, ⟨(some 60), none, .load true 3 (.t 59)⟩, ⟨(some 14), none, .alloc [.int .u8 0, .int .i64 0, .str []]⟩, ⟨none, none, .store 3 (.t 14) (.t 60)⟩]
def r17_15 : List AInstr :=
  [⟨(some 61), none, .mv (.t 12)⟩, ⟨(some 62), none, .load true 3 (.t 14)⟩, ⟨(some 63), none, .call 54 [(.t 61), (.t 62)]⟩, ⟨(some 15), none, .mv (.t 63)⟩]
def r17_16 : List AInstr :=
  [⟨(some 64), none, .mv (.t 15)⟩, ⟨(some 65), none, .bin .neq (.t 64) (.c (.int .i64 0))⟩]
def r17_17 : List AInstr :=
  [⟨(some 66), none, .build [.int .u64 0, .int .i64 0, .int .i64 0, .int .i64 0, .int .i64 0, .vs [] .ex, .vs [] .ex] []⟩, ⟨(some 67), none, .mv (.t 15)⟩, ⟨none, none, .store 7 (.t 6) (.t 66)⟩, ⟨(some 7), none, .mv (.t 67)⟩]
def r17_18 : List AInstr :=
  [⟨(some 68), none, .bin .add (.t 57) (.c (.int .i64 1))⟩, ⟨(some 57), none, .mv (.t 68)⟩]
def l17_19 : ACode :=
  .seq (.rg r17_13) (.seq (.cond (.t 58) (.skip) (.exit 1)) (.seq (.block 2 (.seq (.rg r17_14) (.seq (.rg r17_15) (.seq (.rg r17_16) (.cond (.t 65) (.seq (.rg r17_17) (.ret)) (.skip)))))) (.rg r17_18)))
def r17_19 : List AInstr :=
  [⟨(some 70), none, .mv (.t 0)⟩, ⟨(some 71), none, .load true 5 (.t 4)⟩, ⟨(some 72), none, .mv (.t 12)⟩, ⟨(some 73), none, .nilc (.t 72)⟩, ⟨(some 74), none, .fld 1 (.t 73)⟩, ⟨(some 75), none, .load true 7 (.t 74)⟩, ⟨(some 76), none, .call 55 [(.t 70), (.t 71), (.t 75)]⟩, ⟨(some 69), none, .mv (.t 76)⟩, ⟨(some 77), none, .ext (.t 69) 0⟩, ⟨(some 78), none, .ext (.t 69) 1⟩, ⟨(some 16), none, .mv (.t 77)⟩, ⟨(some 9), none, .mv (.t 78)⟩]
def r17_20 : List AInstr :=
  [⟨(some 79), none, .mv (.t 9)⟩, ⟨(some 80), none, .bin .neq (.t 79) (.c (.int .i64 0))⟩]
def r17_21 : List AInstr :=
  [⟨(some 81), none, .build [.int .u64 0, .int .i64 0, .int .i64 0, .int .i64 0, .int .i64 0, .vs [] .ex, .vs [] .ex] []⟩, ⟨(some 82), none, .mv (.t 9)⟩, ⟨none, none, .store 7 (.t 6) (.t 81)⟩, ⟨(some 7), none, .mv (.t 82)⟩]
def r17_22 : List AInstr :=
  [⟨(some 84), none, .mv (.t 0)⟩, ⟨(some 85), none, .mv (.t 12)⟩, ⟨(some 86), none, .nilc (.t 85)⟩, ⟨(some 87), none, .fld 1 (.t 86)⟩, ⟨(some 88), none, .load true 7 (.t 87)⟩, ⟨(some 89), none, .call 44 [(.t 84), (.t 88)]⟩, ⟨(some 83), none, .mv (.t 89)⟩, ⟨(some 90), none, .ext (.t 83) 0⟩, ⟨(some 91), none, .ext (.t 83) 1⟩, ⟨(some 92), none, .ext (.t 83) 2⟩, ⟨(some 17), none, .alloc [.int .u64 0, .int .i64 0, .int .i64 0, .int .i64 0, .int .i64 0]⟩, ⟨none, none, .store 5 (.t 17) (.t 90)⟩, ⟨(some 18), none, .mv (.t 91)⟩, ⟨(some 9), none, .mv (.t 92)⟩]
def r17_23 : List AInstr :=
  [⟨(some 93), none, .mv (.t 9)⟩, ⟨(some 94), none, .bin .neq (.t 93) (.c (.int .i64 0))⟩]
def r17_24 : List AInstr :=
  [⟨(some 95), none, .build [.int .u64 0, .int .i64 0, .int .i64 0, .int .i64 0, .int .i64 0, .vs [] .ex, .vs [] .ex] []⟩, ⟨(some 96), none, .mv (.t 9)⟩, ⟨none, none, .store 7 (.t 6) (.t 95)⟩, ⟨(some 7), none, .mv (.t 96)⟩]
def r17_25 : List AInstr :=
  [⟨(some 97), none, .load true 5 (.t 17)⟩, ⟨(some 98), none, .mv (.t 18)⟩, ⟨(some 99), none, .mv (.t 16)⟩, ⟨(some 100), none, .build [.int .u64 0, .int .i64 0, .int .i64 0, .int .i64 0, .int .i64 0, .vs [] .ex, .vs [] .ex] [(0, 5, (.t 97)), (5, 1, (.t 98)), (6, 1, (.t 99))]⟩, ⟨none, none, .store 7 (.t 6) (.t 100)⟩, ⟨(some 7), none, .mv (.c (.int .i64 0))⟩]
def c17 : ACode :=
  .seq (.rg r17_0) (.seq (.rg r17_1) (.seq (.seq (.rg r17_2) (.cond (.t 26) (.seq (.rg r17_3) (.ret)) (.skip))) (.seq (.rg r17_4) (.seq (.block 0 (.seq (.rg r17_5) (.cond (.t 35) (.seq (.rg r17_6) (.ret)) (.seq (.rg r17_7) (.cond (.t 40) (.seq (.rg r17_8) (.ret)) (.seq (.rg r17_9) (.cond (.t 47) (.seq (.rg r17_10) (.ret)) (.skip)))))))) (.seq (.rg r17_11) (.seq (.seq (.rg r17_12) (.block 1 (.loop l17_19))) (.seq (.rg r17_19) (.seq (.seq (.rg r17_20) (.cond (.t 80) (.seq (.rg r17_21) (.ret)) (.skip))) (.seq (.rg r17_22) (.seq (.seq (.rg r17_23) (.cond (.t 94) (.seq (.rg r17_24) (.ret)) (.skip))) (.seq (.rg r17_25) (.ret))))))))))))
def a17 : AFunc := { np := 3, nt := 101, res := [.cell 6 true 7, .tmp 7], body := c17 }

/- rope.Text -/
def r18_0 : List AInstr :=
  [⟨(some 3), none, .box 5 (.t 1)⟩, ⟨(some 4), none, .mv (.c (.str []))⟩, ⟨(some 5), none, .mv (.c (.int .i64 0))⟩]
def r18_1 : List AInstr :=
  [⟨(some 12), none, .mv (.t 0)⟩, ⟨(some 13), none, .load true 5 (.t 3)⟩, ⟨(some 14), none, .call 56 [(.t 12), (.t 13)]⟩, ⟨(some 11), none, .mv (.t 14)⟩, ⟨(some 15), none, .ext (.t 11) 0⟩, ⟨(some 16), none, .ext (.t 11) 1⟩, ⟨(some 6), none, .mv (.t 15)⟩, ⟨(some 7), none, .mv (.t 16)⟩]
def r18_2 : List AInstr :=
  [⟨(some 17), none, .mv (.t 7)⟩, ⟨(some 18), none, .bin .neq (.t 17) (.c (.int .i64 0))⟩]
def r18_3 : List AInstr :=
  [⟨(some 19), none, .mv (.t 7)⟩, ⟨(some 4), none, .mv (.c (.str []))⟩, ⟨(some 5), none, .mv (.t 19)⟩]
def r18_4 : List AInstr :=
  [⟨(some 8), none, .mv (.c (.vs [] .ex))⟩]
def r18_5 : List AInstr :=
  [⟨(some 20), none, .mv (.t 6)⟩, ⟨(some 21), none, .len .l (.t 20)⟩, ⟨(some 22), none, .mv (.c (.int .i64 0))⟩]
def r18_6 : List AInstr :=
  [⟨(some 23), none, .bin .lss (.t 22) (.t 21)⟩]
def r18_7 : List AInstr :=
  [⟨(some 24), none, .idxA 1 (.t 20) (.t 22)⟩, ⟨(some 25), none, .load false 1 (.t 24)⟩, ⟨(some 10), none, .mv (.t 25)⟩]
def r18_8 : List AInstr :=
  [⟨(some 26), none, .mv (.t 8)⟩, ⟨(some 27), none, .mv (.t 10)⟩, ⟨(some 28), none, .appb (.t 26) (.t 27)⟩, ⟨(some 8), none, .mv (.t 28)⟩]
def r18_9 : List AInstr :=
  [⟨(some 29), none, .bin .add (.t 22) (.c (.int .i64 1))⟩, ⟨(some 22), none, .mv (.t 29)⟩]
def l18_10 : ACode :=
  .seq (.rg r18_6) (.seq (.cond (.t 23) (.skip) (.exit 0)) (.seq (.block 1 (.seq (.rg r18_7) (.rg r18_8))) (.rg r18_9)))
def r18_10 : List AInstr :=
  [⟨(some 30), none, .mv (.t 8)⟩, ⟨(some 31), none, .b2s (.t 30)⟩, ⟨(some 4), none, .mv (.t 31)⟩, ⟨(some 5), none, .mv (.c (.int .i64 0))⟩]
def c18 : ACode :=
  .seq (.rg r18_0) (.seq (.rg r18_1) (.seq (.seq (.rg r18_2) (.cond (.t 18) (.seq (.rg r18_3) (.ret)) (.skip))) (.seq (.rg r18_4) (.seq (.seq (.rg r18_5) (.block 0 (.loop l18_10))) (.seq (.rg r18_10) (.ret))))))
def a18 : AFunc := { np := 2, nt := 32, res := [.tmp 4, .tmp 5], body := c18 }

/- quartolaw20.small -/
def r19_0 : List AInstr :=
  [⟨(some 0), none, .mv (.c (.nilp))⟩, ⟨(some 1), none, .alloc [.int .u64 0, .int .i64 0, .int .i64 0, .int .i64 0, .int .i64 0]⟩, ⟨(some 2), none, .mv (.c (.bool false))⟩]
def r19_1 : List AInstr :=
  [⟨(some 7), none, .call 35 [(.c (.int .i64 8)), (.c (.int .u64 4))]⟩, ⟨(some 6), none, .mv (.t 7)⟩, ⟨(some 8), none, .ext (.t 6) 0⟩, ⟨(some 9), none, .ext (.t 6) 1⟩, ⟨(some 3), none, .mv (.t 8)⟩, ⟨(some 4), none, .mv (.t 9)⟩]
def r19_2 : List AInstr :=
  [⟨(some 10), none, .mv (.t 3)⟩, ⟨(some 11), none, .eqv .ptr false (.t 10) (.c (.nilp))⟩, ⟨(some 12), none, .mv (.t 11)⟩, ⟨(some 13), (some (12, false)), .mv (.t 4)⟩, ⟨(some 14), (some (12, false)), .bin .neq (.t 13) (.c (.int .i64 0))⟩, ⟨(some 15), none, .pick (.t 12) (.c (.bool true)) (.t 14)⟩]
def r19_3 : List AInstr :=
  [⟨(some 16), none, .build [.int .u64 0, .int .i64 0, .int .i64 0, .int .i64 0, .int .i64 0] []⟩, ⟨(some 0), none, .mv (.c (.nilp))⟩, ⟨none, none, .store 5 (.t 1) (.t 16)⟩, ⟨(some 2), none, .mv (.c (.bool false))⟩]
def r19_4 : List AInstr :=
  [⟨(some 18), none, .mv (.t 3)⟩, ⟨(some 19), none, .call 57 [(.t 18), (.c (.str [97, 98, 99, 100, 101, 102, 103, 104, 105, 106, 107, 108, 109, 110, 111, 112, 113]))]⟩, ⟨(some 17), none, .mv (.t 19)⟩, ⟨(some 20), none, .ext (.t 17) 0⟩, ⟨(some 21), none, .ext (.t 17) 1⟩, ⟨(some 5), none, .alloc [.int .u64 0, .int .i64 0, .int .i64 0, .int .i64 0, .int .i64 0]⟩, ⟨none, none, .store 5 (.t 5) (.t 20)⟩, ⟨(some 4), none, .mv (.t 21)⟩]
def r19_5 : List AInstr :=
  [⟨(some 22), none, .mv (.t 3)⟩, ⟨(some 23), none, .load true 5 (.t 5)⟩, ⟨(some 24), none, .mv (.t 4)⟩, ⟨(some 25), none, .bin .eql (.t 24) (.c (.int .i64 0))⟩, ⟨(some 26), none, .mv (.t 25)⟩, ⟨(some 27), (some (26, true)), .fld 0 (.t 5)⟩, ⟨(some 28), (some (26, true)), .load false 1 (.t 27)⟩, ⟨(some 29), (some (26, true)), .bin .eql (.t 28) (.c (.int .u64 65538))⟩, ⟨(some 30), none, .pick (.t 26) (.t 29) (.c (.bool false))⟩, ⟨(some 0), none, .mv (.t 22)⟩, ⟨none, none, .store 5 (.t 1) (.t 23)⟩, ⟨(some 2), none, .mv (.t 30)⟩]
def c19 : ACode :=
  .seq (.rg r19_0) (.seq (.rg r19_1) (.seq (.seq (.rg r19_2) (.cond (.t 15) (.seq (.rg r19_3) (.ret)) (.skip))) (.seq (.rg r19_4) (.seq (.qrg r19_5 [[], [], [], [2], [3], [4], [5, 4], [6, 4], [4, 7], [0, 4, 0], [1, 9, 0, 1, 9], [8, 10, 0, 1, 2, 3, 4, 5, 6, 7, 8, 9, 10]]) (.ret)))))
def a19 : AFunc := { np := 0, nt := 31, res := [.tmp 0, .cell 1 true 5, .tmp 2], body := c19 }

/- quartolaw20.put -/
def r20_0 : List AInstr :=
  [⟨(some 2), none, .alloc [.int .u8 0, .int .i64 0, .str []]⟩]
def r20_1 : List AInstr :=
  [⟨(some 3), none, .mv (.t 0)⟩, ⟨(some 4), none, .build [.int .u8 0, .int .i64 0, .str []] [(0, 1, (.c (.int .u8 2))), (2, 1, (.t 3))]⟩, ⟨none, none, .store 3 (.t 2) (.t 4)⟩]
def c20 : ACode :=
  .seq (.rg r20_0) (.seq (.rg r20_1) (.ret))
def a20 : AFunc := { np := 1, nt := 5, res := [.cell 2 true 3], body := c20 }

/- patch.Visited -/
def r25_0 : List AInstr :=
  [⟨(some 4), none, .box 5 (.t 1)⟩, ⟨(some 5), none, .box 5 (.t 2)⟩, ⟨(some 6), none, .mv (.c (.int .i64 0))⟩, ⟨(some 7), none, .mv (.c (.int .i64 0))⟩]
def r25_1 : List AInstr :=
  [⟨(some 14), none, .mv (.t 0)⟩, ⟨(some 15), none, .load true 5 (.t 4)⟩, ⟨(some 16), none, .load true 5 (.t 5)⟩, ⟨(some 17), none, .call 59 [(.t 14), (.t 15), (.t 16)]⟩, ⟨(some 13), none, .mv (.t 17)⟩, ⟨(some 18), none, .ext (.t 13) 0⟩, ⟨(some 19), none, .ext (.t 13) 1⟩, ⟨(some 8), none, .mv (.t 18)⟩, ⟨(some 9), none, .mv (.t 19)⟩]
def r25_2 : List AInstr :=
  [⟨(some 20), none, .mv (.t 9)⟩, ⟨(some 21), none, .bin .neq (.t 20) (.c (.int .i64 0))⟩]
def r25_3 : List AInstr :=
  [⟨(some 22), none, .mv (.t 9)⟩, ⟨(some 6), none, .mv (.c (.int .i64 0))⟩, ⟨(some 7), none, .mv (.t 22)⟩]
def r25_4 : List AInstr :=
  [⟨(some 10), none, .mv (.c (.int .i64 0))⟩]
def r25_5 : List AInstr :=
  [⟨(some 23), none, .mv (.t 8)⟩, ⟨(some 24), none, .range (.t 23)⟩]
def r25_6 : List AInstr :=
  [⟨(some 25), none, .next (.t 24)⟩, ⟨(some 26), none, .ext (.t 25) 0⟩]
def r25_7 : List AInstr :=
  [⟨(some 27), none, .entry (.t 24)⟩, ⟨(some 28), none, .ext (.t 27) 1⟩, ⟨(some 12), none, .mv (.t 28)⟩]
def r25_8 : List AInstr :=
  [⟨(some 29), none, .mv (.t 10)⟩, ⟨(some 30), none, .mv (.t 12)⟩, ⟨(some 31), none, .bin .rem (.t 30) (.c (.int .i64 2))⟩, ⟨(some 32), none, .bin .add (.t 29) (.t 31)⟩, ⟨(some 10), none, .mv (.t 32)⟩]
def l25_9 : ACode :=
  .seq (.rg r25_6) (.seq (.cond (.t 26) (.skip) (.exit 0)) (.block 1 (.seq (.rg r25_7) (.rg r25_8))))
def r25_9 : List AInstr :=
  [⟨(some 33), none, .mv (.t 10)⟩, ⟨(some 6), none, .mv (.t 33)⟩, ⟨(some 7), none, .mv (.c (.int .i64 0))⟩]
def c25 : ACode :=
  .seq (.rg r25_0) (.seq (.rg r25_1) (.seq (.seq (.rg r25_2) (.cond (.t 21) (.seq (.rg r25_3) (.ret)) (.skip))) (.seq (.rg r25_4) (.seq (.seq (.rg r25_5) (.block 0 (.loop l25_9))) (.seq (.rg r25_9) (.ret))))))
def a25 : AFunc := { np := 3, nt := 34, res := [.tmp 6, .tmp 7], body := c25 }

/- arena.New -/
def r35_0 : List AInstr :=
  [⟨(some 4), none, .mv (.c (.nilp))⟩, ⟨(some 5), none, .mv (.c (.int .i64 0))⟩]
def r35_1 : List AInstr :=
  [⟨(some 9), none, .mv (.t 0)⟩, ⟨(some 10), none, .mv (.t 1)⟩, ⟨(some 11), none, .call 81 [(.t 9), (.t 10)]⟩, ⟨(some 8), none, .mv (.t 11)⟩, ⟨(some 12), none, .ext (.t 8) 0⟩, ⟨(some 13), none, .ext (.t 8) 1⟩, ⟨(some 6), none, .mv (.t 12)⟩, ⟨(some 7), none, .mv (.t 13)⟩]
def r35_2 : List AInstr :=
  [⟨(some 14), none, .mv (.t 7)⟩, ⟨(some 15), none, .bin .neq (.t 14) (.c (.int .i64 0))⟩]
def r35_3 : List AInstr :=
  [⟨(some 16), none, .mv (.t 7)⟩, ⟨(some 4), none, .mv (.c (.nilp))⟩, ⟨(some 5), none, .mv (.t 16)⟩]
def r35_4 : List AInstr :=
  [⟨(some 17), none, .mv (.t 0)⟩, ⟨(some 18), none, .mv (.t 6)⟩, ⟨(some 19), none, .mkmap⟩, ⟨(some 20), none, .build [.int .i64 0, .nilp, .nilmap, .int .i64 0, .int .i64 0, .int .i64 0] [(0, 1, (.t 17)), (1, 1, (.t 18)), (2, 1, (.t 19))]⟩, ⟨(some 21), none, .box 6 (.t 20)⟩, ⟨(some 4), none, .mv (.t 21)⟩, ⟨(some 5), none, .mv (.c (.int .i64 0))⟩]
def c35 : ACode :=
  .seq (.rg r35_0) (.seq (.rg r35_1) (.seq (.seq (.rg r35_2) (.cond (.t 15) (.seq (.rg r35_3) (.ret)) (.skip))) (.seq (.rg r35_4) (.ret))))
def a35 : AFunc := { np := 2, nt := 22, res := [.tmp 4, .tmp 5], body := c35 }

/- quartolaw15.Long -/
def r39_0 : List AInstr :=
  [⟨(some 2), none, .mv (.c (.bool false))⟩]
def r39_1 : List AInstr :=
  [⟨(some 3), none, .mv (.c (.int .i64 0))⟩]
def r39_2 : List AInstr :=
  [⟨(some 4), none, .mv (.c (.int .i64 0))⟩]
def r39_3 : List AInstr :=
  [⟨(some 5), none, .mv (.t 4)⟩, ⟨(some 6), none, .mv (.t 0)⟩, ⟨(some 7), none, .len .l (.t 6)⟩, ⟨(some 8), none, .bin .lss (.t 5) (.t 7)⟩, ⟨(some 9), none, .mv (.t 8)⟩, ⟨(some 10), (some (9, true)), .mv (.t 3)⟩, ⟨(some 11), (some (9, true)), .bin .leq (.t 10) (.c (.int .i64 900))⟩, ⟨(some 12), none, .pick (.t 9) (.t 11) (.c (.bool false))⟩]
def r39_5 : List AInstr :=
  [⟨(some 15), none, .mv (.t 3)⟩, ⟨(some 16), none, .mv (.t 0)⟩, ⟨(some 17), none, .mv (.t 4)⟩, ⟨(some 18), none, .idxA 1 (.t 16) (.t 17)⟩, ⟨(some 19), none, .load false 1 (.t 18)⟩, ⟨(some 20), none, .len .s (.t 19)⟩, ⟨(some 21), none, .min (.t 20) (.c (.int .i64 1000))⟩, ⟨(some 22), none, .bin .add (.t 15) (.t 21)⟩, ⟨(some 3), none, .mv (.t 22)⟩]
def r39_4 : List AInstr :=
  [⟨(some 13), none, .mv (.t 4)⟩, ⟨(some 14), none, .bin .add (.t 13) (.c (.int .i64 1))⟩, ⟨(some 4), none, .mv (.t 14)⟩]
def l39_6 : ACode :=
  .seq (.seq (.rg r39_3) (.cond (.t 12) (.skip) (.exit 0))) (.seq (.block 1 (.rg r39_5)) (.rg r39_4))
def r39_6 : List AInstr :=
  [⟨(some 23), none, .mv (.t 0)⟩, ⟨(some 24), none, .len .l (.t 23)⟩, ⟨(some 25), none, .bin .gtr (.t 24) (.c (.int .i64 4))⟩, ⟨(some 26), none, .mv (.t 25)⟩, ⟨(some 27), (some (26, false)), .mv (.t 3)⟩, ⟨(some 28), (some (26, false)), .bin .gtr (.t 27) (.c (.int .i64 900))⟩, ⟨(some 29), none, .pick (.t 26) (.c (.bool true)) (.t 28)⟩, ⟨(some 2), none, .mv (.t 29)⟩]
def c39 : ACode :=
  .seq (.rg r39_0) (.seq (.rg r39_1) (.seq (.seq (.rg r39_2) (.block 0 (.loop l39_6))) (.seq (.rg r39_6) (.ret))))
def a39 : AFunc := { np := 1, nt := 30, res := [.tmp 2], body := c39 }

/- quartolaw16.Many -/
def r40_0 : List AInstr :=
  [⟨(some 2), none, .mv (.c (.bool false))⟩]
def r40_1 : List AInstr :=
  [⟨(some 3), none, .mv (.c (.int .i64 0))⟩]
def r40_2 : List AInstr :=
  [⟨(some 4), none, .mv (.t 3)⟩, ⟨(some 5), none, .mv (.t 0)⟩, ⟨(some 6), none, .len .l (.t 5)⟩, ⟨(some 7), none, .bin .lss (.t 4) (.t 6)⟩, ⟨(some 8), none, .mv (.t 7)⟩, ⟨(some 9), (some (8, true)), .mv (.t 3)⟩, ⟨(some 10), (some (8, true)), .bin .lss (.t 9) (.c (.int .i64 100))⟩, ⟨(some 11), none, .pick (.t 8) (.t 10) (.c (.bool false))⟩]
def r40_4 : List AInstr :=
  [⟨(some 14), none, .mv (.t 0)⟩, ⟨(some 15), none, .mv (.t 3)⟩, ⟨(some 16), none, .idxA 5 (.t 14) (.t 15)⟩, ⟨(some 17), none, .fld 4 (.t 16)⟩, ⟨(some 18), none, .load false 1 (.t 17)⟩, ⟨(some 19), none, .len .s (.t 18)⟩, ⟨(some 20), none, .bin .gtr (.t 19) (.c (.int .i64 200))⟩]
def r40_5 : List AInstr :=
  [⟨(some 2), none, .mv (.c (.bool true))⟩]
def r40_3 : List AInstr :=
  [⟨(some 12), none, .mv (.t 3)⟩, ⟨(some 13), none, .bin .add (.t 12) (.c (.int .i64 1))⟩, ⟨(some 3), none, .mv (.t 13)⟩]
def l40_6 : ACode :=
  .seq (.seq (.rg r40_2) (.cond (.t 11) (.skip) (.exit 0))) (.seq (.block 1 (.seq (.rg r40_4) (.cond (.t 20) (.seq (.rg r40_5) (.ret)) (.skip)))) (.rg r40_3))
def r40_6 : List AInstr :=
  [⟨(some 21), none, .mv (.t 0)⟩, ⟨(some 22), none, .len .l (.t 21)⟩, ⟨(some 23), none, .bin .gtr (.t 22) (.c (.int .i64 60))⟩, ⟨(some 2), none, .mv (.t 23)⟩]
def c40 : ACode :=
  .seq (.rg r40_0) (.seq (.seq (.rg r40_1) (.block 0 (.loop l40_6))) (.seq (.rg r40_6) (.ret)))
def a40 : AFunc := { np := 1, nt := 24, res := [.tmp 2], body := c40 }

/- quartolaw16.laid -/
def r41_0 : List AInstr :=
  [⟨(some 2), none, .mv (.c (.nilp))⟩, ⟨(some 3), none, .mv (.c (.vs [] .ex))⟩, ⟨(some 4), none, .mv (.c (.bool false))⟩]
def r41_1 : List AInstr :=
  [⟨(some 12), none, .call 35 [(.c (.int .i64 1500)), (.c (.int .u64 3))]⟩, ⟨(some 11), none, .mv (.t 12)⟩, ⟨(some 13), none, .ext (.t 11) 0⟩, ⟨(some 14), none, .ext (.t 11) 1⟩, ⟨(some 5), none, .mv (.t 13)⟩, ⟨(some 6), none, .mv (.t 14)⟩]
def r41_2 : List AInstr :=
  [⟨(some 15), none, .mv (.t 5)⟩, ⟨(some 16), none, .eqv .ptr false (.t 15) (.c (.nilp))⟩, ⟨(some 17), none, .mv (.t 16)⟩, ⟨(some 18), (some (17, false)), .mv (.t 6)⟩, ⟨(some 19), (some (17, false)), .bin .neq (.t 18) (.c (.int .i64 0))⟩, ⟨(some 20), none, .pick (.t 17) (.c (.bool true)) (.t 19)⟩]
def r41_3 : List AInstr :=
  [⟨(some 2), none, .mv (.c (.nilp))⟩, ⟨(some 3), none, .mv (.c (.vs [] .ex))⟩, ⟨(some 4), none, .mv (.c (.bool false))⟩]
def r41_4 : List AInstr :=
  [⟨(some 7), none, .mv (.c (.vs [] .ex))⟩]
def r41_5 : List AInstr :=
  [⟨(some 8), none, .mv (.c (.int .i64 0))⟩]
def r41_6 : List AInstr :=
  [⟨(some 21), none, .mv (.t 8)⟩, ⟨(some 22), none, .mv (.t 0)⟩, ⟨(some 23), none, .len .l (.t 22)⟩, ⟨(some 24), none, .bin .lss (.t 21) (.t 23)⟩]
def r41_8 : List AInstr :=
  [⟨(some 28), none, .mv (.t 5)⟩, ⟨(some 29), none, .mv (.t 0)⟩, ⟨(some 30), none, .mv (.t 8)⟩, ⟨(some 31), none, .idxA 1 (.t 29) (.t 30)⟩, ⟨(some 32), none, .load false 1 (.t 31)⟩, ⟨(some 33), none, .call 57 [(.t 28), (.t 32)]⟩, ⟨(some 27), none, .mv (.t 33)⟩, ⟨(some 34), none, .ext (.t 27) 0⟩, ⟨(some 35), none, .ext (.t 27) 1⟩, ⟨(some 9), none, .alloc [.int .u64 0, .int .i64 0, .int .i64 0, .int .i64 0, .int .i64 0]⟩, ⟨none, none, .store 5 (.t 9) (.t 34)⟩, ⟨(some 10), none, .mv (.t 35)⟩]
def r41_9 : List AInstr :=
  [⟨(some 36), none, .mv (.t 10)⟩, ⟨(some 37), none, .bin .neq (.t 36) (.c (.int .i64 0))⟩]
def r41_10 : List AInstr :=
  [⟨(some 2), none, .mv (.c (.nilp))⟩, ⟨(some 3), none, .mv (.c (.vs [] .ex))⟩, ⟨(some 4), none, .mv (.c (.bool false))⟩]
def r41_11 : List AInstr :=
  [⟨(some 38), none, .mv (.t 7)⟩, ⟨(some 39), none, .load true 5 (.t 9)⟩, ⟨(some 40), none, .lit 5 [(.t 39)]⟩, ⟨(some 41), none, .app true 5 40 (.t 38) (.t 40)⟩, ⟨(some 7), none, .mv (.t 41)⟩]
def r41_7 : List AInstr :=
  [⟨(some 25), none, .mv (.t 8)⟩, ⟨(some 26), none, .bin .add (.t 25) (.c (.int .i64 1))⟩, ⟨(some 8), none, .mv (.t 26)⟩]
def l41_12 : ACode :=
  .seq (.seq (.rg r41_6) (.cond (.t 24) (.skip) (.exit 0))) (.seq (.block 1 (.seq (.rg r41_8) (.seq (.seq (.rg r41_9) (.cond (.t 37) (.seq (.rg r41_10) (.ret)) (.skip))) (.rg r41_11)))) (.rg r41_7))
def r41_12 : List AInstr :=
  [⟨(some 42), none, .mv (.t 5)⟩, ⟨(some 43), none, .mv (.t 7)⟩, ⟨(some 2), none, .mv (.t 42)⟩, ⟨(some 3), none, .mv (.t 43)⟩, ⟨(some 4), none, .mv (.c (.bool true))⟩]
def c41 : ACode :=
  .seq (.rg r41_0) (.seq (.rg r41_1) (.seq (.seq (.rg r41_2) (.cond (.t 20) (.seq (.rg r41_3) (.ret)) (.skip))) (.seq (.rg r41_4) (.seq (.seq (.rg r41_5) (.block 0 (.loop l41_12))) (.seq (.rg r41_12) (.ret))))))
def a41 : AFunc := { np := 1, nt := 44, res := [.tmp 2, .tmp 3, .tmp 4], body := c41 }

/- quartolaw16.plans -/
def r42_0 : List AInstr :=
  [⟨(some 6), none, .mv (.c (.vs [] .ex))⟩, ⟨(some 7), none, .mv (.c (.bool false))⟩]
def r42_1 : List AInstr :=
  [⟨(some 8), none, .mv (.c (.vs [] .ex))⟩]
def r42_2 : List AInstr :=
  [⟨(some 9), none, .mv (.c (.int .i64 0))⟩]
def r42_3 : List AInstr :=
  [⟨(some 16), none, .mv (.t 9)⟩, ⟨(some 17), none, .mv (.t 2)⟩, ⟨(some 18), none, .len .l (.t 17)⟩, ⟨(some 19), none, .bin .lss (.t 16) (.t 18)⟩]
def r42_5 : List AInstr :=
  [⟨(some 22), none, .mv (.t 1)⟩, ⟨(some 23), none, .len .l (.t 22)⟩, ⟨(some 24), none, .bin .eql (.t 23) (.c (.int .i64 0))⟩]
def r42_6 : List AInstr :=
  [⟨(some 26), none, .mv (.t 2)⟩, ⟨(some 27), none, .mv (.t 9)⟩, ⟨(some 28), none, .idxA 5 (.t 26) (.t 27)⟩, ⟨(some 29), none, .fld 4 (.t 28)⟩, ⟨(some 30), none, .load false 1 (.t 29)⟩, ⟨(some 31), none, .call 91 [(.t 30)]⟩, ⟨(some 25), none, .mv (.t 31)⟩, ⟨(some 32), none, .ext (.t 25) 0⟩, ⟨(some 33), none, .ext (.t 25) 1⟩, ⟨(some 10), none, .alloc [.int .u64 0, .int .i64 0, .int .i64 0, .int .i64 0, .int .i64 0, .str [], .vs [] .ex]⟩, ⟨none, none, .store 7 (.t 10) (.t 32)⟩, ⟨(some 11), none, .mv (.t 33)⟩]
def r42_7 : List AInstr :=
  [⟨(some 34), none, .mv (.t 11)⟩, ⟨(some 35), none, .bin .neq (.t 34) (.c (.int .i64 0))⟩]
def r42_8 : List AInstr :=
  [⟨(some 6), none, .mv (.c (.vs [] .ex))⟩, ⟨(some 7), none, .mv (.c (.bool false))⟩]
def r42_9 : List AInstr :=
  [⟨(some 36), none, .mv (.t 8)⟩, ⟨(some 37), none, .load true 7 (.t 10)⟩, ⟨(some 38), none, .lit 7 [(.t 37)]⟩, ⟨(some 39), none, .app true 7 80 (.t 36) (.t 38)⟩, ⟨(some 8), none, .mv (.t 39)⟩]
def r42_10 : List AInstr :=
  [⟨(some 40), none, .mv (.t 1)⟩, ⟨(some 41), none, .mv (.t 2)⟩, ⟨(some 42), none, .mv (.t 9)⟩, ⟨(some 43), none, .idxA 5 (.t 41) (.t 42)⟩, ⟨(some 44), none, .fld 1 (.t 43)⟩, ⟨(some 45), none, .load false 1 (.t 44)⟩, ⟨(some 46), none, .mv (.t 1)⟩, ⟨(some 47), none, .len .l (.t 46)⟩, ⟨(some 48), none, .bin .sub (.t 47) (.c (.int .i64 1))⟩, ⟨(some 49), none, .call 45 [(.t 45), (.t 48)]⟩, ⟨(some 50), none, .idxA 5 (.t 40) (.t 49)⟩, ⟨(some 51), none, .load true 5 (.t 50)⟩, ⟨(some 12), none, .alloc [.int .u64 0, .int .i64 0, .int .i64 0, .int .i64 0, .int .i64 0]⟩, ⟨none, none, .store 5 (.t 12) (.t 51)⟩]
def r42_11 : List AInstr :=
  [⟨(some 53), none, .mv (.t 0)⟩, ⟨(some 54), none, .load true 5 (.t 12)⟩, ⟨(some 55), none, .call 53 [(.t 53), (.t 54)]⟩, ⟨(some 52), none, .mv (.t 55)⟩, ⟨(some 56), none, .ext (.t 52) 0⟩, ⟨(some 57), none, .ext (.t 52) 1⟩, ⟨(some 13), none, .alloc [.int .u64 0, .int .i64 0, .int .i64 0, .int .i64 0, .int .i64 0, .str [], .vs [] .ex]⟩, ⟨none, none, .store 7 (.t 13) (.t 56)⟩, ⟨(some 14), none, .mv (.t 57)⟩]
def r42_12 : List AInstr :=
  [⟨(some 58), none, .mv (.t 14)⟩, ⟨(some 59), none, .bin .neq (.t 58) (.c (.int .i64 0))⟩]
def r42_13 : List AInstr :=
  [⟨(some 6), none, .mv (.c (.vs [] .ex))⟩, ⟨(some 7), none, .mv (.c (.bool false))⟩]
def r42_14 : List AInstr :=
  [⟨(some 60), none, .mv (.t 2)⟩, ⟨(some 61), none, .mv (.t 9)⟩, ⟨(some 62), none, .idxA 5 (.t 60) (.t 61)⟩, ⟨(some 63), none, .fld 2 (.t 62)⟩, ⟨(some 64), none, .load false 1 (.t 63)⟩, ⟨(some 65), none, .fld 2 (.t 12)⟩, ⟨(some 66), none, .fld 0 (.t 65)⟩, ⟨(some 67), none, .load false 1 (.t 66)⟩, ⟨(some 68), none, .call 45 [(.t 64), (.t 67)]⟩, ⟨(some 15), none, .mv (.t 68)⟩]
def r42_15 : List AInstr :=
  [⟨(some 70), none, .mv (.t 0)⟩, ⟨(some 71), none, .load true 7 (.t 13)⟩, ⟨(some 72), none, .mv (.t 15)⟩, ⟨(some 73), none, .mv (.t 2)⟩, ⟨(some 74), none, .mv (.t 9)⟩, ⟨(some 75), none, .idxA 5 (.t 73) (.t 74)⟩, ⟨(some 76), none, .fld 3 (.t 75)⟩, ⟨(some 77), none, .load false 1 (.t 76)⟩, ⟨(some 78), none, .fld 2 (.t 12)⟩, ⟨(some 79), none, .fld 0 (.t 78)⟩, ⟨(some 80), none, .load false 1 (.t 79)⟩, ⟨(some 81), none, .mv (.t 15)⟩, ⟨(some 82), none, .bin .sub (.t 80) (.t 81)⟩, ⟨(some 83), none, .call 45 [(.t 77), (.t 82)]⟩, ⟨(some 84), none, .mv (.t 2)⟩, ⟨(some 85), none, .mv (.t 9)⟩, ⟨(some 86), none, .idxA 5 (.t 84) (.t 85)⟩, ⟨(some 87), none, .fld 4 (.t 86)⟩, ⟨(some 88), none, .load false 1 (.t 87)⟩, ⟨(some 89), none, .call 92 [(.t 70), (.t 71), (.t 72), (.t 83), (.t 88)]⟩, ⟨(some 69), none, .mv (.t 89)⟩, ⟨(some 90), none, .ext (.t 69) 0⟩, ⟨(some 91), none, .ext (.t 69) 1⟩, ⟨none, none, .store 7 (.t 13) (.t 90)⟩, ⟨(some 14), none, .mv (.t 91)⟩]
def r42_16 : List AInstr :=
  [⟨(some 92), none, .mv (.t 14)⟩, ⟨(some 93), none, .bin .neq (.t 92) (.c (.int .i64 0))⟩]
def r42_17 : List AInstr :=
  [⟨(some 6), none, .mv (.c (.vs [] .ex))⟩, ⟨(some 7), none, .mv (.c (.bool false))⟩]
def r42_18 : List AInstr :=
  [⟨(some 94), none, .mv (.t 8)⟩, ⟨(some 95), none, .load true 7 (.t 13)⟩, ⟨(some 96), none, .lit 7 [(.t 95)]⟩, ⟨(some 97), none, .app true 7 80 (.t 94) (.t 96)⟩, ⟨(some 8), none, .mv (.t 97)⟩]
def r42_4 : List AInstr :=
  [⟨(some 20), none, .mv (.t 9)⟩, ⟨(some 21), none, .bin .add (.t 20) (.c (.int .i64 1))⟩, ⟨(some 9), none, .mv (.t 21)⟩]
def l42_19 : ACode :=
  .seq (.seq (.rg r42_3) (.cond (.t 19) (.skip) (.exit 0))) (.seq (.block 1 (.seq (.seq (.rg r42_5) (.cond (.t 24) (.seq (.rg r42_6) (.seq (.seq (.rg r42_7) (.cond (.t 35) (.seq (.rg r42_8) (.ret)) (.skip))) (.seq (.rg r42_9) (.exit 1)))) (.skip))) (.seq (.rg r42_10) (.seq (.rg r42_11) (.seq (.seq (.rg r42_12) (.cond (.t 59) (.seq (.rg r42_13) (.ret)) (.skip))) (.seq (.rg r42_14) (.seq (.qrg r42_15 [[], [], [], [], [], [3, 4], [5], [6], [], [8], [9], [], [10, 11], [7, 12], [], [], [14, 15], [16], [17], [0, 1, 2, 13, 18, 13], [19], [20], [20], [21, 19, 0, 1, 2, 3, 4, 5, 6, 7, 8, 9, 10, 11, 12, 13, 14, 15, 16, 17, 18, 19, 20, 21], [22, 23, 0, 1, 2, 3, 4, 5, 6, 7, 8, 9, 10, 11, 12, 13, 14, 15, 16, 17, 18, 19, 20, 21, 22, 23]]) (.seq (.seq (.rg r42_16) (.cond (.t 93) (.seq (.rg r42_17) (.ret)) (.skip))) (.rg r42_18))))))))) (.rg r42_4))
def r42_19 : List AInstr :=
  [⟨(some 98), none, .mv (.t 8)⟩, ⟨(some 6), none, .mv (.t 98)⟩, ⟨(some 7), none, .mv (.c (.bool true))⟩]
def c42 : ACode :=
  .seq (.rg r42_0) (.seq (.rg r42_1) (.seq (.seq (.rg r42_2) (.block 0 (.loop l42_19))) (.seq (.rg r42_19) (.ret))))
def a42 : AFunc := { np := 3, nt := 99, res := [.tmp 6, .tmp 7], body := c42 }

/- plan.Text -/
def r43_0 : List AInstr :=
  [⟨(some 2), none, .box 1 (.t 0)⟩, ⟨(some 3), none, .box 7 (.t 1)⟩, ⟨(some 4), none, .mv (.c (.str []))⟩, ⟨(some 5), none, .mv (.c (.int .i64 0))⟩]
def r43_1 : List AInstr :=
  [⟨(some 10), none, .load false 1 (.t 2)⟩, ⟨(some 11), none, .load true 7 (.t 3)⟩, ⟨(some 12), none, .call 93 [(.t 10), (.t 11)]⟩, ⟨(some 6), none, .mv (.t 12)⟩]
def r43_2 : List AInstr :=
  [⟨(some 13), none, .mv (.t 6)⟩, ⟨(some 14), none, .bin .neq (.t 13) (.c (.int .i64 0))⟩]
def r43_3 : List AInstr :=
  [⟨(some 15), none, .mv (.t 6)⟩, ⟨(some 4), none, .mv (.c (.str []))⟩, ⟨(some 5), none, .mv (.t 15)⟩]
def r43_4 : List AInstr :=
  [⟨(some 7), none, .alloc [.vs [] .ex]⟩]
def r43_5 : List AInstr :=
  [⟨(some 8), none, .alloc [.nilfn]⟩]
def r43_6 : List AInstr :=
  [⟨(some 16), none, .mkfn 94 [(.t 2), (.t 7), (.t 8)]⟩, ⟨none, none, .store 1 (.t 8) (.t 16)⟩]
def r43_7 : List AInstr :=
  [⟨(some 17), none, .load true 7 (.t 3)⟩, ⟨(some 18), none, .call 97 [(.t 17)]⟩, ⟨(some 19), none, .bin .eql (.t 18) (.c (.int .i64 1))⟩]
def r43_8 : List AInstr :=
  [⟨(some 4), none, .mv (.c (.str []))⟩, ⟨(some 5), none, .mv (.c (.int .i64 0))⟩]
def r43_9 : List AInstr :=
  [⟨(some 20), none, .load false 1 (.t 8)⟩, ⟨(some 21), none, .load true 7 (.t 3)⟩, ⟨(some 22), none, .callv (.t 20) [(.t 21)]⟩, ⟨(some 9), none, .mv (.t 22)⟩]
def r43_10 : List AInstr :=
  [⟨(some 23), none, .mv (.t 9)⟩, ⟨(some 24), none, .bin .neq (.t 23) (.c (.int .i64 0))⟩]
def r43_11 : List AInstr :=
  [⟨(some 25), none, .mv (.t 9)⟩, ⟨(some 4), none, .mv (.c (.str []))⟩, ⟨(some 5), none, .mv (.t 25)⟩]
def r43_12 : List AInstr :=
  [⟨(some 26), none, .load false 1 (.t 7)⟩, ⟨(some 27), none, .b2s (.t 26)⟩, ⟨(some 4), none, .mv (.t 27)⟩, ⟨(some 5), none, .mv (.c (.int .i64 0))⟩]
def c43 : ACode :=
  .seq (.rg r43_0) (.seq (.seq (.rg r43_1) (.seq (.rg r43_2) (.cond (.t 14) (.seq (.rg r43_3) (.ret)) (.skip)))) (.seq (.rg r43_4) (.seq (.rg r43_5) (.seq (.rg r43_6) (.seq (.seq (.rg r43_7) (.cond (.t 19) (.seq (.rg r43_8) (.ret)) (.skip))) (.seq (.seq (.rg r43_9) (.seq (.rg r43_10) (.cond (.t 24) (.seq (.rg r43_11) (.ret)) (.skip)))) (.seq (.rg r43_12) (.ret))))))))
def a43 : AFunc := { np := 2, nt := 28, res := [.tmp 4, .tmp 5], body := c43 }

/- rope.Write -/
def r44_0 : List AInstr :=
  [⟨(some 3), none, .box 7 (.t 1)⟩, ⟨(some 4), none, .alloc [.int .u64 0, .int .i64 0, .int .i64 0, .int .i64 0, .int .i64 0]⟩, ⟨(some 5), none, .mv (.c (.vs [] .ex))⟩, ⟨(some 6), none, .mv (.c (.int .i64 0))⟩]
def r44_1 : List AInstr :=
  [⟨(some 12), none, .mv (.t 0)⟩, ⟨(some 13), none, .load true 7 (.t 3)⟩, ⟨(some 14), none, .call 98 [(.t 12), (.t 13)]⟩, ⟨(some 11), none, .mv (.t 14)⟩, ⟨(some 15), none, .ext (.t 11) 0⟩, ⟨(some 16), none, .ext (.t 11) 1⟩, ⟨(some 7), none, .mv (.t 15)⟩, ⟨(some 6), none, .mv (.t 16)⟩]
def r44_2 : List AInstr :=
  [⟨(some 17), none, .mv (.t 6)⟩, ⟨(some 18), none, .bin .neq (.t 17) (.c (.int .i64 0))⟩]
def r44_3 : List AInstr :=
  [⟨(some 19), none, .build [.int .u64 0, .int .i64 0, .int .i64 0, .int .i64 0, .int .i64 0] []⟩, ⟨(some 20), none, .mv (.t 6)⟩, ⟨none, none, .store 5 (.t 4) (.t 19)⟩, ⟨(some 5), none, .mv (.c (.vs [] .ex))⟩, ⟨(some 6), none, .mv (.t 20)⟩]
def r44_4 : List AInstr :=
  [⟨(some 21), none, .mv (.t 7)⟩, ⟨(some 22), none, .nilc (.t 21)⟩, ⟨(some 23), none, .fld 1 (.t 22)⟩, ⟨(some 24), none, .load false 1 (.t 23)⟩, ⟨(some 25), none, .len .l (.t 24)⟩, ⟨(some 26), none, .bin .gtr (.t 25) (.c (.int .i64 0))⟩]
def r44_5 : List AInstr :=
  [⟨(some 28), none, .mv (.t 7)⟩, ⟨(some 29), none, .call 99 [(.t 28)]⟩, ⟨(some 27), none, .mv (.t 29)⟩, ⟨(some 30), none, .ext (.t 27) 0⟩, ⟨(some 31), none, .ext (.t 27) 1⟩, ⟨(some 32), none, .ext (.t 27) 2⟩, ⟨(some 8), none, .mv (.t 30)⟩, ⟨(some 9), none, .mv (.t 31)⟩, ⟨(some 10), none, .mv (.t 32)⟩]
def r44_6 : List AInstr :=
  [⟨(some 33), none, .mv (.t 10)⟩, ⟨(some 34), none, .bin .neq (.t 33) (.c (.int .i64 0))⟩]
def r44_7 : List AInstr :=
  [⟨(some 35), none, .build [.int .u64 0, .int .i64 0, .int .i64 0, .int .i64 0, .int .i64 0] []⟩, ⟨(some 36), none, .mv (.t 10)⟩, ⟨none, none, .store 5 (.t 4) (.t 35)⟩, ⟨(some 5), none, .mv (.c (.vs [] .ex))⟩, ⟨(some 6), none, .mv (.t 36)⟩]
def r44_8 : List AInstr :=
  [⟨(some 37), none, .mv (.t 5)⟩, ⟨(some 38), none, .mv (.t 8)⟩, ⟨(some 39), none, .lit 1 [(.t 38)]⟩, ⟨(some 40), none, .app false 1 8 (.t 37) (.t 39)⟩, ⟨(some 5), none, .mv (.t 40)⟩]
def l44_9 : ACode :=
  .seq (.seq (.rg r44_4) (.cond (.t 26) (.skip) (.exit 0))) (.block 1 (.seq (.rg r44_5) (.seq (.seq (.rg r44_6) (.cond (.t 34) (.seq (.rg r44_7) (.ret)) (.skip))) (.rg r44_8))))
def r44_9 : List AInstr :=
  [⟨(some 42), none, .mv (.t 7)⟩, ⟨(some 43), none, .call 100 [(.t 42)]⟩, ⟨(some 41), none, .mv (.t 43)⟩, ⟨(some 44), none, .ext (.t 41) 0⟩, ⟨(some 45), none, .ext (.t 41) 1⟩, ⟨none, none, .store 5 (.t 4) (.t 44)⟩, ⟨(some 6), none, .mv (.t 45)⟩]
def r44_10 : List AInstr :=
  [⟨(some 46), none, .load true 5 (.t 4)⟩, ⟨(some 47), none, .mv (.t 5)⟩, ⟨(some 48), none, .mv (.t 6)⟩, ⟨none, none, .store 5 (.t 4) (.t 46)⟩, ⟨(some 5), none, .mv (.t 47)⟩, ⟨(some 6), none, .mv (.t 48)⟩]
def c44 : ACode :=
  .seq (.rg r44_0) (.seq (.rg r44_1) (.seq (.seq (.rg r44_2) (.cond (.t 18) (.seq (.rg r44_3) (.ret)) (.skip))) (.seq (.block 0 (.loop l44_9)) (.seq (.rg r44_9) (.seq (.rg r44_10) (.ret))))))
def a44 : AFunc := { np := 2, nt := 49, res := [.cell 4 true 5, .tmp 5, .tmp 6], body := c44 }

/- quartolaw16.pick -/
def r45_0 : List AInstr :=
  [⟨(some 4), none, .mv (.c (.int .i64 0))⟩]
def r45_1 : List AInstr :=
  [⟨(some 5), none, .mv (.t 0)⟩, ⟨(some 6), none, .conv .u64 (.t 5)⟩, ⟨(some 7), none, .mv (.t 1)⟩, ⟨(some 8), none, .bin .add (.t 7) (.c (.int .i64 1))⟩, ⟨(some 9), none, .conv .u64 (.t 8)⟩, ⟨(some 10), none, .bin .rem (.t 6) (.t 9)⟩, ⟨(some 11), none, .conv .i64 (.t 10)⟩, ⟨(some 4), none, .mv (.t 11)⟩]
def c45 : ACode :=
  .seq (.rg r45_0) (.seq (.rg r45_1) (.ret))
def a45 : AFunc := { np := 2, nt := 12, res := [.tmp 4], body := c45 }

/- patch.both -/
def r46_0 : List AInstr :=
  [⟨(some 4), none, .box 5 (.t 1)⟩, ⟨(some 5), none, .box 5 (.t 2)⟩, ⟨(some 6), none, .mv (.c (.vs [] .ex))⟩, ⟨(some 7), none, .mv (.c (.vs [] .ex))⟩, ⟨(some 8), none, .mv (.c (.int .i64 0))⟩]
def r46_1 : List AInstr :=
  [⟨(some 10), none, .mv (.t 0)⟩, ⟨(some 11), none, .load true 5 (.t 4)⟩, ⟨(some 12), none, .call 101 [(.t 10), (.t 11)]⟩, ⟨(some 9), none, .mv (.t 12)⟩, ⟨(some 13), none, .ext (.t 9) 0⟩, ⟨(some 14), none, .ext (.t 9) 1⟩, ⟨(some 6), none, .mv (.t 13)⟩, ⟨(some 8), none, .mv (.t 14)⟩]
def r46_2 : List AInstr :=
  [⟨(some 15), none, .mv (.t 8)⟩, ⟨(some 16), none, .bin .neq (.t 15) (.c (.int .i64 0))⟩]
def r46_3 : List AInstr :=
  [⟨(some 17), none, .mv (.t 8)⟩, ⟨(some 6), none, .mv (.c (.vs [] .ex))⟩, ⟨(some 7), none, .mv (.c (.vs [] .ex))⟩, ⟨(some 8), none, .mv (.t 17)⟩]
def r46_4 : List AInstr :=
  [⟨(some 19), none, .mv (.t 0)⟩, ⟨(some 20), none, .load true 5 (.t 5)⟩, ⟨(some 21), none, .call 101 [(.t 19), (.t 20)]⟩, ⟨(some 18), none, .mv (.t 21)⟩, ⟨(some 22), none, .ext (.t 18) 0⟩, ⟨(some 23), none, .ext (.t 18) 1⟩, ⟨(some 7), none, .mv (.t 22)⟩, ⟨(some 8), none, .mv (.t 23)⟩]
def r46_5 : List AInstr :=
  [⟨(some 24), none, .mv (.t 8)⟩, ⟨(some 25), none, .bin .neq (.t 24) (.c (.int .i64 0))⟩]
def r46_6 : List AInstr :=
  [⟨(some 26), none, .mv (.t 8)⟩, ⟨(some 6), none, .mv (.c (.vs [] .ex))⟩, ⟨(some 7), none, .mv (.c (.vs [] .ex))⟩, ⟨(some 8), none, .mv (.t 26)⟩]
def r46_7 : List AInstr :=
  [⟨(some 27), none, .mv (.t 6)⟩, ⟨(some 28), none, .mv (.t 7)⟩, ⟨(some 6), none, .mv (.t 27)⟩, ⟨(some 7), none, .mv (.t 28)⟩, ⟨(some 8), none, .mv (.c (.int .i64 0))⟩]
def c46 : ACode :=
  .seq (.rg r46_0) (.seq (.seq (.rg r46_1) (.seq (.rg r46_2) (.cond (.t 16) (.seq (.rg r46_3) (.ret)) (.skip)))) (.seq (.seq (.rg r46_4) (.seq (.rg r46_5) (.cond (.t 25) (.seq (.rg r46_6) (.ret)) (.skip)))) (.seq (.rg r46_7) (.ret))))
def a46 : AFunc := { np := 3, nt := 29, res := [.tmp 6, .tmp 7, .tmp 8], body := c46 }

/- patch.Between$1 -/
def r47_0 : List AInstr :=
  [⟨(some 7), none, .mv (.t 1)⟩, ⟨(some 8), none, .bin .gtr (.t 7) (.c (.int .i64 0))⟩, ⟨(some 9), none, .mv (.t 8)⟩, ⟨(some 10), (some (9, false)), .mv (.t 2)⟩, ⟨(some 11), (some (9, false)), .bin .neq (.t 10) (.c (.str []))⟩, ⟨(some 12), none, .pick (.t 9) (.c (.bool true)) (.t 11)⟩]
def r47_1 : List AInstr :=
  [⟨(some 13), none, .load false 1 (.t 3)⟩, ⟨(some 14), none, .mv (.t 0)⟩, ⟨(some 15), none, .mv (.t 1)⟩, ⟨(some 16), none, .mv (.t 2)⟩, ⟨(some 17), none, .build [.int .u8 0, .int .i64 0, .str []] [(0, 1, (.t 14)), (1, 1, (.t 15)), (2, 1, (.t 16))]⟩, ⟨(some 18), none, .lit 3 [(.t 17)]⟩, ⟨(some 19), none, .app true 3 32 (.t 13) (.t 18)⟩, ⟨none, none, .store 1 (.t 3) (.t 19)⟩]
def c47 : ACode :=
  .seq (.rg r47_0) (.cond (.t 12) (.rg r47_1) (.skip))
def a47 : AFunc := { np := 4, nt := 20, res := [], body := c47 }

/- patch.join -/
def r48_0 : List AInstr :=
  [⟨(some 2), none, .mv (.c (.str []))⟩]
def r48_1 : List AInstr :=
  [⟨(some 3), none, .mv (.c (.vs [] .ex))⟩]
def r48_2 : List AInstr :=
  [⟨(some 6), none, .mv (.t 0)⟩, ⟨(some 7), none, .len .l (.t 6)⟩, ⟨(some 8), none, .mv (.c (.int .i64 0))⟩]
def r48_3 : List AInstr :=
  [⟨(some 9), none, .bin .lss (.t 8) (.t 7)⟩]
def r48_4 : List AInstr :=
  [⟨(some 10), none, .idxA 2 (.t 6) (.t 8)⟩, ⟨(some 11), none, .load true 2 (.t 10)⟩, ⟨(some 5), none, .alloc [.int .u64 0, .str []]⟩, ⟨none, none, .store 2 (.t 5) (.t 11)⟩]
def r48_5 : List AInstr :=
  [⟨(some 12), none, .mv (.t 3)⟩, ⟨(some 13), none, .fld 1 (.t 5)⟩, ⟨(some 14), none, .load false 1 (.t 13)⟩, ⟨(some 15), none, .appb (.t 12) (.t 14)⟩, ⟨(some 3), none, .mv (.t 15)⟩]
def r48_6 : List AInstr :=
  [⟨(some 16), none, .bin .add (.t 8) (.c (.int .i64 1))⟩, ⟨(some 8), none, .mv (.t 16)⟩]
def l48_7 : ACode :=
  .seq (.rg r48_3) (.seq (.cond (.t 9) (.skip) (.exit 0)) (.seq (.block 1 (.seq (.rg r48_4) (.rg r48_5))) (.rg r48_6)))
def r48_7 : List AInstr :=
  [⟨(some 17), none, .mv (.t 3)⟩, ⟨(some 18), none, .b2s (.t 17)⟩, ⟨(some 2), none, .mv (.t 18)⟩]
def c48 : ACode :=
  .seq (.rg r48_0) (.seq (.rg r48_1) (.seq (.seq (.rg r48_2) (.block 0 (.loop l48_7))) (.seq (.rg r48_7) (.ret))))
def a48 : AFunc := { np := 1, nt := 19, res := [.tmp 2], body := c48 }

/- delta.Lengths -/
def r49_0 : List AInstr :=
  [⟨(some 2), none, .mv (.c (.int .i64 0))⟩, ⟨(some 3), none, .mv (.c (.int .i64 0))⟩, ⟨(some 4), none, .mv (.c (.int .i64 0))⟩]
def r49_1 : List AInstr :=
  [⟨(some 9), none, .mv (.t 0)⟩, ⟨(some 10), none, .len .l (.t 9)⟩, ⟨(some 11), none, .bin .gtr (.t 10) (.c (.int .i64 4096))⟩]
def r49_2 : List AInstr :=
  [⟨(some 2), none, .mv (.c (.int .i64 0))⟩, ⟨(some 3), none, .mv (.c (.int .i64 0))⟩, ⟨(some 4), none, .mv (.c (.int .i64 5))⟩]
def r49_3 : List AInstr :=
  [⟨(some 12), none, .mv (.t 0)⟩, ⟨(some 13), none, .len .l (.t 12)⟩, ⟨(some 14), none, .mv (.c (.int .i64 0))⟩]
def r49_4 : List AInstr :=
  [⟨(some 15), none, .bin .lss (.t 14) (.t 13)⟩]
def r49_5 : List AInstr :=
  [⟨(some 16), none, .idxA 3 (.t 12) (.t 14)⟩, ⟨(some 17), none, .load true 3 (.t 16)⟩, ⟨(some 6), none, .alloc [.int .u8 0, .int .i64 0, .str []]⟩, ⟨none, none, .store 3 (.t 6) (.t 17)⟩]
def r49_6 : List AInstr :=
  [⟨(some 18), none, .load true 3 (.t 6)⟩, ⟨(some 19), none, .call 102 [(.t 18)]⟩, ⟨(some 20), none, .not (.t 19)⟩]
def r49_7 : List AInstr :=
  [⟨(some 2), none, .mv (.c (.int .i64 0))⟩, ⟨(some 3), none, .mv (.c (.int .i64 0))⟩, ⟨(some 4), none, .mv (.c (.int .i64 2))⟩]
def r49_8 : List AInstr :=
  [⟨(some 22), none, .load true 3 (.t 6)⟩, ⟨(some 23), none, .call 103 [(.t 22)]⟩, ⟨(some 21), none, .mv (.t 23)⟩, ⟨(some 24), none, .ext (.t 21) 0⟩, ⟨(some 25), none, .ext (.t 21) 1⟩, ⟨(some 7), none, .mv (.t 24)⟩, ⟨(some 8), none, .mv (.t 25)⟩]
def r49_9 : List AInstr :=
  [⟨(some 26), none, .mv (.t 7)⟩, ⟨(some 27), none, .mv (.t 2)⟩, ⟨(some 28), none, .bin .sub (.c (.int .i64 1048576)) (.t 27)⟩, ⟨(some 29), none, .bin .gtr (.t 26) (.t 28)⟩, ⟨(some 30), none, .mv (.t 29)⟩, ⟨(some 31), (some (30, false)), .mv (.t 8)⟩, ⟨(some 32), (some (30, false)), .mv (.t 3)⟩, ⟨(some 33), (some (30, false)), .bin .sub (.c (.int .i64 1048576)) (.t 32)⟩, ⟨(some 34), (some (30, false)), .bin .gtr (.t 31) (.t 33)⟩, ⟨(some 35), none, .pick (.t 30) (.c (.bool true)) (.t 34)⟩]
def r49_10 : List AInstr :=
  [⟨(some 2), none, .mv (.c (.int .i64 0))⟩, ⟨(some 3), none, .mv (.c (.int .i64 0))⟩, ⟨(some 4), none, .mv (.c (.int .i64 5))⟩]
def r49_11 : List AInstr :=
  [⟨(some 36), none, .mv (.t 2)⟩, ⟨(some 37), none, .mv (.t 7)⟩, ⟨(some 38), none, .bin .add (.t 36) (.t 37)⟩, ⟨(some 2), none, .mv (.t 38)⟩]
def r49_12 : List AInstr :=
  [⟨(some 39), none, .mv (.t 3)⟩, ⟨(some 40), none, .mv (.t 8)⟩, ⟨(some 41), none, .bin .add (.t 39) (.t 40)⟩, ⟨(some 3), none, .mv (.t 41)⟩]
def r49_13 : List AInstr :=
  [⟨(some 42), none, .bin .add (.t 14) (.c (.int .i64 1))⟩, ⟨(some 14), none, .mv (.t 42)⟩]
def l49_14 : ACode :=
  .seq (.rg r49_4) (.seq (.cond (.t 15) (.skip) (.exit 0)) (.seq (.block 1 (.seq (.rg r49_5) (.seq (.seq (.rg r49_6) (.cond (.t 20) (.seq (.rg r49_7) (.ret)) (.skip))) (.seq (.rg r49_8) (.seq (.seq (.rg r49_9) (.cond (.t 35) (.seq (.rg r49_10) (.ret)) (.skip))) (.seq (.rg r49_11) (.rg r49_12))))))) (.rg r49_13)))
def r49_14 : List AInstr :=
  [⟨(some 43), none, .mv (.t 2)⟩, ⟨(some 44), none, .mv (.t 3)⟩, ⟨(some 2), none, .mv (.t 43)⟩, ⟨(some 3), none, .mv (.t 44)⟩, ⟨(some 4), none, .mv (.c (.int .i64 0))⟩]
def c49 : ACode :=
  .seq (.rg r49_0) (.seq (.seq (.rg r49_1) (.cond (.t 11) (.seq (.rg r49_2) (.ret)) (.skip))) (.seq (.seq (.rg r49_3) (.block 0 (.loop l49_14))) (.seq (.rg r49_14) (.ret))))
def a49 : AFunc := { np := 1, nt := 45, res := [.tmp 2, .tmp 3, .tmp 4], body := c49 }

/- delta.form -/
def r50_0 : List AInstr :=
  [⟨(some 2), none, .mv (.c (.vs [] .ex))⟩]
def r50_1 : List AInstr :=
  [⟨(some 3), none, .alloc [.vs [] .ex]⟩]
def r50_2 : List AInstr :=
  [⟨(some 4), none, .alloc [.nilp, .vs [] .ex]⟩]
def r50_3 : List AInstr :=
  [⟨(some 5), none, .alloc [.int .i64 0]⟩, ⟨none, none, .store 1 (.t 5) (.c (.int .i64 0))⟩]
def r50_4 : List AInstr :=
  [⟨(some 10), none, .mkfn 104 [(.t 4), (.t 3), (.t 5)]⟩, ⟨(some 6), none, .mv (.t 10)⟩]
def r50_5 : List AInstr :=
  [⟨(some 11), none, .mv (.t 0)⟩, ⟨(some 12), none, .len .l (.t 11)⟩, ⟨(some 13), none, .mv (.c (.int .i64 0))⟩]
def r50_6 : List AInstr :=
  [⟨(some 14), none, .bin .lss (.t 13) (.t 12)⟩]
def r50_7 : List AInstr :=
  [⟨(some 15), none, .idxA 3 (.t 11) (.t 13)⟩, ⟨(some 16), none, .load true 3 (.t 15)⟩, ⟨(some 8), none, .alloc [.int .u8 0, .int .i64 0, .str []]⟩, ⟨none, none, .store 3 (.t 8) (.t 16)⟩]
def r50_8 : List AInstr :=
  [⟨(some 17), none, .fld 0 (.t 8)⟩, ⟨(some 18), none, .load false 1 (.t 17)⟩]
def r50_14 : List AInstr :=
  [⟨(some 50), none, .bin .eql (.t 18) (.c (.int .u8 2))⟩, ⟨(some 49), none, .mv (.t 50)⟩]
def r50_15 : List AInstr :=
  [⟨(some 51), none, .fld 2 (.t 8)⟩, ⟨(some 52), none, .load false 1 (.t 51)⟩, ⟨(some 53), none, .call 64 [(.t 4), (.t 52)]⟩]
def r50_16 : List AInstr :=
  [⟨(some 55), none, .bin .eql (.t 18) (.c (.int .u8 3))⟩, ⟨(some 54), none, .mv (.t 55)⟩]
def r50_17 : List AInstr :=
  [⟨(some 56), none, .load false 1 (.t 5)⟩, ⟨(some 57), none, .fld 1 (.t 8)⟩, ⟨(some 58), none, .load false 1 (.t 57)⟩, ⟨(some 59), none, .bin .add (.t 56) (.t 58)⟩, ⟨none, none, .store 1 (.t 5) (.t 59)⟩]
def r50_9 : List AInstr :=
  [⟨(some 19), none, .mv (.t 6)⟩, ⟨(some 20), none, .callv (.t 19) []⟩]
def r50_10 : List AInstr :=
  [⟨(some 21), none, .load false 1 (.t 3)⟩, ⟨(some 22), none, .len .l (.t 21)⟩, ⟨(some 9), none, .mv (.t 22)⟩]
def r50_11 : List AInstr :=
  [⟨(some 23), none, .mv (.t 9)⟩, ⟨(some 24), none, .bin .gtr (.t 23) (.c (.int .i64 0))⟩, ⟨(some 25), none, .mv (.t 24)⟩, ⟨(some 26), (some (25, true)), .load false 1 (.t 3)⟩, ⟨(some 27), (some (25, true)), .mv (.t 9)⟩, ⟨(some 28), (some (25, true)), .bin .sub (.t 27) (.c (.int .i64 1))⟩, ⟨(some 29), (some (25, true)), .idxA 3 (.t 26) (.t 28)⟩, ⟨(some 30), (some (25, true)), .fld 0 (.t 29)⟩, ⟨(some 31), (some (25, true)), .load false 1 (.t 30)⟩, ⟨(some 32), (some (25, true)), .bin .eql (.t 31) (.c (.int .u8 1))⟩, ⟨(some 33), none, .pick (.t 25) (.t 32) (.c (.bool false))⟩]
def r50_12 : List AInstr :=
  [⟨(some 34), none, .load false 1 (.t 3)⟩, ⟨(some 35), none, .mv (.t 9)⟩, ⟨(some 36), none, .bin .sub (.t 35) (.c (.int .i64 1))⟩, ⟨(some 37), none, .idxA 3 (.t 34) (.t 36)⟩, ⟨(some 38), none, .fld 1 (.t 37)⟩, ⟨(some 39), none, .load false 1 (.t 38)⟩, ⟨(some 40), none, .fld 1 (.t 8)⟩, ⟨(some 41), none, .load false 1 (.t 40)⟩, ⟨(some 42), none, .bin .add (.t 39) (.t 41)⟩, ⟨(some 43), none, .idxA 3 (.t 34) (.t 36)⟩, ⟨(some 44), none, .fld 1 (.t 43)⟩, ⟨none, none, .store 1 (.t 44) (.t 42)⟩]
def r50_13 : List AInstr :=
  [⟨(some 45), none, .load false 1 (.t 3)⟩, ⟨(some 46), none, .load true 3 (.t 8)⟩, ⟨(some 47), none, .lit 3 [(.t 46)]⟩, ⟨(some 48), none, .app true 3 32 (.t 45) (.t 47)⟩, ⟨none, none, .store 1 (.t 3) (.t 48)⟩]
def r50_18 : List AInstr :=
  [⟨(some 60), none, .bin .add (.t 13) (.c (.int .i64 1))⟩, ⟨(some 13), none, .mv (.t 60)⟩]
def l50_19 : ACode :=
  .seq (.rg r50_6) (.seq (.cond (.t 14) (.skip) (.exit 0)) (.seq (.block 1 (.seq (.rg r50_7) (.seq (.rg r50_8) (.block 2 (.seq (.rg r50_14) (.cond (.t 49) (.rg r50_15) (.seq (.rg r50_16) (.cond (.t 54) (.rg r50_17) (.seq (.rg r50_9) (.seq (.rg r50_10) (.seq (.rg r50_11) (.cond (.t 33) (.rg r50_12) (.rg r50_13))))))))))))) (.rg r50_18)))
def r50_19 : List AInstr :=
  [⟨(some 61), none, .mv (.t 6)⟩, ⟨(some 62), none, .callv (.t 61) []⟩]
def r50_20 : List AInstr :=
  [⟨(some 63), none, .load false 1 (.t 3)⟩, ⟨(some 2), none, .mv (.t 63)⟩]
def c50 : ACode :=
  .seq (.rg r50_0) (.seq (.rg r50_1) (.seq (.rg r50_2) (.seq (.rg r50_3) (.seq (.rg r50_4) (.seq (.seq (.rg r50_5) (.block 0 (.loop l50_19))) (.seq (.rg r50_19) (.seq (.rg r50_20) (.ret))))))))
def a50 : AFunc := { np := 1, nt := 64, res := [.tmp 2], body := c50 }

/- apply.fits -/
def r51_0 : List AInstr :=
  [⟨(some 4), none, .mv (.c (.int .i64 0))⟩]
def r51_1 : List AInstr :=
  [⟨(some 9), none, .mv (.t 1)⟩, ⟨(some 10), none, .call 49 [(.t 9)]⟩, ⟨(some 8), none, .mv (.t 10)⟩, ⟨(some 11), none, .ext (.t 8) 0⟩, ⟨(some 12), none, .ext (.t 8) 1⟩, ⟨(some 13), none, .ext (.t 8) 2⟩, ⟨(some 5), none, .mv (.t 11)⟩, ⟨(some 6), none, .mv (.t 12)⟩, ⟨(some 7), none, .mv (.t 13)⟩]
def r51_2 : List AInstr :=
  [⟨(some 14), none, .mv (.t 7)⟩, ⟨(some 15), none, .bin .eql (.t 14) (.c (.int .i64 0))⟩, ⟨(some 16), none, .mv (.t 15)⟩, ⟨(some 17), (some (16, true)), .mv (.t 5)⟩, ⟨(some 18), (some (16, true)), .mv (.t 0)⟩, ⟨(some 19), (some (16, true)), .len .s (.t 18)⟩, ⟨(some 20), (some (16, true)), .bin .neq (.t 17) (.t 19)⟩, ⟨(some 21), none, .pick (.t 16) (.t 20) (.c (.bool false))⟩]
def r51_3 : List AInstr :=
  [⟨(some 4), none, .mv (.c (.int .i64 21))⟩]
def r51_4 : List AInstr :=
  [⟨(some 22), none, .mv (.t 7)⟩, ⟨(some 4), none, .mv (.t 22)⟩]
def c51 : ACode :=
  .seq (.rg r51_0) (.seq (.rg r51_1) (.seq (.seq (.rg r51_2) (.cond (.t 21) (.seq (.rg r51_3) (.ret)) (.skip))) (.seq (.rg r51_4) (.ret))))
def a51 : AFunc := { np := 2, nt := 23, res := [.tmp 4], body := c51 }

/- apply.parts -/
def r52_0 : List AInstr :=
  [⟨(some 2), none, .box 1 (.t 0)⟩, ⟨(some 4), none, .mv (.c (.str []))⟩, ⟨(some 5), none, .mv (.c (.str []))⟩, ⟨(some 6), none, .mv (.c (.str []))⟩]
def r52_1 : List AInstr :=
  [⟨(some 7), none, .alloc [.nilp, .vs [] .ex]⟩, ⟨(some 8), none, .alloc [.nilp, .vs [] .ex]⟩, ⟨(some 9), none, .alloc [.nilp, .vs [] .ex]⟩]
def r52_2 : List AInstr :=
  [⟨(some 14), none, .mkfn 106 [(.t 2)]⟩, ⟨(some 10), none, .alloc [.nilfn]⟩, ⟨none, none, .store 1 (.t 10) (.t 14)⟩]
def r52_3 : List AInstr :=
  [⟨(some 15), none, .mkmap⟩, ⟨(some 16), none, .mkfn 107 [(.t 7), (.t 10)]⟩, ⟨none, none, .mapup .i (.t 15) (.c (.int .u8 1)) (.t 16)⟩, ⟨(some 17), none, .mkfn 108 [(.t 8), (.t 10)]⟩, ⟨none, none, .mapup .i (.t 15) (.c (.int .u8 3)) (.t 17)⟩, ⟨(some 18), none, .mkfn 109 [(.t 7), (.t 9)]⟩, ⟨none, none, .mapup .i (.t 15) (.c (.int .u8 2)) (.t 18)⟩, ⟨(some 19), none, .mv (.t 15)⟩, ⟨(some 11), none, .mv (.t 19)⟩]
def r52_4 : List AInstr :=
  [⟨(some 20), none, .mv (.t 1)⟩, ⟨(some 21), none, .len .l (.t 20)⟩, ⟨(some 22), none, .mv (.c (.int .i64 0))⟩]
def r52_5 : List AInstr :=
  [⟨(some 23), none, .bin .lss (.t 22) (.t 21)⟩]
def r52_6 : List AInstr :=
  [⟨(some 24), none, .idxA 3 (.t 20) (.t 22)⟩, ⟨(some 25), none, .load true 3 (.t 24)⟩, ⟨(some 13), none, .alloc [.int .u8 0, .int .i64 0, .str []]⟩, ⟨none, none, .store 3 (.t 13) (.t 25)⟩]
def r52_7 : List AInstr :=
  [⟨(some 26), none, .mv (.t 11)⟩, ⟨(some 27), none, .fld 0 (.t 13)⟩, ⟨(some 28), none, .load false 1 (.t 27)⟩, ⟨(some 29), none, .lookup .i (.nilfn) (.t 26) (.t 28) false⟩, ⟨(some 30), none, .load true 3 (.t 13)⟩, ⟨(some 31), none, .callv (.t 29) [(.t 30)]⟩]
def r52_8 : List AInstr :=
  [⟨(some 32), none, .bin .add (.t 22) (.c (.int .i64 1))⟩, ⟨(some 22), none, .mv (.t 32)⟩]
def l52_9 : ACode :=
  .seq (.rg r52_5) (.seq (.cond (.t 23) (.skip) (.exit 0)) (.seq (.block 1 (.seq (.rg r52_6) (.rg r52_7))) (.rg r52_8)))
def r52_9 : List AInstr :=
  [⟨(some 33), none, .call 66 [(.t 7)]⟩, ⟨(some 34), none, .call 66 [(.t 8)]⟩, ⟨(some 35), none, .call 66 [(.t 9)]⟩, ⟨(some 4), none, .mv (.t 33)⟩, ⟨(some 5), none, .mv (.t 34)⟩, ⟨(some 6), none, .mv (.t 35)⟩]
def c52 : ACode :=
  .seq (.rg r52_0) (.seq (.rg r52_1) (.seq (.rg r52_2) (.seq (.rg r52_3) (.seq (.seq (.rg r52_4) (.block 0 (.loop l52_9))) (.seq (.rg r52_9) (.ret))))))
def a52 : AFunc := { np := 2, nt := 36, res := [.tmp 4, .tmp 5, .tmp 6], body := c52 }

/- plan.Keep -/
def r53_0 : List AInstr :=
  [⟨(some 3), none, .box 5 (.t 1)⟩, ⟨(some 4), none, .alloc [.int .u64 0, .int .i64 0, .int .i64 0, .int .i64 0, .int .i64 0, .str [], .vs [] .ex]⟩, ⟨(some 5), none, .mv (.c (.int .i64 0))⟩]
def r53_1 : List AInstr :=
  [⟨(some 7), none, .mv (.t 0)⟩, ⟨(some 8), none, .eqv .ptr false (.t 7) (.c (.nilp))⟩]
def r53_2 : List AInstr :=
  [⟨(some 9), none, .build [.int .u64 0, .int .i64 0, .int .i64 0, .int .i64 0, .int .i64 0, .str [], .vs [] .ex] []⟩, ⟨none, none, .store 7 (.t 4) (.t 9)⟩, ⟨(some 5), none, .mv (.c (.int .i64 1))⟩]
def r53_3 : List AInstr :=
  [⟨(some 10), none, .load true 5 (.t 3)⟩, ⟨(some 11), none, .build [.int .u64 0, .int .i64 0, .int .i64 0, .int .i64 0, .int .i64 0] []⟩, ⟨(some 12), none, .eqagg false [.i, .i, .i, .i, .i] (.t 10) (.t 11)⟩]
def r53_4 : List AInstr :=
  [⟨(some 13), none, .build [.int .u64 0, .int .i64 0, .int .i64 0, .int .i64 0, .int .i64 0, .str [], .vs [] .ex] []⟩, ⟨none, none, .store 7 (.t 4) (.t 13)⟩, ⟨(some 5), none, .mv (.c (.int .i64 0))⟩]
def r53_5 : List AInstr :=
  [⟨(some 14), none, .fld 0 (.t 3)⟩, ⟨(some 15), none, .load false 1 (.t 14)⟩, ⟨(some 16), none, .bin .eql (.t 15) (.c (.int .u64 0))⟩]
def r53_6 : List AInstr :=
  [⟨(some 17), none, .build [.int .u64 0, .int .i64 0, .int .i64 0, .int .i64 0, .int .i64 0, .str [], .vs [] .ex] []⟩, ⟨none, none, .store 7 (.t 4) (.t 17)⟩, ⟨(some 5), none, .mv (.c (.int .i64 2))⟩]
def r53_7 : List AInstr :=
  [⟨(some 18), none, .mv (.t 0)⟩, ⟨(some 19), none, .fld 0 (.t 3)⟩, ⟨(some 20), none, .load false 1 (.t 19)⟩, ⟨(some 21), none, .fld 1 (.t 3)⟩, ⟨(some 22), none, .load false 1 (.t 21)⟩, ⟨(some 23), none, .fld 2 (.t 3)⟩, ⟨(some 24), none, .load true 3 (.t 23)⟩, ⟨(some 25), none, .call 110 [(.t 18), (.t 20), (.t 22), (.t 24)]⟩, ⟨(some 6), none, .mv (.t 25)⟩]
def r53_8 : List AInstr :=
  [⟨(some 26), none, .mv (.t 6)⟩, ⟨(some 27), none, .bin .neq (.t 26) (.c (.int .i64 0))⟩]
def r53_9 : List AInstr :=
  [⟨(some 28), none, .build [.int .u64 0, .int .i64 0, .int .i64 0, .int .i64 0, .int .i64 0, .str [], .vs [] .ex] []⟩, ⟨(some 29), none, .mv (.t 6)⟩, ⟨none, none, .store 7 (.t 4) (.t 28)⟩, ⟨(some 5), none, .mv (.t 29)⟩]
def r53_10 : List AInstr :=
  [⟨(some 30), none, .fld 0 (.t 3)⟩, ⟨(some 31), none, .load false 1 (.t 30)⟩, ⟨(some 32), none, .fld 1 (.t 3)⟩, ⟨(some 33), none, .load false 1 (.t 32)⟩, ⟨(some 34), none, .fld 2 (.t 3)⟩, ⟨(some 35), none, .load true 3 (.t 34)⟩, ⟨(some 36), none, .build [.int .u64 0, .int .i64 0, .int .i64 0, .int .i64 0, .int .i64 0, .str [], .vs [] .ex] [(0, 1, (.t 31)), (1, 1, (.t 33)), (2, 3, (.t 35))]⟩, ⟨none, none, .store 7 (.t 4) (.t 36)⟩, ⟨(some 5), none, .mv (.c (.int .i64 0))⟩]
def c53 : ACode :=
  .seq (.rg r53_0) (.seq (.seq (.rg r53_1) (.cond (.t 8) (.seq (.rg r53_2) (.ret)) (.skip))) (.seq (.seq (.rg r53_3) (.cond (.t 12) (.seq (.rg r53_4) (.ret)) (.skip))) (.seq (.seq (.rg r53_5) (.cond (.t 16) (.seq (.rg r53_6) (.ret)) (.skip))) (.seq (.seq (.rg r53_7) (.seq (.rg r53_8) (.cond (.t 27) (.seq (.rg r53_9) (.ret)) (.skip)))) (.seq (.rg r53_10) (.ret))))))
def a53 : AFunc := { np := 2, nt := 37, res := [.cell 4 true 7, .tmp 5], body := c53 }

/- (*patch.work).piece -/
def r54_0 : List AInstr :=
  [⟨(some 3), none, .box 3 (.t 1)⟩, ⟨(some 4), none, .mv (.c (.int .i64 0))⟩]
def r54_1 : List AInstr :=
  [⟨(some 7), none, .build [.int .u64 0, .int .i64 0, .int .i64 0, .int .i64 0, .int .i64 0, .str [], .vs [] .ex] []⟩, ⟨(some 5), none, .alloc [.int .u64 0, .int .i64 0, .int .i64 0, .int .i64 0, .int .i64 0, .str [], .vs [] .ex]⟩, ⟨none, none, .store 7 (.t 5) (.t 7)⟩, ⟨(some 6), none, .mv (.c (.int .i64 0))⟩]
def r54_2 : List AInstr :=
  [⟨(some 8), none, .fld 0 (.t 3)⟩, ⟨(some 9), none, .load false 1 (.t 8)⟩, ⟨(some 10), none, .bin .eql (.t 9) (.c (.int .u8 2))⟩]
def r54_3 : List AInstr :=
  [⟨(some 12), none, .fld 2 (.t 3)⟩, ⟨(some 13), none, .load false 1 (.t 12)⟩, ⟨(some 14), none, .call 91 [(.t 13)]⟩, ⟨(some 11), none, .mv (.t 14)⟩, ⟨(some 15), none, .ext (.t 11) 0⟩, ⟨(some 16), none, .ext (.t 11) 1⟩, ⟨none, none, .store 7 (.t 5) (.t 15)⟩, ⟨(some 6), none, .mv (.t 16)⟩]
def r54_4 : List AInstr :=
  [⟨(some 18), none, .mv (.t 0)⟩, ⟨(some 19), none, .mv (.t 0)⟩, ⟨(some 20), none, .nilc (.t 19)⟩, ⟨(some 21), none, .fld 0 (.t 20)⟩, ⟨(some 22), none, .load false 1 (.t 21)⟩, ⟨(some 23), none, .mv (.t 0)⟩, ⟨(some 24), none, .nilc (.t 23)⟩, ⟨(some 25), none, .fld 8 (.t 24)⟩, ⟨(some 26), none, .load true 7 (.t 25)⟩, ⟨(some 27), none, .fld 1 (.t 3)⟩, ⟨(some 28), none, .load false 1 (.t 27)⟩, ⟨(some 29), none, .call 111 [(.t 22), (.t 26), (.t 28)]⟩, ⟨(some 17), none, .mv (.t 29)⟩, ⟨(some 30), none, .ext (.t 17) 0⟩, ⟨(some 31), none, .ext (.t 17) 1⟩, ⟨(some 32), none, .ext (.t 17) 2⟩, ⟨none, none, .store 7 (.t 5) (.t 30)⟩, ⟨(some 33), none, .nilc (.t 18)⟩, ⟨(some 34), none, .fld 8 (.t 33)⟩, ⟨none, none, .store 7 (.t 34) (.t 31)⟩, ⟨(some 6), none, .mv (.t 32)⟩]
def r54_5 : List AInstr :=
  [⟨(some 35), none, .mv (.t 6)⟩, ⟨(some 36), none, .bin .neq (.t 35) (.c (.int .i64 0))⟩, ⟨(some 37), none, .mv (.t 36)⟩, ⟨(some 38), (some (37, false)), .fld 0 (.t 3)⟩, ⟨(some 39), (some (37, false)), .load false 1 (.t 38)⟩, ⟨(some 40), (some (37, false)), .bin .eql (.t 39) (.c (.int .u8 3))⟩, ⟨(some 41), none, .pick (.t 37) (.c (.bool true)) (.t 40)⟩]
def r54_6 : List AInstr :=
  [⟨(some 42), none, .mv (.t 6)⟩, ⟨(some 4), none, .mv (.t 42)⟩]
def r54_7 : List AInstr :=
  [⟨(some 44), none, .mv (.t 0)⟩, ⟨(some 45), none, .mv (.t 0)⟩, ⟨(some 46), none, .nilc (.t 45)⟩, ⟨(some 47), none, .fld 0 (.t 46)⟩, ⟨(some 48), none, .load false 1 (.t 47)⟩, ⟨(some 49), none, .mv (.t 0)⟩, ⟨(some 50), none, .nilc (.t 49)⟩, ⟨(some 51), none, .fld 1 (.t 50)⟩, ⟨(some 52), none, .load true 7 (.t 51)⟩, ⟨(some 53), none, .load true 7 (.t 5)⟩, ⟨(some 54), none, .call 112 [(.t 48), (.t 52), (.t 53)]⟩, ⟨(some 43), none, .mv (.t 54)⟩, ⟨(some 55), none, .ext (.t 43) 0⟩, ⟨(some 56), none, .ext (.t 43) 1⟩, ⟨(some 57), none, .nilc (.t 44)⟩, ⟨(some 58), none, .fld 1 (.t 57)⟩, ⟨none, none, .store 7 (.t 58) (.t 55)⟩, ⟨(some 6), none, .mv (.t 56)⟩]
def r54_8 : List AInstr :=
  [⟨(some 59), none, .mv (.t 6)⟩, ⟨(some 4), none, .mv (.t 59)⟩]
def c54 : ACode :=
  .seq (.rg r54_0) (.seq (.rg r54_1) (.seq (.seq (.rg r54_2) (.cond (.t 10) (.rg r54_3) (.rg r54_4))) (.seq (.seq (.rg r54_5) (.cond (.t 41) (.seq (.rg r54_6) (.ret)) (.skip))) (.seq (.rg r54_7) (.seq (.rg r54_8) (.ret))))))
def a54 : AFunc := { np := 2, nt := 60, res := [.tmp 4], body := c54 }

/- plan.Dropped -/
def r55_0 : List AInstr :=
  [⟨(some 4), none, .box 5 (.t 1)⟩, ⟨(some 5), none, .box 7 (.t 2)⟩, ⟨(some 6), none, .mv (.c (.vs [] .ex))⟩, ⟨(some 7), none, .mv (.c (.int .i64 0))⟩]
def r55_1 : List AInstr :=
  [⟨(some 18), none, .mv (.t 0)⟩, ⟨(some 19), none, .load true 5 (.t 4)⟩, ⟨(some 20), none, .call 53 [(.t 18), (.t 19)]⟩, ⟨(some 17), none, .mv (.t 20)⟩, ⟨(some 21), none, .ext (.t 17) 0⟩, ⟨(some 22), none, .ext (.t 17) 1⟩, ⟨(some 8), none, .alloc [.int .u64 0, .int .i64 0, .int .i64 0, .int .i64 0, .int .i64 0, .str [], .vs [] .ex]⟩, ⟨none, none, .store 7 (.t 8) (.t 21)⟩, ⟨(some 9), none, .mv (.t 22)⟩]
def r55_2 : List AInstr :=
  [⟨(some 23), none, .mv (.t 9)⟩, ⟨(some 24), none, .bin .neq (.t 23) (.c (.int .i64 0))⟩]
def r55_3 : List AInstr :=
  [⟨(some 25), none, .mv (.t 9)⟩, ⟨(some 6), none, .mv (.c (.vs [] .ex))⟩, ⟨(some 7), none, .mv (.t 25)⟩]
def r55_4 : List AInstr :=
  [⟨(some 26), none, .mv (.t 0)⟩, ⟨(some 27), none, .load true 7 (.t 5)⟩, ⟨(some 28), none, .call 93 [(.t 26), (.t 27)]⟩, ⟨(some 10), none, .mv (.t 28)⟩]
def r55_5 : List AInstr :=
  [⟨(some 29), none, .mv (.t 10)⟩, ⟨(some 30), none, .bin .neq (.t 29) (.c (.int .i64 0))⟩]
def r55_6 : List AInstr :=
  [⟨(some 31), none, .mv (.t 10)⟩, ⟨(some 6), none, .mv (.c (.vs [] .ex))⟩, ⟨(some 7), none, .mv (.t 31)⟩]
def r55_7 : List AInstr :=
  [⟨(some 32), none, .mkmap⟩, ⟨(some 11), none, .alloc [.nilmap]⟩, ⟨none, none, .store 1 (.t 11) (.t 32)⟩]
def r55_8 : List AInstr :=
  [⟨(some 33), none, .load true 7 (.t 5)⟩, ⟨(some 34), none, .call 113 [(.t 33)]⟩, ⟨(some 35), none, .len .l (.t 34)⟩, ⟨(some 36), none, .mv (.c (.int .i64 0))⟩]
def r55_9 : List AInstr :=
  [⟨(some 37), none, .bin .lss (.t 36) (.t 35)⟩]
def r55_10 : List AInstr :=
  [⟨(some 38), none, .idxA 1 (.t 34) (.t 36)⟩, ⟨(some 39), none, .load false 1 (.t 38)⟩, ⟨(some 13), none, .mv (.t 39)⟩]
def r55_11 : List AInstr :=
  [⟨(some 40), none, .mv (.t 0)⟩, ⟨(some 41), none, .mv (.t 13)⟩, ⟨(some 42), none, .load false 1 (.t 11)⟩, ⟨(some 43), none, .call 114 [(.t 40), (.t 41), (.t 42), (.c (.fn 115 []))]⟩, ⟨(some 14), none, .mv (.t 43)⟩]
def r55_12 : List AInstr :=
  [⟨(some 44), none, .mv (.t 14)⟩, ⟨(some 45), none, .bin .neq (.t 44) (.c (.int .i64 0))⟩]
def r55_13 : List AInstr :=
  [⟨(some 46), none, .mv (.t 14)⟩, ⟨(some 6), none, .mv (.c (.vs [] .ex))⟩, ⟨(some 7), none, .mv (.t 46)⟩]
def r55_14 : List AInstr :=
  [⟨(some 47), none, .bin .add (.t 36) (.c (.int .i64 1))⟩, ⟨(some 36), none, .mv (.t 47)⟩]
def l55_15 : ACode :=
  .seq (.rg r55_9) (.seq (.cond (.t 37) (.skip) (.exit 0)) (.seq (.block 1 (.seq (.rg r55_10) (.seq (.rg r55_11) (.seq (.rg r55_12) (.cond (.t 45) (.seq (.rg r55_13) (.ret)) (.skip)))))) (.rg r55_14)))
def r55_15 : List AInstr :=
  [⟨(some 15), none, .alloc [.vs [] .ex]⟩]
def r55_16 : List AInstr :=
  [⟨(some 48), none, .fld 0 (.t 4)⟩, ⟨(some 49), none, .load false 1 (.t 48)⟩, ⟨(some 50), none, .bin .eql (.t 49) (.c (.int .u64 0))⟩]
def r55_17 : List AInstr :=
  [⟨(some 6), none, .mv (.c (.vs [] .ex))⟩, ⟨(some 7), none, .mv (.c (.int .i64 0))⟩]
def r55_18 : List AInstr :=
  [⟨(some 51), none, .mv (.t 0)⟩, ⟨(some 52), none, .fld 0 (.t 4)⟩, ⟨(some 53), none, .load false 1 (.t 52)⟩, ⟨(some 54), none, .mkmap⟩, ⟨(some 55), none, .mkfn 116 [(.t 11), (.t 15)]⟩, ⟨(some 56), none, .call 114 [(.t 51), (.t 53), (.t 54), (.t 55)]⟩, ⟨(some 16), none, .mv (.t 56)⟩]
def r55_19 : List AInstr :=
  [⟨(some 57), none, .mv (.t 16)⟩, ⟨(some 58), none, .bin .neq (.t 57) (.c (.int .i64 0))⟩]
def r55_20 : List AInstr :=
  [⟨(some 59), none, .mv (.t 16)⟩, ⟨(some 6), none, .mv (.c (.vs [] .ex))⟩, ⟨(some 7), none, .mv (.t 59)⟩]
def r55_21 : List AInstr :=
  [⟨(some 60), none, .load false 1 (.t 15)⟩, ⟨(some 6), none, .mv (.t 60)⟩, ⟨(some 7), none, .mv (.c (.int .i64 0))⟩]
def c55 : ACode :=
  .seq (.rg r55_0) (.seq (.seq (.rg r55_1) (.seq (.rg r55_2) (.cond (.t 24) (.seq (.rg r55_3) (.ret)) (.skip)))) (.seq (.seq (.rg r55_4) (.seq (.rg r55_5) (.cond (.t 30) (.seq (.rg r55_6) (.ret)) (.skip)))) (.seq (.rg r55_7) (.seq (.seq (.rg r55_8) (.block 0 (.loop l55_15))) (.seq (.rg r55_15) (.seq (.seq (.rg r55_16) (.cond (.t 50) (.seq (.rg r55_17) (.ret)) (.skip))) (.seq (.rg r55_18) (.seq (.seq (.rg r55_19) (.cond (.t 58) (.seq (.rg r55_20) (.ret)) (.skip))) (.seq (.rg r55_21) (.ret))))))))))
def a55 : AFunc := { np := 3, nt := 61, res := [.tmp 6, .tmp 7], body := c55 }

/- rope.Leaves -/
def r56_0 : List AInstr :=
  [⟨(some 3), none, .box 5 (.t 1)⟩, ⟨(some 4), none, .mv (.c (.vs [] .ex))⟩, ⟨(some 5), none, .mv (.c (.int .i64 0))⟩]
def r56_1 : List AInstr :=
  [⟨(some 10), none, .mv (.t 0)⟩, ⟨(some 11), none, .load true 5 (.t 3)⟩, ⟨(some 12), none, .call 117 [(.t 10), (.t 11)]⟩, ⟨(some 6), none, .mv (.t 12)⟩]
def r56_2 : List AInstr :=
  [⟨(some 13), none, .mv (.t 6)⟩, ⟨(some 14), none, .bin .neq (.t 13) (.c (.int .i64 0))⟩]
def r56_3 : List AInstr :=
  [⟨(some 15), none, .mv (.t 6)⟩, ⟨(some 4), none, .mv (.c (.vs [] .ex))⟩, ⟨(some 5), none, .mv (.t 15)⟩]
def r56_4 : List AInstr :=
  [⟨(some 7), none, .alloc [.vs [] .ex]⟩]
def r56_5 : List AInstr :=
  [⟨(some 16), none, .mv (.t 0)⟩, ⟨(some 17), none, .load true 5 (.t 3)⟩, ⟨(some 18), none, .call 118 [(.t 16), (.t 17)]⟩]
def r56_6 : List AInstr :=
  [⟨(some 9), none, .alloc [.int .i64 0, .str [], .vs [] .ex, .int .i64 0]⟩, ⟨none, none, .store 4 (.t 9) (.t 20)⟩]
def x56_7 : ACode :=
  .rg r56_6
def r56_7 : List AInstr :=
  [⟨(some 21), none, .fld 0 (.t 9)⟩, ⟨(some 22), none, .fld 0 (.t 21)⟩, ⟨(some 23), none, .load false 1 (.t 22)⟩, ⟨(some 24), none, .bin .eql (.t 23) (.c (.int .i64 0))⟩]
def r56_8 : List AInstr :=
  [⟨(some 25), none, .load false 1 (.t 7)⟩, ⟨(some 26), none, .fld 0 (.t 9)⟩, ⟨(some 27), none, .fld 1 (.t 26)⟩, ⟨(some 28), none, .load false 1 (.t 27)⟩, ⟨(some 29), none, .lit 1 [(.t 28)]⟩, ⟨(some 30), none, .app false 1 16 (.t 25) (.t 29)⟩, ⟨none, none, .store 1 (.t 7) (.t 30)⟩]
def y56_10 : ACode :=
  .block 1 (.seq (.rg r56_7) (.cond (.t 24) (.rg r56_8) (.skip)))
def r56_9 : List AInstr :=
  [⟨(some 31), none, .load false 1 (.t 7)⟩, ⟨(some 4), none, .mv (.t 31)⟩, ⟨(some 5), none, .mv (.c (.int .i64 0))⟩]
def c56 : ACode :=
  .seq (.rg r56_0) (.seq (.seq (.rg r56_1) (.seq (.rg r56_2) (.cond (.t 14) (.seq (.rg r56_3) (.ret)) (.skip)))) (.seq (.rg r56_4) (.seq (.seq (.rg r56_5) (.block 0 (.rf (.t 18) [19, 20] x56_7 y56_10))) (.seq (.rg r56_9) (.ret)))))
def a56 : AFunc := { np := 2, nt := 32, res := [.tmp 4, .tmp 5], body := c56 }

/- rope.New -/
def r57_0 : List AInstr :=
  [⟨(some 4), none, .alloc [.int .u64 0, .int .i64 0, .int .i64 0, .int .i64 0, .int .i64 0]⟩, ⟨(some 5), none, .mv (.c (.int .i64 0))⟩]
def r57_1 : List AInstr :=
  [⟨(some 10), none, .mv (.t 0)⟩, ⟨(some 11), none, .eqv .ptr false (.t 10) (.c (.nilp))⟩]
def r57_2 : List AInstr :=
  [⟨(some 12), none, .build [.int .u64 0, .int .i64 0, .int .i64 0, .int .i64 0, .int .i64 0] []⟩, ⟨none, none, .store 5 (.t 4) (.t 12)⟩, ⟨(some 5), none, .mv (.c (.int .i64 1))⟩]
def r57_3 : List AInstr :=
  [⟨(some 14), none, .mv (.t 1)⟩, ⟨(some 15), none, .call 91 [(.t 14)]⟩, ⟨(some 13), none, .mv (.t 15)⟩, ⟨(some 16), none, .ext (.t 13) 0⟩, ⟨(some 17), none, .ext (.t 13) 1⟩, ⟨(some 6), none, .alloc [.int .u64 0, .int .i64 0, .int .i64 0, .int .i64 0, .int .i64 0, .str [], .vs [] .ex]⟩, ⟨none, none, .store 7 (.t 6) (.t 16)⟩, ⟨(some 7), none, .mv (.t 17)⟩]
def r57_4 : List AInstr :=
  [⟨(some 18), none, .mv (.t 7)⟩, ⟨(some 19), none, .bin .neq (.t 18) (.c (.int .i64 0))⟩]
def r57_5 : List AInstr :=
  [⟨(some 20), none, .build [.int .u64 0, .int .i64 0, .int .i64 0, .int .i64 0, .int .i64 0] []⟩, ⟨(some 21), none, .mv (.t 7)⟩, ⟨none, none, .store 5 (.t 4) (.t 20)⟩, ⟨(some 5), none, .mv (.t 21)⟩]
def r57_6 : List AInstr :=
  [⟨(some 23), none, .mv (.t 0)⟩, ⟨(some 24), none, .load true 7 (.t 6)⟩, ⟨(some 25), none, .call 44 [(.t 23), (.t 24)]⟩, ⟨(some 22), none, .mv (.t 25)⟩, ⟨(some 26), none, .ext (.t 22) 0⟩, ⟨(some 27), none, .ext (.t 22) 1⟩, ⟨(some 28), none, .ext (.t 22) 2⟩, ⟨(some 8), none, .alloc [.int .u64 0, .int .i64 0, .int .i64 0, .int .i64 0, .int .i64 0]⟩, ⟨none, none, .store 5 (.t 8) (.t 26)⟩, ⟨(some 9), none, .mv (.t 27)⟩, ⟨(some 7), none, .mv (.t 28)⟩]
def r57_7 : List AInstr :=
  [⟨(some 29), none, .load true 5 (.t 8)⟩, ⟨(some 30), none, .mv (.t 7)⟩, ⟨none, none, .store 5 (.t 4) (.t 29)⟩, ⟨(some 5), none, .mv (.t 30)⟩]
def c57 : ACode :=
  .seq (.rg r57_0) (.seq (.seq (.rg r57_1) (.cond (.t 11) (.seq (.rg r57_2) (.ret)) (.skip))) (.seq (.rg r57_3) (.seq (.seq (.rg r57_4) (.cond (.t 19) (.seq (.rg r57_5) (.ret)) (.skip))) (.seq (.rg r57_6) (.seq (.rg r57_7) (.ret))))))
def a57 : AFunc := { np := 2, nt := 31, res := [.cell 4 true 5, .tmp 5], body := c57 }

/- patch.counts -/
def r59_0 : List AInstr :=
  [⟨(some 4), none, .box 5 (.t 1)⟩, ⟨(some 5), none, .box 5 (.t 2)⟩, ⟨(some 6), none, .mv (.c (.nilmap))⟩, ⟨(some 7), none, .mv (.c (.int .i64 0))⟩]
def r59_1 : List AInstr :=
  [⟨(some 18), none, .mkmap⟩, ⟨(some 8), none, .mv (.t 18)⟩]
def r59_2 : List AInstr :=
  [⟨(some 19), none, .load true 5 (.t 4)⟩, ⟨(some 20), none, .load true 5 (.t 5)⟩, ⟨(some 21), none, .lit 5 [(.t 19), (.t 20)]⟩, ⟨(some 22), none, .len .l (.t 21)⟩, ⟨(some 23), none, .mv (.c (.int .i64 0))⟩]
def r59_3 : List AInstr :=
  [⟨(some 24), none, .bin .lss (.t 23) (.t 22)⟩]
def r59_4 : List AInstr :=
  [⟨(some 25), none, .idxA 5 (.t 21) (.t 23)⟩, ⟨(some 26), none, .load true 5 (.t 25)⟩, ⟨(some 10), none, .alloc [.int .u64 0, .int .i64 0, .int .i64 0, .int .i64 0, .int .i64 0]⟩, ⟨none, none, .store 5 (.t 10) (.t 26)⟩]
def r59_5 : List AInstr :=
  [⟨(some 27), none, .mv (.t 0)⟩, ⟨(some 28), none, .load true 5 (.t 10)⟩, ⟨(some 29), none, .call 117 [(.t 27), (.t 28)]⟩, ⟨(some 11), none, .mv (.t 29)⟩]
def r59_6 : List AInstr :=
  [⟨(some 30), none, .mv (.t 11)⟩, ⟨(some 31), none, .bin .neq (.t 30) (.c (.int .i64 0))⟩]
def r59_7 : List AInstr :=
  [⟨(some 32), none, .mv (.t 11)⟩, ⟨(some 6), none, .mv (.c (.nilmap))⟩, ⟨(some 7), none, .mv (.t 32)⟩]
def r59_8 : List AInstr :=
  [⟨(some 33), none, .bin .add (.t 23) (.c (.int .i64 1))⟩, ⟨(some 23), none, .mv (.t 33)⟩]
def l59_9 : ACode :=
  .seq (.rg r59_3) (.seq (.cond (.t 24) (.skip) (.exit 0)) (.seq (.block 1 (.seq (.rg r59_4) (.seq (.rg r59_5) (.seq (.rg r59_6) (.cond (.t 31) (.seq (.rg r59_7) (.ret)) (.skip)))))) (.rg r59_8)))
def r59_9 : List AInstr :=
  [⟨(some 34), none, .load true 5 (.t 4)⟩, ⟨(some 35), none, .load true 5 (.t 5)⟩, ⟨(some 36), none, .lit 5 [(.t 34), (.t 35)]⟩, ⟨(some 37), none, .len .l (.t 36)⟩, ⟨(some 38), none, .mv (.c (.int .i64 0))⟩]
def r59_10 : List AInstr :=
  [⟨(some 39), none, .bin .lss (.t 38) (.t 37)⟩]
def r59_11 : List AInstr :=
  [⟨(some 40), none, .idxA 5 (.t 36) (.t 38)⟩, ⟨(some 41), none, .load true 5 (.t 40)⟩, ⟨(some 13), none, .alloc [.int .u64 0, .int .i64 0, .int .i64 0, .int .i64 0, .int .i64 0]⟩, ⟨none, none, .store 5 (.t 13) (.t 41)⟩]
def r59_12 : List AInstr :=
  [⟨(some 43), none, .mv (.t 0)⟩, ⟨(some 44), none, .load true 5 (.t 13)⟩, ⟨(some 45), none, .call 85 [(.t 43), (.t 44)]⟩, ⟨(some 42), none, .mv (.t 45)⟩, ⟨(some 46), none, .ext (.t 42) 0⟩, ⟨(some 47), none, .ext (.t 42) 1⟩, ⟨(some 14), none, .mv (.t 46)⟩, ⟨(some 15), none, .mv (.t 47)⟩]
def r59_13 : List AInstr :=
  [⟨(some 48), none, .mv (.t 15)⟩, ⟨(some 49), none, .bin .neq (.t 48) (.c (.int .i64 0))⟩]
def r59_14 : List AInstr :=
  [⟨(some 50), none, .mv (.t 15)⟩, ⟨(some 6), none, .mv (.c (.nilmap))⟩, ⟨(some 7), none, .mv (.t 50)⟩]
def r59_15 : List AInstr :=
  [⟨(some 51), none, .mv (.t 14)⟩, ⟨(some 52), none, .len .l (.t 51)⟩, ⟨(some 53), none, .mv (.c (.int .i64 0))⟩]
def r59_16 : List AInstr :=
  [⟨(some 54), none, .bin .lss (.t 53) (.t 52)⟩]
def r59_17 : List AInstr :=
  [⟨(some 55), none, .idxA 1 (.t 51) (.t 53)⟩, ⟨(some 56), none, .load false 1 (.t 55)⟩, ⟨(some 17), none, .mv (.t 56)⟩]
def r59_18 : List AInstr :=
  [⟨(some 57), none, .mv (.t 8)⟩, ⟨(some 58), none, .mv (.t 17)⟩, ⟨(some 59), none, .lookup .i (.int .i64 0) (.t 57) (.t 58) false⟩, ⟨(some 60), none, .bin .add (.t 59) (.c (.int .i64 1))⟩, ⟨none, none, .mapup .i (.t 57) (.t 58) (.t 60)⟩]
def r59_19 : List AInstr :=
  [⟨(some 61), none, .bin .add (.t 53) (.c (.int .i64 1))⟩, ⟨(some 53), none, .mv (.t 61)⟩]
def l59_21 : ACode :=
  .seq (.rg r59_16) (.seq (.cond (.t 54) (.skip) (.exit 4)) (.seq (.block 5 (.seq (.rg r59_17) (.rg r59_18))) (.rg r59_19)))
def r59_20 : List AInstr :=
  [⟨(some 62), none, .bin .add (.t 38) (.c (.int .i64 1))⟩, ⟨(some 38), none, .mv (.t 62)⟩]
def l59_23 : ACode :=
  .seq (.rg r59_10) (.seq (.cond (.t 39) (.skip) (.exit 2)) (.seq (.block 3 (.seq (.rg r59_11) (.seq (.rg r59_12) (.seq (.seq (.rg r59_13) (.cond (.t 49) (.seq (.rg r59_14) (.ret)) (.skip))) (.seq (.rg r59_15) (.block 4 (.loop l59_21))))))) (.rg r59_20)))
def r59_21 : List AInstr :=
  [⟨(some 63), none, .mv (.t 8)⟩, ⟨(some 6), none, .mv (.t 63)⟩, ⟨(some 7), none, .mv (.c (.int .i64 0))⟩]
def c59 : ACode :=
  .seq (.rg r59_0) (.seq (.rg r59_1) (.seq (.seq (.rg r59_2) (.block 0 (.loop l59_9))) (.seq (.seq (.rg r59_9) (.block 2 (.loop l59_23))) (.seq (.rg r59_21) (.ret)))))
def a59 : AFunc := { np := 3, nt := 64, res := [.tmp 6, .tmp 7], body := c59 }

/- (*strings.Builder).WriteString -/
def r64_0 : List AInstr :=
  [⟨(some 4), none, .mv (.c (.int .i64 0))⟩, ⟨(some 5), none, .mv (.c (.nilif))⟩]
def r64_1 : List AInstr :=
  [⟨(some 6), none, .mv (.t 0)⟩, ⟨(some 7), none, .call 126 [(.t 6)]⟩]
def r64_2 : List AInstr :=
  [⟨(some 8), none, .mv (.t 0)⟩, ⟨(some 9), none, .mv (.t 0)⟩, ⟨(some 10), none, .nilc (.t 9)⟩, ⟨(some 11), none, .fld 1 (.t 10)⟩, ⟨(some 12), none, .load false 1 (.t 11)⟩, ⟨(some 13), none, .mv (.t 1)⟩, ⟨(some 14), none, .appb (.t 12) (.t 13)⟩, ⟨(some 15), none, .nilc (.t 8)⟩, ⟨(some 16), none, .fld 1 (.t 15)⟩, ⟨none, none, .store 1 (.t 16) (.t 14)⟩]
def r64_3 : List AInstr :=
  [⟨(some 17), none, .mv (.t 1)⟩, ⟨(some 18), none, .len .s (.t 17)⟩, ⟨(some 4), none, .mv (.t 18)⟩, ⟨(some 5), none, .mv (.c (.nilif))⟩]
def c64 : ACode :=
  .seq (.rg r64_0) (.seq (.rg r64_1) (.seq (.rg r64_2) (.seq (.rg r64_3) (.ret))))
def a64 : AFunc := { np := 2, nt := 19, res := [.tmp 4, .tmp 5], body := c64 }

/- (*strings.Builder).Len -/
def r65_0 : List AInstr :=
  [⟨(some 2), none, .mv (.c (.int .i64 0))⟩]
def r65_1 : List AInstr :=
  [⟨(some 3), none, .mv (.t 0)⟩, ⟨(some 4), none, .nilc (.t 3)⟩, ⟨(some 5), none, .fld 1 (.t 4)⟩, ⟨(some 6), none, .load false 1 (.t 5)⟩, ⟨(some 7), none, .len .l (.t 6)⟩, ⟨(some 2), none, .mv (.t 7)⟩]
def c65 : ACode :=
  .seq (.rg r65_0) (.seq (.rg r65_1) (.ret))
def a65 : AFunc := { np := 1, nt := 8, res := [.tmp 2], body := c65 }

/- (*strings.Builder).String -/
def r66_0 : List AInstr :=
  [⟨(some 2), none, .mv (.c (.str []))⟩]
def r66_1 : List AInstr :=
  [⟨(some 3), none, .mv (.t 0)⟩, ⟨(some 4), none, .nilc (.t 3)⟩, ⟨(some 5), none, .fld 1 (.t 4)⟩, ⟨(some 6), none, .load false 1 (.t 5)⟩, ⟨(some 7), none, .bad⟩, ⟨(some 8), none, .mv (.t 0)⟩, ⟨(some 9), none, .nilc (.t 8)⟩, ⟨(some 10), none, .fld 1 (.t 9)⟩, ⟨(some 11), none, .load false 1 (.t 10)⟩, ⟨(some 12), none, .len .l (.t 11)⟩, ⟨(some 13), none, .bad⟩, ⟨(some 2), none, .mv (.t 13)⟩]
def c66 : ACode :=
  .seq (.rg r66_0) (.seq (.qrg r66_1 [[], [0], [1], [2], [3], [], [5], [6], [7], [8], [4, 9], [10, 0, 1, 2, 3, 4, 5, 6, 7, 8, 9, 10]]) (.ret))
def a66 : AFunc := { np := 1, nt := 14, res := [.tmp 2], body := c66 }

/- freelist.New -/
def r81_0 : List AInstr :=
  [⟨(some 4), none, .mv (.c (.nilp))⟩, ⟨(some 5), none, .mv (.c (.int .i64 0))⟩]
def r81_1 : List AInstr :=
  [⟨(some 8), none, .mv (.t 0)⟩, ⟨(some 9), none, .bin .lss (.t 8) (.c (.int .i64 1))⟩, ⟨(some 10), none, .mv (.t 9)⟩, ⟨(some 11), (some (10, false)), .mv (.t 0)⟩, ⟨(some 12), (some (10, false)), .bin .gtr (.t 11) (.c (.int .i64 16384))⟩, ⟨(some 13), none, .pick (.t 10) (.c (.bool true)) (.t 12)⟩, ⟨(some 14), none, .mv (.t 13)⟩, ⟨(some 15), (some (14, false)), .mv (.t 1)⟩, ⟨(some 16), (some (14, false)), .bin .lss (.t 15) (.c (.int .u64 1))⟩, ⟨(some 17), none, .pick (.t 14) (.c (.bool true)) (.t 16)⟩, ⟨(some 18), none, .mv (.t 17)⟩, ⟨(some 19), (some (18, false)), .mv (.t 1)⟩, ⟨(some 20), (some (18, false)), .bin .gtr (.t 19) (.c (.int .u64 4294967295))⟩, ⟨(some 21), none, .pick (.t 18) (.c (.bool true)) (.t 20)⟩]
def r81_2 : List AInstr :=
  [⟨(some 4), none, .mv (.c (.nilp))⟩, ⟨(some 5), none, .mv (.c (.int .i64 3))⟩]
def r81_3 : List AInstr :=
  [⟨(some 22), none, .mv (.t 0)⟩, ⟨(some 23), none, .mksl [.int .i64 0] 8 (.t 22) (.t 22)⟩, ⟨(some 24), none, .mv (.t 0)⟩, ⟨(some 25), none, .mksl [.int .u8 0] 1 (.t 24) (.t 24)⟩, ⟨(some 26), none, .mv (.t 0)⟩, ⟨(some 27), none, .mksl [.int .u64 0] 8 (.t 26) (.t 26)⟩, ⟨(some 28), none, .mv (.t 1)⟩, ⟨(some 29), none, .build [.vs [] .ex, .vs [] .ex, .vs [] .ex, .int .u64 0] [(0, 1, (.t 23)), (1, 1, (.t 25)), (2, 1, (.t 27)), (3, 1, (.t 28))]⟩, ⟨(some 30), none, .box 4 (.t 29)⟩, ⟨(some 6), none, .mv (.t 30)⟩]
def r81_4 : List AInstr :=
  [⟨(some 31), none, .mv (.t 0)⟩, ⟨(some 32), none, .mv (.c (.int .i64 0))⟩]
def r81_5 : List AInstr :=
  [⟨(some 33), none, .bin .lss (.t 32) (.t 31)⟩]
def r81_6 : List AInstr :=
  [⟨(some 34), none, .mv (.t 32)⟩, ⟨(some 7), none, .mv (.t 34)⟩]
def r81_7 : List AInstr :=
  [⟨(some 35), none, .mv (.t 6)⟩, ⟨(some 36), none, .nilc (.t 35)⟩, ⟨(some 37), none, .fld 0 (.t 36)⟩, ⟨(some 38), none, .load false 1 (.t 37)⟩, ⟨(some 39), none, .mv (.t 7)⟩, ⟨(some 40), none, .mv (.t 0)⟩, ⟨(some 41), none, .bin .sub (.t 40) (.c (.int .i64 1))⟩, ⟨(some 42), none, .mv (.t 7)⟩, ⟨(some 43), none, .bin .sub (.t 41) (.t 42)⟩, ⟨(some 44), none, .idxA 1 (.t 38) (.t 39)⟩, ⟨none, none, .store 1 (.t 44) (.t 43)⟩]
def r81_8 : List AInstr :=
  [⟨(some 45), none, .mv (.t 6)⟩, ⟨(some 46), none, .nilc (.t 45)⟩, ⟨(some 47), none, .fld 2 (.t 46)⟩, ⟨(some 48), none, .load false 1 (.t 47)⟩, ⟨(some 49), none, .mv (.t 7)⟩, ⟨(some 50), none, .idxA 1 (.t 48) (.t 49)⟩, ⟨none, none, .store 1 (.t 50) (.c (.int .u64 1))⟩]
def r81_9 : List AInstr :=
  [⟨(some 51), none, .bin .add (.t 32) (.c (.int .i64 1))⟩, ⟨(some 32), none, .mv (.t 51)⟩]
def l81_10 : ACode :=
  .seq (.rg r81_5) (.seq (.cond (.t 33) (.skip) (.exit 0)) (.seq (.block 1 (.seq (.rg r81_6) (.seq (.rg r81_7) (.rg r81_8)))) (.rg r81_9)))
def r81_10 : List AInstr :=
  [⟨(some 52), none, .mv (.t 6)⟩, ⟨(some 4), none, .mv (.t 52)⟩, ⟨(some 5), none, .mv (.c (.int .i64 0))⟩]
def c81 : ACode :=
  .seq (.rg r81_0) (.seq (.seq (.rg r81_1) (.cond (.t 21) (.seq (.rg r81_2) (.ret)) (.skip))) (.seq (.qrg r81_3 [[], [0, 0], [], [2, 2], [], [4, 4], [], [1, 3, 5, 6], [7], [8, 0, 1, 2, 3, 4, 5, 6, 7, 8]]) (.seq (.seq (.rg r81_4) (.block 0 (.loop l81_10))) (.seq (.rg r81_10) (.ret)))))
def a81 : AFunc := { np := 2, nt := 53, res := [.tmp 4, .tmp 5], body := c81 }

/- (*arena.Arena).Stats -/
def r83_0 : List AInstr :=
  [⟨(some 2), none, .alloc [.int .i64 0, .int .i64 0, .int .i64 0, .int .i64 0, .int .i64 0, .int .i64 0, .int .i64 0]⟩]
def r83_1 : List AInstr :=
  [⟨(some 3), none, .mv (.t 0)⟩, ⟨(some 4), none, .eqv .ptr false (.t 3) (.c (.nilp))⟩]
def r83_2 : List AInstr :=
  [⟨(some 5), none, .build [.int .i64 0, .int .i64 0, .int .i64 0, .int .i64 0, .int .i64 0, .int .i64 0, .int .i64 0] []⟩, ⟨none, none, .store 7 (.t 2) (.t 5)⟩]
def r83_3 : List AInstr :=
  [⟨(some 6), none, .mv (.t 0)⟩, ⟨(some 7), none, .nilc (.t 6)⟩, ⟨(some 8), none, .fld 0 (.t 7)⟩, ⟨(some 9), none, .load false 1 (.t 8)⟩, ⟨(some 10), none, .mv (.t 0)⟩, ⟨(some 11), none, .nilc (.t 10)⟩, ⟨(some 12), none, .fld 1 (.t 11)⟩, ⟨(some 13), none, .load false 1 (.t 12)⟩, ⟨(some 14), none, .call 155 [(.t 13)]⟩, ⟨(some 15), none, .len .l (.t 14)⟩, ⟨(some 16), none, .mv (.t 0)⟩, ⟨(some 17), none, .nilc (.t 16)⟩, ⟨(some 18), none, .fld 2 (.t 17)⟩, ⟨(some 19), none, .load false 1 (.t 18)⟩, ⟨(some 20), none, .len .m (.t 19)⟩, ⟨(some 21), none, .mv (.t 0)⟩, ⟨(some 22), none, .nilc (.t 21)⟩, ⟨(some 23), none, .fld 1 (.t 22)⟩, ⟨(some 24), none, .load false 1 (.t 23)⟩, ⟨(some 25), none, .call 156 [(.t 24)]⟩, ⟨(some 26), none, .len .l (.t 25)⟩, ⟨(some 27), none, .mv (.t 0)⟩, ⟨(some 28), none, .nilc (.t 27)⟩, ⟨(some 29), none, .fld 3 (.t 28)⟩, ⟨(some 30), none, .load false 1 (.t 29)⟩, ⟨(some 31), none, .mv (.t 0)⟩, ⟨(some 32), none, .nilc (.t 31)⟩, ⟨(some 33), none, .fld 4 (.t 32)⟩, ⟨(some 34), none, .load false 1 (.t 33)⟩, ⟨(some 35), none, .mv (.t 0)⟩, ⟨(some 36), none, .nilc (.t 35)⟩, ⟨(some 37), none, .fld 5 (.t 36)⟩, ⟨(some 38), none, .load false 1 (.t 37)⟩, ⟨(some 39), none, .build [.int .i64 0, .int .i64 0, .int .i64 0, .int .i64 0, .int .i64 0, .int .i64 0, .int .i64 0] [(0, 1, (.t 9)), (1, 1, (.t 15)), (2, 1, (.t 20)), (3, 1, (.t 26)), (4, 1, (.t 30)), (5, 1, (.t 34)), (6, 1, (.t 38))]⟩, ⟨none, none, .store 7 (.t 2) (.t 39)⟩]
def c83 : ACode :=
  .seq (.rg r83_0) (.seq (.seq (.rg r83_1) (.cond (.t 4) (.seq (.rg r83_2) (.ret)) (.skip))) (.seq (.qrg r83_3 [[], [0], [1], [2], [], [4], [5], [6], [7], [8], [], [10], [11], [12], [13, 8], [], [15], [16], [17], [18, 14], [19], [], [21], [22], [23], [], [25], [26], [27], [], [29], [30], [31], [3, 9, 14, 20, 24, 28, 32], [33, 19, 0, 1, 2, 3, 4, 5, 6, 7, 8, 9, 10, 11, 12, 13, 14, 15, 16, 17, 18, 19, 20, 21, 22, 23, 24, 25, 26, 27, 28, 29, 30, 31, 32, 33]]) (.ret)))
def a83 : AFunc := { np := 1, nt := 40, res := [.cell 2 true 7], body := c83 }

/- rope.Nodes -/
def r85_0 : List AInstr :=
  [⟨(some 3), none, .box 5 (.t 1)⟩, ⟨(some 4), none, .mv (.c (.vs [] .ex))⟩, ⟨(some 5), none, .mv (.c (.int .i64 0))⟩]
def r85_1 : List AInstr :=
  [⟨(some 10), none, .mv (.t 0)⟩, ⟨(some 11), none, .load true 5 (.t 3)⟩, ⟨(some 12), none, .call 117 [(.t 10), (.t 11)]⟩, ⟨(some 6), none, .mv (.t 12)⟩]
def r85_2 : List AInstr :=
  [⟨(some 13), none, .mv (.t 6)⟩, ⟨(some 14), none, .bin .neq (.t 13) (.c (.int .i64 0))⟩]
def r85_3 : List AInstr :=
  [⟨(some 15), none, .mv (.t 6)⟩, ⟨(some 4), none, .mv (.c (.vs [] .ex))⟩, ⟨(some 5), none, .mv (.t 15)⟩]
def r85_4 : List AInstr :=
  [⟨(some 7), none, .alloc [.vs [] .ex]⟩]
def r85_5 : List AInstr :=
  [⟨(some 16), none, .mkmap⟩, ⟨(some 8), none, .alloc [.nilmap]⟩, ⟨none, none, .store 1 (.t 8) (.t 16)⟩]
def r85_6 : List AInstr :=
  [⟨(some 17), none, .mv (.t 0)⟩, ⟨(some 18), none, .load true 5 (.t 3)⟩, ⟨(some 19), none, .call 118 [(.t 17), (.t 18)]⟩]
def r85_7 : List AInstr :=
  [⟨(some 9), none, .mv (.t 20)⟩]
def x85_8 : ACode :=
  .rg r85_7
def r85_8 : List AInstr :=
  [⟨(some 22), none, .load false 1 (.t 8)⟩, ⟨(some 23), none, .mv (.t 9)⟩, ⟨(some 24), none, .lookup .i (.bool false) (.t 22) (.t 23) false⟩, ⟨(some 25), none, .not (.t 24)⟩]
def r85_9 : List AInstr :=
  [⟨(some 26), none, .load false 1 (.t 8)⟩, ⟨(some 27), none, .mv (.t 9)⟩, ⟨none, none, .mapup .i (.t 26) (.t 27) (.c (.bool true))⟩]
def r85_10 : List AInstr :=
  [⟨(some 28), none, .load false 1 (.t 7)⟩, ⟨(some 29), none, .mv (.t 9)⟩, ⟨(some 30), none, .lit 1 [(.t 29)]⟩, ⟨(some 31), none, .app false 1 8 (.t 28) (.t 30)⟩, ⟨none, none, .store 1 (.t 7) (.t 31)⟩]
def y85_12 : ACode :=
  .block 1 (.seq (.rg r85_8) (.cond (.t 25) (.seq (.rg r85_9) (.rg r85_10)) (.skip)))
def r85_11 : List AInstr :=
  [⟨(some 32), none, .load false 1 (.t 7)⟩, ⟨(some 4), none, .mv (.t 32)⟩, ⟨(some 5), none, .mv (.c (.int .i64 0))⟩]
def c85 : ACode :=
  .seq (.rg r85_0) (.seq (.seq (.rg r85_1) (.seq (.rg r85_2) (.cond (.t 14) (.seq (.rg r85_3) (.ret)) (.skip)))) (.seq (.rg r85_4) (.seq (.rg r85_5) (.seq (.seq (.rg r85_6) (.block 0 (.rf (.t 19) [20, 21] x85_8 y85_12))) (.seq (.rg r85_11) (.ret))))))
def a85 : AFunc := { np := 2, nt := 33, res := [.tmp 4, .tmp 5], body := c85 }

/- plan.Build -/
def r91_0 : List AInstr :=
  [⟨(some 2), none, .alloc [.int .u64 0, .int .i64 0, .int .i64 0, .int .i64 0, .int .i64 0, .str [], .vs [] .ex]⟩, ⟨(some 3), none, .mv (.c (.int .i64 0))⟩]
def r91_1 : List AInstr :=
  [⟨(some 12), none, .mv (.t 0)⟩, ⟨(some 13), none, .len .s (.t 12)⟩, ⟨(some 14), none, .bin .gtr (.t 13) (.c (.int .i64 65536))⟩]
def r91_2 : List AInstr :=
  [⟨(some 15), none, .build [.int .u64 0, .int .i64 0, .int .i64 0, .int .i64 0, .int .i64 0, .str [], .vs [] .ex] []⟩, ⟨none, none, .store 7 (.t 2) (.t 15)⟩, ⟨(some 3), none, .mv (.c (.int .i64 5))⟩]
def r91_3 : List AInstr :=
  [⟨(some 4), none, .mv (.c (.vs [] .ex))⟩]
def r91_4 : List AInstr :=
  [⟨(some 16), none, .mv (.t 0)⟩, ⟨(some 17), none, .call 165 [(.t 16)]⟩, ⟨(some 18), none, .len .l (.t 17)⟩, ⟨(some 19), none, .mv (.c (.int .i64 0))⟩]
def r91_5 : List AInstr :=
  [⟨(some 20), none, .bin .lss (.t 19) (.t 18)⟩]
def r91_6 : List AInstr :=
  [⟨(some 21), none, .idxA 1 (.t 17) (.t 19)⟩, ⟨(some 22), none, .load false 1 (.t 21)⟩, ⟨(some 6), none, .mv (.t 22)⟩]
def r91_7 : List AInstr :=
  [⟨(some 23), none, .mv (.t 4)⟩, ⟨(some 24), none, .mv (.t 6)⟩, ⟨(some 25), none, .build [.int .u64 0, .int .i64 0, .int .i64 0, .int .i64 0, .int .i64 0, .str [], .vs [] .ex] [(5, 1, (.t 24))]⟩, ⟨(some 26), none, .lit 7 [(.t 25)]⟩, ⟨(some 27), none, .app true 7 80 (.t 23) (.t 26)⟩, ⟨(some 4), none, .mv (.t 27)⟩]
def r91_8 : List AInstr :=
  [⟨(some 28), none, .bin .add (.t 19) (.c (.int .i64 1))⟩, ⟨(some 19), none, .mv (.t 28)⟩]
def l91_9 : ACode :=
  .seq (.rg r91_5) (.seq (.cond (.t 20) (.skip) (.exit 0)) (.seq (.block 1 (.seq (.rg r91_6) (.rg r91_7))) (.rg r91_8)))
def r91_9 : List AInstr :=
  [⟨(some 29), none, .mv (.t 4)⟩, ⟨(some 30), none, .len .l (.t 29)⟩, ⟨(some 31), none, .bin .gtr (.t 30) (.c (.int .i64 1))⟩]
def r91_10 : List AInstr :=
  [⟨(some 33), none, .mv (.t 4)⟩, ⟨(some 34), none, .len .l (.t 33)⟩, ⟨(some 35), none, .call 166 [(.t 34), (.c (.int .i64 4))]⟩, ⟨(some 32), none, .mv (.t 35)⟩, ⟨(some 36), none, .ext (.t 32) 0⟩, ⟨(some 37), none, .ext (.t 32) 1⟩, ⟨(some 7), none, .mv (.t 36)⟩, ⟨(some 8), none, .mv (.t 37)⟩]
def r91_11 : List AInstr :=
  [⟨(some 38), none, .mv (.t 8)⟩, ⟨(some 39), none, .bin .neq (.t 38) (.c (.int .i64 0))⟩]
def r91_12 : List AInstr :=
  [⟨(some 40), none, .build [.int .u64 0, .int .i64 0, .int .i64 0, .int .i64 0, .int .i64 0, .str [], .vs [] .ex] []⟩, ⟨(some 41), none, .mv (.t 8)⟩, ⟨none, none, .store 7 (.t 2) (.t 40)⟩, ⟨(some 3), none, .mv (.t 41)⟩]
def r91_13 : List AInstr :=
  [⟨(some 9), none, .mv (.c (.vs [] .ex))⟩]
def r91_14 : List AInstr :=
  [⟨(some 42), none, .mv (.t 7)⟩, ⟨(some 43), none, .len .l (.t 42)⟩, ⟨(some 44), none, .mv (.c (.int .i64 0))⟩]
def r91_15 : List AInstr :=
  [⟨(some 45), none, .bin .lss (.t 44) (.t 43)⟩]
def r91_16 : List AInstr :=
  [⟨(some 46), none, .idxA 1 (.t 42) (.t 44)⟩, ⟨(some 47), none, .load false 1 (.t 46)⟩, ⟨(some 11), none, .mv (.t 47)⟩]
def r91_17 : List AInstr :=
  [⟨(some 48), none, .mv (.t 9)⟩, ⟨(some 49), none, .mv (.t 4)⟩, ⟨(some 50), none, .mv (.t 11)⟩, ⟨(some 51), none, .slice 7 (.t 49) none (some (.t 50)) none⟩, ⟨(some 52), none, .call 167 [(.t 51)]⟩, ⟨(some 53), none, .lit 7 [(.t 52)]⟩, ⟨(some 54), none, .app true 7 80 (.t 48) (.t 53)⟩, ⟨(some 9), none, .mv (.t 54)⟩]
def r91_18 : List AInstr :=
  [⟨(some 55), none, .mv (.t 4)⟩, ⟨(some 56), none, .mv (.t 11)⟩, ⟨(some 57), none, .slice 7 (.t 55) (some (.t 56)) none none⟩, ⟨(some 4), none, .mv (.t 57)⟩]
def r91_19 : List AInstr :=
  [⟨(some 58), none, .bin .add (.t 44) (.c (.int .i64 1))⟩, ⟨(some 44), none, .mv (.t 58)⟩]
def l91_21 : ACode :=
  .seq (.rg r91_15) (.seq (.cond (.t 45) (.skip) (.exit 4)) (.seq (.block 5 (.seq (.rg r91_16) (.seq (.rg r91_17) (.rg r91_18)))) (.rg r91_19)))
def r91_20 : List AInstr :=
  [⟨(some 59), none, .mv (.t 9)⟩, ⟨(some 4), none, .mv (.t 59)⟩]
def l91_23 : ACode :=
  .seq (.seq (.rg r91_9) (.cond (.t 31) (.skip) (.exit 2))) (.block 3 (.seq (.rg r91_10) (.seq (.seq (.rg r91_11) (.cond (.t 39) (.seq (.rg r91_12) (.ret)) (.skip))) (.seq (.rg r91_13) (.seq (.seq (.rg r91_14) (.block 4 (.loop l91_21))) (.rg r91_20))))))
def r91_21 : List AInstr :=
  [⟨(some 60), none, .mv (.t 4)⟩, ⟨(some 61), none, .call 167 [(.t 60)]⟩, ⟨none, none, .store 7 (.t 2) (.t 61)⟩, ⟨(some 3), none, .mv (.c (.int .i64 0))⟩]
def c91 : ACode :=
  .seq (.rg r91_0) (.seq (.seq (.rg r91_1) (.cond (.t 14) (.seq (.rg r91_2) (.ret)) (.skip))) (.seq (.rg r91_3) (.seq (.seq (.rg r91_4) (.block 0 (.loop l91_9))) (.seq (.block 2 (.loop l91_23)) (.seq (.rg r91_21) (.ret))))))
def a91 : AFunc := { np := 1, nt := 62, res := [.cell 2 true 7, .tmp 3], body := c91 }

/- plan.Replace -/
def r92_0 : List AInstr :=
  [⟨(some 6), none, .box 7 (.t 1)⟩, ⟨(some 10), none, .alloc [.int .u64 0, .int .i64 0, .int .i64 0, .int .i64 0, .int .i64 0, .str [], .vs [] .ex]⟩, ⟨(some 11), none, .mv (.c (.int .i64 0))⟩]
def r92_1 : List AInstr :=
  [⟨(some 20), none, .mv (.t 0)⟩, ⟨(some 21), none, .load true 7 (.t 6)⟩, ⟨(some 22), none, .call 93 [(.t 20), (.t 21)]⟩, ⟨(some 12), none, .mv (.t 22)⟩]
def r92_2 : List AInstr :=
  [⟨(some 23), none, .mv (.t 12)⟩, ⟨(some 24), none, .bin .neq (.t 23) (.c (.int .i64 0))⟩]
def r92_3 : List AInstr :=
  [⟨(some 25), none, .build [.int .u64 0, .int .i64 0, .int .i64 0, .int .i64 0, .int .i64 0, .str [], .vs [] .ex] []⟩, ⟨(some 26), none, .mv (.t 12)⟩, ⟨none, none, .store 7 (.t 10) (.t 25)⟩, ⟨(some 11), none, .mv (.t 26)⟩]
def r92_4 : List AInstr :=
  [⟨(some 27), none, .load true 7 (.t 6)⟩, ⟨(some 28), none, .call 168 [(.t 27)]⟩, ⟨(some 13), none, .mv (.t 28)⟩]
def r92_5 : List AInstr :=
  [⟨(some 29), none, .mv (.t 2)⟩, ⟨(some 30), none, .bin .lss (.t 29) (.c (.int .i64 0))⟩, ⟨(some 31), none, .mv (.t 30)⟩, ⟨(some 32), (some (31, false)), .mv (.t 2)⟩, ⟨(some 33), (some (31, false)), .mv (.t 13)⟩, ⟨(some 34), (some (31, false)), .bin .gtr (.t 32) (.t 33)⟩, ⟨(some 35), none, .pick (.t 31) (.c (.bool true)) (.t 34)⟩, ⟨(some 36), none, .mv (.t 35)⟩, ⟨(some 37), (some (36, false)), .mv (.t 3)⟩, ⟨(some 38), (some (36, false)), .bin .lss (.t 37) (.c (.int .i64 0))⟩, ⟨(some 39), none, .pick (.t 36) (.c (.bool true)) (.t 38)⟩, ⟨(some 40), none, .mv (.t 39)⟩, ⟨(some 41), (some (40, false)), .mv (.t 3)⟩, ⟨(some 42), (some (40, false)), .mv (.t 13)⟩, ⟨(some 43), (some (40, false)), .mv (.t 2)⟩, ⟨(some 44), (some (40, false)), .bin .sub (.t 42) (.t 43)⟩, ⟨(some 45), (some (40, false)), .bin .gtr (.t 41) (.t 44)⟩, ⟨(some 46), none, .pick (.t 40) (.c (.bool true)) (.t 45)⟩]
def r92_6 : List AInstr :=
  [⟨(some 47), none, .build [.int .u64 0, .int .i64 0, .int .i64 0, .int .i64 0, .int .i64 0, .str [], .vs [] .ex] []⟩, ⟨none, none, .store 7 (.t 10) (.t 47)⟩, ⟨(some 11), none, .mv (.c (.int .i64 3))⟩]
def r92_7 : List AInstr :=
  [⟨(some 48), none, .mv (.t 13)⟩, ⟨(some 49), none, .mv (.t 3)⟩, ⟨(some 50), none, .bin .sub (.t 48) (.t 49)⟩, ⟨(some 51), none, .mv (.t 4)⟩, ⟨(some 52), none, .len .s (.t 51)⟩, ⟨(some 53), none, .min (.t 52) (.c (.int .i64 65536))⟩, ⟨(some 54), none, .bin .sub (.c (.int .i64 65536)) (.t 53)⟩, ⟨(some 55), none, .bin .gtr (.t 50) (.t 54)⟩, ⟨(some 56), none, .mv (.t 55)⟩, ⟨(some 57), (some (56, false)), .mv (.t 4)⟩, ⟨(some 58), (some (56, false)), .len .s (.t 57)⟩, ⟨(some 59), (some (56, false)), .bin .gtr (.t 58) (.c (.int .i64 65536))⟩, ⟨(some 60), none, .pick (.t 56) (.c (.bool true)) (.t 59)⟩]
def r92_8 : List AInstr :=
  [⟨(some 61), none, .build [.int .u64 0, .int .i64 0, .int .i64 0, .int .i64 0, .int .i64 0, .str [], .vs [] .ex] []⟩, ⟨none, none, .store 7 (.t 10) (.t 61)⟩, ⟨(some 11), none, .mv (.c (.int .i64 5))⟩]
def r92_9 : List AInstr :=
  [⟨(some 62), none, .mv (.t 3)⟩, ⟨(some 63), none, .bin .eql (.t 62) (.c (.int .i64 0))⟩, ⟨(some 64), none, .mv (.t 63)⟩, ⟨(some 65), (some (64, true)), .mv (.t 4)⟩, ⟨(some 66), (some (64, true)), .bin .eql (.t 65) (.c (.str []))⟩, ⟨(some 67), none, .pick (.t 64) (.t 66) (.c (.bool false))⟩]
def r92_10 : List AInstr :=
  [⟨(some 68), none, .load true 7 (.t 6)⟩, ⟨(some 69), none, .call 169 [(.t 68)]⟩, ⟨none, none, .store 7 (.t 10) (.t 69)⟩, ⟨(some 11), none, .mv (.c (.int .i64 0))⟩]
def r92_11 : List AInstr :=
  [⟨(some 71), none, .mv (.t 0)⟩, ⟨(some 72), none, .load true 7 (.t 6)⟩, ⟨(some 73), none, .mv (.t 2)⟩, ⟨(some 74), none, .call 170 [(.t 71), (.t 72), (.t 73)]⟩, ⟨(some 70), none, .mv (.t 74)⟩, ⟨(some 75), none, .ext (.t 70) 0⟩, ⟨(some 76), none, .ext (.t 70) 1⟩, ⟨(some 77), none, .ext (.t 70) 2⟩, ⟨(some 14), none, .alloc [.int .u64 0, .int .i64 0, .int .i64 0, .int .i64 0, .int .i64 0, .str [], .vs [] .ex]⟩, ⟨(some 15), none, .alloc [.int .u64 0, .int .i64 0, .int .i64 0, .int .i64 0, .int .i64 0, .str [], .vs [] .ex]⟩, ⟨none, none, .store 7 (.t 14) (.t 75)⟩, ⟨none, none, .store 7 (.t 15) (.t 76)⟩, ⟨(some 16), none, .mv (.t 77)⟩]
def r92_12 : List AInstr :=
  [⟨(some 78), none, .mv (.t 16)⟩, ⟨(some 79), none, .bin .neq (.t 78) (.c (.int .i64 0))⟩]
def r92_13 : List AInstr :=
  [⟨(some 80), none, .build [.int .u64 0, .int .i64 0, .int .i64 0, .int .i64 0, .int .i64 0, .str [], .vs [] .ex] []⟩, ⟨(some 81), none, .mv (.t 16)⟩, ⟨none, none, .store 7 (.t 10) (.t 80)⟩, ⟨(some 11), none, .mv (.t 81)⟩]
def r92_14 : List AInstr :=
  [⟨(some 83), none, .mv (.t 0)⟩, ⟨(some 84), none, .load true 7 (.t 15)⟩, ⟨(some 85), none, .mv (.t 3)⟩, ⟨(some 86), none, .call 170 [(.t 83), (.t 84), (.t 85)]⟩, ⟨(some 82), none, .mv (.t 86)⟩, ⟨(some 87), none, .ext (.t 82) 0⟩, ⟨(some 88), none, .ext (.t 82) 1⟩, ⟨(some 89), none, .ext (.t 82) 2⟩, ⟨(some 17), none, .alloc [.int .u64 0, .int .i64 0, .int .i64 0, .int .i64 0, .int .i64 0, .str [], .vs [] .ex]⟩, ⟨(some 18), none, .alloc [.int .u64 0, .int .i64 0, .int .i64 0, .int .i64 0, .int .i64 0, .str [], .vs [] .ex]⟩, ⟨none, none, .store 7 (.t 17) (.t 87)⟩, ⟨none, none, .store 7 (.t 18) (.t 88)⟩, ⟨(some 16), none, .mv (.t 89)⟩]
def r92_15 : List AInstr :=
  [⟨(some 90), none, .mv (.t 16)⟩, ⟨(some 91), none, .bin .neq (.t 90) (.c (.int .i64 0))⟩]
def r92_16 : List AInstr :=
  [⟨(some 92), none, .build [.int .u64 0, .int .i64 0, .int .i64 0, .int .i64 0, .int .i64 0, .str [], .vs [] .ex] []⟩, ⟨(some 93), none, .mv (.t 16)⟩, ⟨none, none, .store 7 (.t 10) (.t 92)⟩, ⟨(some 11), none, .mv (.t 93)⟩]
def r92_17 : List AInstr :=
  [⟨(some 95), none, .mv (.t 4)⟩, ⟨(some 96), none, .call 91 [(.t 95)]⟩, ⟨(some 94), none, .mv (.t 96)⟩, ⟨(some 97), none, .ext (.t 94) 0⟩, ⟨(some 98), none, .ext (.t 94) 1⟩, ⟨(some 19), none, .alloc [.int .u64 0, .int .i64 0, .int .i64 0, .int .i64 0, .int .i64 0, .str [], .vs [] .ex]⟩, ⟨none, none, .store 7 (.t 19) (.t 97)⟩, ⟨(some 16), none, .mv (.t 98)⟩]
def r92_18 : List AInstr :=
  [⟨(some 99), none, .mv (.t 16)⟩, ⟨(some 100), none, .bin .neq (.t 99) (.c (.int .i64 0))⟩]
def r92_19 : List AInstr :=
  [⟨(some 101), none, .build [.int .u64 0, .int .i64 0, .int .i64 0, .int .i64 0, .int .i64 0, .str [], .vs [] .ex] []⟩, ⟨(some 102), none, .mv (.t 16)⟩, ⟨none, none, .store 7 (.t 10) (.t 101)⟩, ⟨(some 11), none, .mv (.t 102)⟩]
def r92_20 : List AInstr :=
  [⟨(some 104), none, .mv (.t 0)⟩, ⟨(some 105), none, .load true 7 (.t 14)⟩, ⟨(some 106), none, .load true 7 (.t 19)⟩, ⟨(some 107), none, .call 171 [(.t 104), (.t 105), (.t 106)]⟩, ⟨(some 103), none, .mv (.t 107)⟩, ⟨(some 108), none, .ext (.t 103) 0⟩, ⟨(some 109), none, .ext (.t 103) 1⟩, ⟨none, none, .store 7 (.t 14) (.t 108)⟩, ⟨(some 16), none, .mv (.t 109)⟩]
def r92_21 : List AInstr :=
  [⟨(some 110), none, .mv (.t 16)⟩, ⟨(some 111), none, .bin .neq (.t 110) (.c (.int .i64 0))⟩]
def r92_22 : List AInstr :=
  [⟨(some 112), none, .build [.int .u64 0, .int .i64 0, .int .i64 0, .int .i64 0, .int .i64 0, .str [], .vs [] .ex] []⟩, ⟨(some 113), none, .mv (.t 16)⟩, ⟨none, none, .store 7 (.t 10) (.t 112)⟩, ⟨(some 11), none, .mv (.t 113)⟩]
def r92_23 : List AInstr :=
  [⟨(some 115), none, .mv (.t 0)⟩, ⟨(some 116), none, .load true 7 (.t 14)⟩, ⟨(some 117), none, .load true 7 (.t 18)⟩, ⟨(some 118), none, .call 171 [(.t 115), (.t 116), (.t 117)]⟩, ⟨(some 114), none, .mv (.t 118)⟩, ⟨(some 119), none, .ext (.t 114) 0⟩, ⟨(some 120), none, .ext (.t 114) 1⟩, ⟨none, none, .store 7 (.t 14) (.t 119)⟩, ⟨(some 16), none, .mv (.t 120)⟩]
def r92_24 : List AInstr :=
  [⟨(some 121), none, .load true 7 (.t 14)⟩, ⟨(some 122), none, .call 169 [(.t 121)]⟩, ⟨(some 123), none, .mv (.t 16)⟩, ⟨none, none, .store 7 (.t 10) (.t 122)⟩, ⟨(some 11), none, .mv (.t 123)⟩]
def c92 : ACode :=
  .seq (.rg r92_0) (.seq (.seq (.rg r92_1) (.seq (.rg r92_2) (.cond (.t 24) (.seq (.rg r92_3) (.ret)) (.skip)))) (.seq (.rg r92_4) (.seq (.seq (.rg r92_5) (.cond (.t 46) (.seq (.rg r92_6) (.ret)) (.skip))) (.seq (.seq (.rg r92_7) (.cond (.t 60) (.seq (.rg r92_8) (.ret)) (.skip))) (.seq (.seq (.rg r92_9) (.cond (.t 67) (.seq (.rg r92_10) (.ret)) (.skip))) (.seq (.rg r92_11) (.seq (.seq (.rg r92_12) (.cond (.t 79) (.seq (.rg r92_13) (.ret)) (.skip))) (.seq (.rg r92_14) (.seq (.seq (.rg r92_15) (.cond (.t 91) (.seq (.rg r92_16) (.ret)) (.skip))) (.seq (.rg r92_17) (.seq (.seq (.rg r92_18) (.cond (.t 100) (.seq (.rg r92_19) (.ret)) (.skip))) (.seq (.seq (.rg r92_20) (.seq (.rg r92_21) (.cond (.t 111) (.seq (.rg r92_22) (.ret)) (.skip)))) (.seq (.rg r92_23) (.seq (.rg r92_24) (.ret)))))))))))))))
def a92 : AFunc := { np := 5, nt := 124, res := [.cell 10 true 7, .tmp 11], body := c92 }

theorem ok3 : FOk Tryz.prog 3 a3 := ⟨Tryz.f3, Tryz.func3, by kernel_rfl, by kernel_rfl⟩
theorem ok7 : FOk Tryz.prog 7 a7 := ⟨Tryz.f7, Tryz.func7, by kernel_rfl, by kernel_rfl⟩
theorem ok8 : FOk Tryz.prog 8 a8 := ⟨Tryz.f8, Tryz.func8, by kernel_rfl, by kernel_rfl⟩
theorem ok9 : FOk Tryz.prog 9 a9 := ⟨Tryz.f9, Tryz.func9, by kernel_rfl, by kernel_rfl⟩
theorem ok10 : FOk Tryz.prog 10 a10 := ⟨Tryz.f10, Tryz.func10, by kernel_rfl, by kernel_rfl⟩
theorem ok11 : FOk Tryz.prog 11 a11 := ⟨Tryz.f11, Tryz.func11, by kernel_rfl, by kernel_rfl⟩
theorem ok12 : FOk Tryz.prog 12 a12 := ⟨Tryz.f12, Tryz.func12, by kernel_rfl, by kernel_rfl⟩
theorem ok13 : FOk Tryz.prog 13 a13 := ⟨Tryz.f13, Tryz.func13, by kernel_rfl, by kernel_rfl⟩
theorem ok14 : FOk Tryz.prog 14 a14 := ⟨Tryz.f14, Tryz.func14, by kernel_rfl, by kernel_rfl⟩
theorem ok15 : FOk Tryz.prog 15 a15 := ⟨Tryz.f15, Tryz.func15, by kernel_rfl, by kernel_rfl⟩
theorem ok16 : FOk Tryz.prog 16 a16 := ⟨Tryz.f16, Tryz.func16, by kernel_rfl, by kernel_rfl⟩
theorem ok17 : FOk Tryz.prog 17 a17 := ⟨Tryz.f17, Tryz.func17, by kernel_rfl, by kernel_rfl⟩
theorem ok18 : FOk Tryz.prog 18 a18 := ⟨Tryz.f18, Tryz.func18, by kernel_rfl, by kernel_rfl⟩
theorem ok19 : FOk Tryz.prog 19 a19 := ⟨Tryz.f19, Tryz.func19, by kernel_rfl, by kernel_rfl⟩
theorem ok20 : FOk Tryz.prog 20 a20 := ⟨Tryz.f20, Tryz.func20, by kernel_rfl, by kernel_rfl⟩
theorem ok25 : FOk Tryz.prog 25 a25 := ⟨Tryz.f25, Tryz.func25, by kernel_rfl, by kernel_rfl⟩
theorem ok35 : FOk Tryz.prog 35 a35 := ⟨Tryz.f35, Tryz.func35, by kernel_rfl, by kernel_rfl⟩
theorem ok39 : FOk Tryz.prog 39 a39 := ⟨Tryz.f39, Tryz.func39, by kernel_rfl, by kernel_rfl⟩
theorem ok40 : FOk Tryz.prog 40 a40 := ⟨Tryz.f40, Tryz.func40, by kernel_rfl, by kernel_rfl⟩
theorem ok41 : FOk Tryz.prog 41 a41 := ⟨Tryz.f41, Tryz.func41, by kernel_rfl, by kernel_rfl⟩
theorem ok42 : FOk Tryz.prog 42 a42 := ⟨Tryz.f42, Tryz.func42, by kernel_rfl, by kernel_rfl⟩
theorem ok43 : FOk Tryz.prog 43 a43 := ⟨Tryz.f43, Tryz.func43, by kernel_rfl, by kernel_rfl⟩
theorem ok44 : FOk Tryz.prog 44 a44 := ⟨Tryz.f44, Tryz.func44, by kernel_rfl, by kernel_rfl⟩
theorem ok45 : FOk Tryz.prog 45 a45 := ⟨Tryz.f45, Tryz.func45, by kernel_rfl, by kernel_rfl⟩
theorem ok46 : FOk Tryz.prog 46 a46 := ⟨Tryz.f46, Tryz.func46, by kernel_rfl, by kernel_rfl⟩
theorem ok47 : FOk Tryz.prog 47 a47 := ⟨Tryz.f47, Tryz.func47, by kernel_rfl, by kernel_rfl⟩
theorem ok48 : FOk Tryz.prog 48 a48 := ⟨Tryz.f48, Tryz.func48, by kernel_rfl, by kernel_rfl⟩
theorem ok49 : FOk Tryz.prog 49 a49 := ⟨Tryz.f49, Tryz.func49, by kernel_rfl, by kernel_rfl⟩
theorem ok50 : FOk Tryz.prog 50 a50 := ⟨Tryz.f50, Tryz.func50, by kernel_rfl, by kernel_rfl⟩
theorem ok51 : FOk Tryz.prog 51 a51 := ⟨Tryz.f51, Tryz.func51, by kernel_rfl, by kernel_rfl⟩
theorem ok52 : FOk Tryz.prog 52 a52 := ⟨Tryz.f52, Tryz.func52, by kernel_rfl, by kernel_rfl⟩
theorem ok53 : FOk Tryz.prog 53 a53 := ⟨Tryz.f53, Tryz.func53, by kernel_rfl, by kernel_rfl⟩
theorem ok54 : FOk Tryz.prog 54 a54 := ⟨Tryz.f54, Tryz.func54, by kernel_rfl, by kernel_rfl⟩
theorem ok55 : FOk Tryz.prog 55 a55 := ⟨Tryz.f55, Tryz.func55, by kernel_rfl, by kernel_rfl⟩
theorem ok56 : FOk Tryz.prog 56 a56 := ⟨Tryz.f56, Tryz.func56, by kernel_rfl, by kernel_rfl⟩
theorem ok57 : FOk Tryz.prog 57 a57 := ⟨Tryz.f57, Tryz.func57, by kernel_rfl, by kernel_rfl⟩
theorem ok59 : FOk Tryz.prog 59 a59 := ⟨Tryz.f59, Tryz.func59, by kernel_rfl, by kernel_rfl⟩
theorem ok64 : FOk Tryz.prog 64 a64 := ⟨Tryz.f64, Tryz.func64, by kernel_rfl, by kernel_rfl⟩
theorem ok65 : FOk Tryz.prog 65 a65 := ⟨Tryz.f65, Tryz.func65, by kernel_rfl, by kernel_rfl⟩
theorem ok66 : FOk Tryz.prog 66 a66 := ⟨Tryz.f66, Tryz.func66, by kernel_rfl, by kernel_rfl⟩
theorem ok81 : FOk Tryz.prog 81 a81 := ⟨Tryz.f81, Tryz.func81, by kernel_rfl, by kernel_rfl⟩
theorem ok83 : FOk Tryz.prog 83 a83 := ⟨Tryz.f83, Tryz.func83, by kernel_rfl, by kernel_rfl⟩
theorem ok85 : FOk Tryz.prog 85 a85 := ⟨Tryz.f85, Tryz.func85, by kernel_rfl, by kernel_rfl⟩
theorem ok91 : FOk Tryz.prog 91 a91 := ⟨Tryz.f91, Tryz.func91, by kernel_rfl, by kernel_rfl⟩
theorem ok92 : FOk Tryz.prog 92 a92 := ⟨Tryz.f92, Tryz.func92, by kernel_rfl, by kernel_rfl⟩

end Go.Proofs.YtekhblefchceaaaGreat.AM
