/- The abstract code of functions, printed by a program (tools/gen.py). -/
import Derived.Test.YtekhblefchceaaaGreatMC
import Derived.Test.YtekhblefchceaaaGreatProg
set_option linter.unusedVariables false
set_option linter.unusedSimpArgs false
namespace Go.Proofs.YtekhblefchceaaaGreat.AM
open Go Go.Proofs
/- quartolaw20.PatchNames -/
def r4_0 : List AInstr :=
  [⟨(some 0), none, .mv (.c (.bool false))⟩]
def r4_1 : List AInstr :=
  [⟨(some 32), none, .call 19 []⟩, ⟨(some 31), none, .mv (.t 32)⟩, ⟨(some 33), none, .ext (.t 31) 0⟩, ⟨(some 34), none, .ext (.t 31) 1⟩, ⟨(some 35), none, .ext (.t 31) 2⟩, ⟨(some 2), none, .alloc [.int .u64 0, .int .i64 0, .int .i64 0, .int .i64 0, .int .i64 0]⟩, ⟨(some 1), none, .mv (.t 33)⟩, ⟨none, none, .store 5 (.t 2) (.t 34)⟩, ⟨(some 3), none, .mv (.t 35)⟩]
def r4_2 : List AInstr :=
  [⟨(some 36), none, .mv (.t 3)⟩, ⟨(some 37), none, .not (.t 36)⟩, ⟨(some 38), none, .mv (.t 37)⟩, ⟨(some 39), (some (38, false)), .call 8 []⟩, ⟨(some 40), (some (38, false)), .not (.t 39)⟩, ⟨(some 41), none, .pick (.t 38) (.c (.bool true)) (.t 40)⟩, ⟨(some 42), none, .mv (.t 41)⟩, ⟨(some 43), none, .pick (.t 42) (.c (.bool true)) (.c (.bool false))⟩, ⟨(some 44), none, .mv (.t 43)⟩, ⟨(some 45), none, .pick (.t 44) (.c (.bool true)) (.c (.bool false))⟩]
def r4_3 : List AInstr :=
  [⟨(some 0), none, .mv (.c (.bool false))⟩]
def r4_4 : List AInstr :=
  [⟨(some 47), none, .mv (.t 1)⟩, ⟨(some 48), none, .load true 5 (.t 2)⟩, ⟨(some 49), none, .call 16 [(.c (.int .i64 9))]⟩, ⟨(some 50), none, .call 20 [(.c (.str [120, 121, 122]))]⟩, ⟨(some 51), none, .call 16 [(.c (.int .i64 8))]⟩, ⟨(some 52), none, .lit 3 [(.t 49), (.t 50), (.t 51)]⟩, ⟨(some 53), none, .call 17 [(.t 47), (.t 48), (.t 52)]⟩, ⟨(some 46), none, .mv (.t 53)⟩, ⟨(some 54), none, .ext (.t 46) 0⟩, ⟨(some 55), none, .ext (.t 46) 1⟩, ⟨(some 4), none, .alloc [.int .u64 0, .int .i64 0, .int .i64 0, .int .i64 0, .int .i64 0, .vs [] .ex, .vs [] .ex]⟩, ⟨none, none, .store 7 (.t 4) (.t 54)⟩, ⟨(some 5), none, .mv (.t 55)⟩]
def r4_5 : List AInstr :=
  [⟨(some 56), none, .build [.int .i64 0, .int .i64 0, .int .i64 0] [(0, 1, (.c (.int .i64 20))), (1, 1, (.c (.int .i64 20)))]⟩, ⟨(some 57), none, .build [.int .u64 0, .int .i64 0, .int .i64 0, .int .i64 0, .int .i64 0] [(0, 1, (.c (.int .u64 65540))), (1, 1, (.c (.int .i64 1))), (2, 3, (.t 56))]⟩, ⟨(some 58), none, .lit 1 [(.c (.int .u64 65539)), (.c (.int .u64 65540))]⟩, ⟨(some 59), none, .lit 1 [(.c (.int .u64 65538)), (.c (.int .u64 65536))]⟩, ⟨(some 60), none, .build [.int .u64 0, .int .i64 0, .int .i64 0, .int .i64 0, .int .i64 0, .vs [] .ex, .vs [] .ex] [(0, 5, (.t 57)), (5, 1, (.t 58)), (6, 1, (.t 59))]⟩, ⟨(some 6), none, .alloc [.int .u64 0, .int .i64 0, .int .i64 0, .int .i64 0, .int .i64 0, .vs [] .ex, .vs [] .ex]⟩, ⟨none, none, .store 7 (.t 6) (.t 60)⟩]
def r4_6 : List AInstr :=
  [⟨(some 61), none, .mv (.t 5)⟩, ⟨(some 62), none, .bin .neq (.t 61) (.c (.int .i64 0))⟩, ⟨(some 63), none, .mv (.t 62)⟩, ⟨(some 64), (some (63, false)), .load true 7 (.t 4)⟩, ⟨(some 65), (some (63, false)), .load true 7 (.t 6)⟩, ⟨(some 66), (some (63, false)), .call 21 [(.t 64), (.t 65)]⟩, ⟨(some 67), (some (63, false)), .not (.t 66)⟩, ⟨(some 68), none, .pick (.t 63) (.c (.bool true)) (.t 67)⟩]
def r4_7 : List AInstr :=
  [⟨(some 0), none, .mv (.c (.bool false))⟩]
def r4_8 : List AInstr :=
  [⟨(some 69), none, .fld 0 (.t 4)⟩, ⟨(some 70), none, .load true 5 (.t 69)⟩, ⟨(some 7), none, .alloc [.int .u64 0, .int .i64 0, .int .i64 0, .int .i64 0, .int .i64 0]⟩, ⟨none, none, .store 5 (.t 7) (.t 70)⟩]
def r4_9 : List AInstr :=
  [⟨(some 71), none, .build [.int .u64 0, .int .i64 0, .int .i64 0, .int .i64 0, .int .i64 0] []⟩, ⟨(some 8), none, .alloc [.int .u64 0, .int .i64 0, .int .i64 0, .int .i64 0, .int .i64 0]⟩, ⟨none, none, .store 5 (.t 8) (.t 71)⟩]
def r4_10 : List AInstr :=
  [⟨(some 72), none, .mv (.t 1)⟩, ⟨(some 73), none, .load true 5 (.t 2)⟩, ⟨(some 74), none, .load true 5 (.t 7)⟩, ⟨(some 75), none, .call 11 [(.t 72), (.t 73), (.t 74)]⟩, ⟨(some 76), none, .ext (.t 75) 0⟩, ⟨(some 77), none, .ext (.t 75) 1⟩, ⟨(some 78), none, .call 22 [(.t 76), (.t 77)]⟩, ⟨(some 79), none, .call 20 [(.c (.str [97, 98, 99, 100, 101, 102, 103, 104, 105, 120, 121, 122]))]⟩, ⟨(some 80), none, .call 23 [(.c (.int .i64 9))]⟩, ⟨(some 81), none, .call 16 [(.c (.int .i64 8))]⟩, ⟨(some 82), none, .lit 3 [(.t 79), (.t 80), (.t 81)]⟩, ⟨(some 83), none, .callv (.t 78) [(.t 82)]⟩, ⟨(some 84), none, .not (.t 83)⟩, ⟨(some 85), none, .mv (.t 84)⟩, ⟨(some 86), (some (85, false)), .mv (.t 1)⟩, ⟨(some 87), (some (85, false)), .load true 5 (.t 2)⟩, ⟨(some 88), (some (85, false)), .load true 5 (.t 2)⟩, ⟨(some 89), (some (85, false)), .call 11 [(.t 86), (.t 87), (.t 88)]⟩, ⟨(some 90), (some (85, false)), .ext (.t 89) 0⟩, ⟨(some 91), (some (85, false)), .ext (.t 89) 1⟩, ⟨(some 92), (some (85, false)), .call 22 [(.t 90), (.t 91)]⟩, ⟨(some 93), (some (85, false)), .call 16 [(.c (.int .i64 17))]⟩, ⟨(some 94), (some (85, false)), .lit 3 [(.t 93)]⟩, ⟨(some 95), (some (85, false)), .callv (.t 92) [(.t 94)]⟩, ⟨(some 96), (some (85, false)), .not (.t 95)⟩, ⟨(some 97), none, .pick (.t 85) (.c (.bool true)) (.t 96)⟩, ⟨(some 98), none, .mv (.t 97)⟩, ⟨(some 99), (some (98, false)), .mv (.t 1)⟩, ⟨(some 100), (some (98, false)), .load true 5 (.t 8)⟩, ⟨(some 101), (some (98, false)), .load true 5 (.t 8)⟩, ⟨(some 102), (some (98, false)), .call 11 [(.t 99), (.t 100), (.t 101)]⟩, ⟨(some 103), (some (98, false)), .ext (.t 102) 0⟩, ⟨(some 104), (some (98, false)), .ext (.t 102) 1⟩, ⟨(some 105), (some (98, false)), .call 22 [(.t 103), (.t 104)]⟩, ⟨(some 106), (some (98, false)), .callv (.t 105) [(.c (.vs [] .ex))]⟩, ⟨(some 107), (some (98, false)), .not (.t 106)⟩, ⟨(some 108), none, .pick (.t 98) (.c (.bool true)) (.t 107)⟩, ⟨(some 109), none, .mv (.t 108)⟩, ⟨(some 110), (some (109, false)), .mv (.t 1)⟩, ⟨(some 111), (some (109, false)), .load true 5 (.t 8)⟩, ⟨(some 112), (some (109, false)), .load true 5 (.t 2)⟩, ⟨(some 113), (some (109, false)), .call 11 [(.t 110), (.t 111), (.t 112)]⟩, ⟨(some 114), (some (109, false)), .ext (.t 113) 0⟩, ⟨(some 115), (some (109, false)), .ext (.t 113) 1⟩, ⟨(some 116), (some (109, false)), .call 22 [(.t 114), (.t 115)]⟩, ⟨(some 117), (some (109, false)), .call 20 [(.c (.str [97, 98, 99, 100, 101, 102, 103, 104, 105, 106, 107, 108, 109, 110, 111, 112, 113]))]⟩, ⟨(some 118), (some (109, false)), .lit 3 [(.t 117)]⟩, ⟨(some 119), (some (109, false)), .callv (.t 116) [(.t 118)]⟩, ⟨(some 120), (some (109, false)), .not (.t 119)⟩, ⟨(some 121), none, .pick (.t 109) (.c (.bool true)) (.t 120)⟩, ⟨(some 122), none, .mv (.t 121)⟩, ⟨(some 123), (some (122, false)), .mv (.t 1)⟩, ⟨(some 124), (some (122, false)), .load true 5 (.t 2)⟩, ⟨(some 125), (some (122, false)), .load true 5 (.t 8)⟩, ⟨(some 126), (some (122, false)), .call 11 [(.t 123), (.t 124), (.t 125)]⟩, ⟨(some 127), (some (122, false)), .ext (.t 126) 0⟩, ⟨(some 128), (some (122, false)), .ext (.t 126) 1⟩, ⟨(some 129), (some (122, false)), .call 22 [(.t 127), (.t 128)]⟩, ⟨(some 130), (some (122, false)), .call 23 [(.c (.int .i64 17))]⟩, ⟨(some 131), (some (122, false)), .lit 3 [(.t 130)]⟩, ⟨(some 132), (some (122, false)), .callv (.t 129) [(.t 131)]⟩, ⟨(some 133), (some (122, false)), .not (.t 132)⟩, ⟨(some 134), none, .pick (.t 122) (.c (.bool true)) (.t 133)⟩]
def r4_11 : List AInstr :=
  [⟨(some 0), none, .mv (.c (.bool false))⟩]
def r4_12 : List AInstr :=
  [⟨(some 136), none, .mv (.t 1)⟩, ⟨(some 137), none, .load true 5 (.t 2)⟩, ⟨(some 138), none, .load true 5 (.t 7)⟩, ⟨(some 139), none, .call 24 [(.t 136), (.t 137), (.t 138)]⟩, ⟨(some 135), none, .mv (.t 139)⟩, ⟨(some 140), none, .ext (.t 135) 0⟩, ⟨(some 141), none, .ext (.t 135) 1⟩, ⟨(some 9), none, .mv (.t 140)⟩, ⟨(some 5), none, .mv (.t 141)⟩]
def r4_13 : List AInstr :=
  [⟨(some 143), none, .mv (.t 1)⟩, ⟨(some 144), none, .load true 5 (.t 2)⟩, ⟨(some 145), none, .load true 5 (.t 7)⟩, ⟨(some 146), none, .call 25 [(.t 143), (.t 144), (.t 145)]⟩, ⟨(some 142), none, .mv (.t 146)⟩, ⟨(some 147), none, .ext (.t 142) 0⟩, ⟨(some 148), none, .ext (.t 142) 1⟩, ⟨(some 10), none, .mv (.t 147)⟩, ⟨(some 11), none, .mv (.t 148)⟩]
def r4_14 : List AInstr :=
  [⟨(some 150), none, .mv (.t 1)⟩, ⟨(some 151), none, .load true 5 (.t 2)⟩, ⟨(some 152), none, .load true 5 (.t 2)⟩, ⟨(some 153), none, .call 25 [(.t 150), (.t 151), (.t 152)]⟩, ⟨(some 149), none, .mv (.t 153)⟩, ⟨(some 154), none, .ext (.t 149) 0⟩, ⟨(some 155), none, .ext (.t 149) 1⟩, ⟨(some 12), none, .mv (.t 154)⟩, ⟨(some 13), none, .mv (.t 155)⟩]
def r4_15 : List AInstr :=
  [⟨(some 156), none, .mv (.t 5)⟩, ⟨(some 157), none, .bin .neq (.t 156) (.c (.int .i64 0))⟩, ⟨(some 158), none, .mv (.t 157)⟩, ⟨(some 159), (some (158, false)), .mv (.t 11)⟩, ⟨(some 160), (some (158, false)), .bin .neq (.t 159) (.c (.int .i64 0))⟩, ⟨(some 161), none, .pick (.t 158) (.c (.bool true)) (.t 160)⟩, ⟨(some 162), none, .mv (.t 161)⟩, ⟨(some 163), (some (162, false)), .mv (.t 13)⟩, ⟨(some 164), (some (162, false)), .bin .neq (.t 163) (.c (.int .i64 0))⟩, ⟨(some 165), none, .pick (.t 162) (.c (.bool true)) (.t 164)⟩, ⟨(some 166), none, .mv (.t 165)⟩, ⟨(some 167), (some (166, false)), .mv (.t 9)⟩, ⟨(some 168), (some (166, false)), .lit 1 [(.c (.int .u64 65537))]⟩, ⟨(some 169), (some (166, false)), .call 26 [(.t 167), (.t 168)]⟩, ⟨(some 170), (some (166, false)), .not (.t 169)⟩, ⟨(some 171), none, .pick (.t 166) (.c (.bool true)) (.t 170)⟩, ⟨(some 172), none, .mv (.t 171)⟩, ⟨(some 173), (some (172, false)), .mv (.t 10)⟩, ⟨(some 174), (some (172, false)), .bin .neq (.t 173) (.c (.int .i64 4))⟩, ⟨(some 175), none, .pick (.t 172) (.c (.bool true)) (.t 174)⟩, ⟨(some 176), none, .mv (.t 175)⟩, ⟨(some 177), (some (176, false)), .mv (.t 12)⟩, ⟨(some 178), (some (176, false)), .bin .neq (.t 177) (.c (.int .i64 0))⟩, ⟨(some 179), none, .pick (.t 176) (.c (.bool true)) (.t 178)⟩]
def r4_16 : List AInstr :=
  [⟨(some 0), none, .mv (.c (.bool false))⟩]
def r4_17 : List AInstr :=
  [⟨(some 181), none, .mv (.t 1)⟩, ⟨(some 182), none, .load true 5 (.t 2)⟩, ⟨(some 183), none, .call 23 [(.c (.int .i64 17))]⟩, ⟨(some 184), none, .lit 3 [(.t 183)]⟩, ⟨(some 185), none, .call 17 [(.t 181), (.t 182), (.t 184)]⟩, ⟨(some 180), none, .mv (.t 185)⟩, ⟨(some 186), none, .ext (.t 180) 0⟩, ⟨(some 187), none, .ext (.t 180) 1⟩, ⟨none, none, .store 7 (.t 4) (.t 186)⟩, ⟨(some 5), none, .mv (.t 187)⟩]
def r4_18 : List AInstr :=
  [⟨(some 189), none, .mv (.t 1)⟩, ⟨(some 190), none, .load true 5 (.t 2)⟩, ⟨(some 191), none, .call 16 [(.c (.int .i64 16))]⟩, ⟨(some 192), none, .lit 3 [(.t 191)]⟩, ⟨(some 193), none, .call 17 [(.t 189), (.t 190), (.t 192)]⟩, ⟨(some 188), none, .mv (.t 193)⟩, ⟨(some 194), none, .ext (.t 188) 0⟩, ⟨(some 195), none, .ext (.t 188) 1⟩, ⟨(some 11), none, .mv (.t 195)⟩]
def r4_19 : List AInstr :=
  [⟨(some 196), none, .mv (.t 5)⟩, ⟨(some 197), none, .bin .neq (.t 196) (.c (.int .i64 0))⟩, ⟨(some 198), none, .mv (.t 197)⟩, ⟨(some 199), (some (198, false)), .load true 7 (.t 4)⟩, ⟨(some 200), (some (198, false)), .lit 1 [(.c (.int .u64 65538)), (.c (.int .u64 65536)), (.c (.int .u64 65537))]⟩, ⟨(some 201), (some (198, false)), .build [.int .u64 0, .int .i64 0, .int .i64 0, .int .i64 0, .int .i64 0, .vs [] .ex, .vs [] .ex] [(6, 1, (.t 200))]⟩, ⟨(some 202), (some (198, false)), .call 21 [(.t 199), (.t 201)]⟩, ⟨(some 203), (some (198, false)), .not (.t 202)⟩, ⟨(some 204), none, .pick (.t 198) (.c (.bool true)) (.t 203)⟩, ⟨(some 205), none, .mv (.t 204)⟩, ⟨(some 206), (some (205, false)), .mv (.t 11)⟩, ⟨(some 207), (some (205, false)), .bin .neq (.t 206) (.c (.int .i64 21))⟩, ⟨(some 208), none, .pick (.t 205) (.c (.bool true)) (.t 207)⟩]
def r4_20 : List AInstr :=
  [⟨(some 0), none, .mv (.c (.bool false))⟩]
def r4_21 : List AInstr :=
  [⟨(some 209), none, .build [.int .u8 0, .int .i64 0, .str []] [(0, 1, (.c (.int .u8 9)))]⟩, ⟨(some 210), none, .lit 3 [(.t 209)]⟩, ⟨(some 14), none, .mv (.t 210)⟩]
def r4_22 : List AInstr :=
  [⟨(some 212), none, .load true 5 (.t 2)⟩, ⟨(some 213), none, .mv (.t 14)⟩, ⟨(some 214), none, .call 17 [(.c (.nilp)), (.t 212), (.t 213)]⟩, ⟨(some 211), none, .mv (.t 214)⟩, ⟨(some 215), none, .ext (.t 211) 0⟩, ⟨(some 216), none, .ext (.t 211) 1⟩, ⟨(some 15), none, .alloc [.int .u64 0, .int .i64 0, .int .i64 0, .int .i64 0, .int .i64 0, .vs [] .ex, .vs [] .ex]⟩, ⟨none, none, .store 7 (.t 15) (.t 215)⟩, ⟨(some 16), none, .mv (.t 216)⟩]
def r4_23 : List AInstr :=
  [⟨(some 218), none, .mv (.t 1)⟩, ⟨(some 219), none, .build [.int .u64 0, .int .i64 0, .int .i64 0, .int .i64 0, .int .i64 0] [(1, 1, (.c (.int .i64 1)))]⟩, ⟨(some 220), none, .mv (.t 14)⟩, ⟨(some 221), none, .call 17 [(.t 218), (.t 219), (.t 220)]⟩, ⟨(some 217), none, .mv (.t 221)⟩, ⟨(some 222), none, .ext (.t 217) 0⟩, ⟨(some 223), none, .ext (.t 217) 1⟩, ⟨(some 17), none, .alloc [.int .u64 0, .int .i64 0, .int .i64 0, .int .i64 0, .int .i64 0, .vs [] .ex, .vs [] .ex]⟩, ⟨none, none, .store 7 (.t 17) (.t 222)⟩, ⟨(some 18), none, .mv (.t 223)⟩]
def r4_24 : List AInstr :=
  [⟨(some 225), none, .mv (.t 1)⟩, ⟨(some 226), none, .load true 5 (.t 2)⟩, ⟨(some 227), none, .mv (.t 14)⟩, ⟨(some 228), none, .call 17 [(.t 225), (.t 226), (.t 227)]⟩, ⟨(some 224), none, .mv (.t 228)⟩, ⟨(some 229), none, .ext (.t 224) 0⟩, ⟨(some 230), none, .ext (.t 224) 1⟩, ⟨(some 19), none, .alloc [.int .u64 0, .int .i64 0, .int .i64 0, .int .i64 0, .int .i64 0, .vs [] .ex, .vs [] .ex]⟩, ⟨none, none, .store 7 (.t 19) (.t 229)⟩, ⟨(some 20), none, .mv (.t 230)⟩]
def r4_25 : List AInstr :=
  [⟨(some 232), none, .mv (.t 1)⟩, ⟨(some 233), none, .load true 5 (.t 2)⟩, ⟨(some 234), none, .call 27 [(.c (.str [97])), (.c (.int .i64 65536))]⟩, ⟨(some 235), none, .call 20 [(.t 234)]⟩, ⟨(some 236), none, .call 16 [(.c (.int .i64 17))]⟩, ⟨(some 237), none, .lit 3 [(.t 235), (.t 236)]⟩, ⟨(some 238), none, .call 17 [(.t 232), (.t 233), (.t 237)]⟩, ⟨(some 231), none, .mv (.t 238)⟩, ⟨(some 239), none, .ext (.t 231) 0⟩, ⟨(some 240), none, .ext (.t 231) 1⟩, ⟨(some 21), none, .alloc [.int .u64 0, .int .i64 0, .int .i64 0, .int .i64 0, .int .i64 0, .vs [] .ex, .vs [] .ex]⟩, ⟨none, none, .store 7 (.t 21) (.t 239)⟩, ⟨(some 22), none, .mv (.t 240)⟩]
def r4_26 : List AInstr :=
  [⟨(some 242), none, .mv (.t 1)⟩, ⟨(some 243), none, .load true 5 (.t 2)⟩, ⟨(some 244), none, .call 27 [(.c (.str [97])), (.c (.int .i64 300))]⟩, ⟨(some 245), none, .call 20 [(.t 244)]⟩, ⟨(some 246), none, .call 16 [(.c (.int .i64 17))]⟩, ⟨(some 247), none, .lit 3 [(.t 245), (.t 246)]⟩, ⟨(some 248), none, .call 17 [(.t 242), (.t 243), (.t 247)]⟩, ⟨(some 241), none, .mv (.t 248)⟩, ⟨(some 249), none, .ext (.t 241) 0⟩, ⟨(some 250), none, .ext (.t 241) 1⟩, ⟨(some 23), none, .alloc [.int .u64 0, .int .i64 0, .int .i64 0, .int .i64 0, .int .i64 0, .vs [] .ex, .vs [] .ex]⟩, ⟨none, none, .store 7 (.t 23) (.t 249)⟩, ⟨(some 24), none, .mv (.t 250)⟩]
def r4_27 : List AInstr :=
  [⟨(some 252), none, .mv (.t 1)⟩, ⟨(some 253), none, .load true 5 (.t 2)⟩, ⟨(some 254), none, .build [.int .u64 0, .int .i64 0, .int .i64 0, .int .i64 0, .int .i64 0] [(0, 1, (.c (.int .u64 65543)))]⟩, ⟨(some 255), none, .call 11 [(.t 252), (.t 253), (.t 254)]⟩, ⟨(some 251), none, .mv (.t 255)⟩, ⟨(some 256), none, .ext (.t 251) 0⟩, ⟨(some 257), none, .ext (.t 251) 1⟩, ⟨(some 25), none, .mv (.t 256)⟩, ⟨(some 26), none, .mv (.t 257)⟩]
def r4_28 : List AInstr :=
  [⟨(some 259), none, .load true 5 (.t 2)⟩, ⟨(some 260), none, .load true 5 (.t 2)⟩, ⟨(some 261), none, .call 24 [(.c (.nilp)), (.t 259), (.t 260)]⟩, ⟨(some 258), none, .mv (.t 261)⟩, ⟨(some 262), none, .ext (.t 258) 0⟩, ⟨(some 263), none, .ext (.t 258) 1⟩, ⟨(some 27), none, .mv (.t 262)⟩, ⟨(some 28), none, .mv (.t 263)⟩]
def r4_29 : List AInstr :=
  [⟨(some 265), none, .mv (.t 1)⟩, ⟨(some 266), none, .fld 0 (.t 2)⟩, ⟨(some 267), none, .load false 1 (.t 266)⟩, ⟨(some 268), none, .build [.int .u64 0, .int .i64 0, .int .i64 0, .int .i64 0, .int .i64 0] [(0, 1, (.t 267))]⟩, ⟨(some 269), none, .build [.int .u64 0, .int .i64 0, .int .i64 0, .int .i64 0, .int .i64 0] [(0, 1, (.c (.int .u64 65543)))]⟩, ⟨(some 270), none, .call 25 [(.t 265), (.t 268), (.t 269)]⟩, ⟨(some 264), none, .mv (.t 270)⟩, ⟨(some 271), none, .ext (.t 264) 0⟩, ⟨(some 272), none, .ext (.t 264) 1⟩, ⟨(some 29), none, .mv (.t 271)⟩, ⟨(some 30), none, .mv (.t 272)⟩]
def r4_30 : List AInstr :=
  [⟨(some 273), none, .mv (.t 16)⟩, ⟨(some 274), none, .bin .eql (.t 273) (.c (.int .i64 1))⟩, ⟨(some 275), none, .mv (.t 274)⟩, ⟨(some 276), (some (275, true)), .mv (.t 18)⟩, ⟨(some 277), (some (275, true)), .bin .eql (.t 276) (.c (.int .i64 2))⟩, ⟨(some 278), none, .pick (.t 275) (.t 277) (.c (.bool false))⟩, ⟨(some 279), none, .mv (.t 278)⟩, ⟨(some 280), (some (279, true)), .mv (.t 20)⟩, ⟨(some 281), (some (279, true)), .bin .neq (.t 280) (.c (.int .i64 0))⟩, ⟨(some 282), none, .pick (.t 279) (.t 281) (.c (.bool false))⟩, ⟨(some 283), none, .mv (.t 282)⟩, ⟨(some 284), (some (283, true)), .mv (.t 20)⟩, ⟨(some 285), (some (283, true)), .mv (.t 14)⟩, ⟨(some 286), (some (283, true)), .call 12 [(.t 285)]⟩, ⟨(some 287), (some (283, true)), .bin .eql (.t 284) (.t 286)⟩, ⟨(some 288), none, .pick (.t 283) (.t 287) (.c (.bool false))⟩, ⟨(some 289), none, .mv (.t 288)⟩, ⟨(some 290), (some (289, true)), .mv (.t 22)⟩, ⟨(some 291), (some (289, true)), .bin .eql (.t 290) (.c (.int .i64 5))⟩, ⟨(some 292), none, .pick (.t 289) (.t 291) (.c (.bool false))⟩, ⟨(some 293), none, .mv (.t 292)⟩, ⟨(some 294), (some (293, true)), .mv (.t 24)⟩, ⟨(some 295), (some (293, true)), .bin .eql (.t 294) (.c (.int .i64 6))⟩, ⟨(some 296), none, .pick (.t 293) (.t 295) (.c (.bool false))⟩, ⟨(some 297), none, .mv (.t 296)⟩, ⟨(some 298), (some (297, true)), .mv (.t 26)⟩, ⟨(some 299), (some (297, true)), .bin .eql (.t 298) (.c (.int .i64 10))⟩, ⟨(some 300), none, .pick (.t 297) (.t 299) (.c (.bool false))⟩, ⟨(some 301), none, .mv (.t 300)⟩, ⟨(some 302), (some (301, true)), .mv (.t 28)⟩, ⟨(some 303), (some (301, true)), .bin .eql (.t 302) (.c (.int .i64 1))⟩, ⟨(some 304), none, .pick (.t 301) (.t 303) (.c (.bool false))⟩, ⟨(some 305), none, .mv (.t 304)⟩, ⟨(some 306), (some (305, true)), .mv (.t 30)⟩, ⟨(some 307), (some (305, true)), .bin .eql (.t 306) (.c (.int .i64 23))⟩, ⟨(some 308), none, .pick (.t 305) (.t 307) (.c (.bool false))⟩, ⟨(some 0), none, .mv (.t 308)⟩]
def c4 : ACode :=
  .seq (.rg r4_0) (.seq (.rg r4_1) (.seq (.seq (.rg r4_2) (.cond (.t 45) (.seq (.rg r4_3) (.ret)) (.skip))) (.seq (.qrg r4_4 [[], [], [], [2], [3], [2, 3, 4], [0, 1, 5, 4], [6], [7], [7], [], [10, 8, 6, 0, 1, 2, 3, 4, 5, 6, 7, 8, 10], [9, 11, 0, 1, 2, 3, 4, 5, 6, 7, 8, 9, 10, 11]]) (.seq (.rg r4_5) (.seq (.seq (.rg r4_6) (.cond (.t 68) (.seq (.rg r4_7) (.ret)) (.skip))) (.seq (.rg r4_8) (.seq (.rg r4_9) (.seq (.seq (.rg r4_10) (.cond (.t 134) (.seq (.rg r4_11) (.ret)) (.skip))) (.seq (.rg r4_12) (.seq (.rg r4_13) (.seq (.rg r4_14) (.seq (.seq (.rg r4_15) (.cond (.t 179) (.seq (.rg r4_16) (.ret)) (.skip))) (.seq (.qrg r4_17 [[], [], [], [2], [0, 1, 3, 2], [4], [5], [5], [6, 4, 0, 1, 2, 3, 4, 5, 6], [7, 8, 0, 1, 2, 3, 4, 5, 6, 7, 8]]) (.seq (.qrg r4_18 [[], [], [], [2], [0, 1, 3, 2], [4], [5], [5], [7, 4, 0, 1, 2, 3, 4, 5, 6, 7]]) (.seq (.seq (.rg r4_19) (.cond (.t 208) (.seq (.rg r4_20) (.ret)) (.skip))) (.seq (.rg r4_21) (.seq (.rg r4_22) (.seq (.rg r4_23) (.seq (.rg r4_24) (.seq (.qrg r4_25 [[], [], [], [2, 2], [3], [3, 4], [0, 1, 5, 4], [6], [7], [7], [], [10, 8, 6, 0, 1, 2, 3, 4, 5, 6, 7, 8, 10], [9, 11, 0, 1, 2, 3, 4, 5, 6, 7, 8, 9, 10, 11]]) (.seq (.qrg r4_26 [[], [], [], [2, 2], [3], [3, 4], [0, 1, 5, 4], [6], [7], [7], [], [10, 8, 6, 0, 1, 2, 3, 4, 5, 6, 7, 8, 10], [9, 11, 0, 1, 2, 3, 4, 5, 6, 7, 8, 9, 10, 11]]) (.seq (.rg r4_27) (.seq (.rg r4_28) (.seq (.rg r4_29) (.seq (.rg r4_30) (.ret))))))))))))))))))))))))))
def a4 : AFunc := { np := 0, nt := 309, res := [.tmp 0], body := c4 }

/- quartokit.EqualChange -/
def r21_0 : List AInstr :=
  [⟨(some 2), none, .box 7 (.t 0)⟩, ⟨(some 3), none, .box 7 (.t 1)⟩, ⟨(some 4), none, .mv (.c (.bool false))⟩]
def r21_1 : List AInstr :=
  [⟨(some 5), none, .fld 0 (.t 2)⟩, ⟨(some 6), none, .load true 5 (.t 5)⟩, ⟨(some 7), none, .fld 0 (.t 3)⟩, ⟨(some 8), none, .load true 5 (.t 7)⟩, ⟨(some 9), none, .eqagg false [.i, .i, .i, .i, .i] (.t 6) (.t 8)⟩, ⟨(some 10), none, .mv (.t 9)⟩, ⟨(some 11), (some (10, true)), .fld 5 (.t 2)⟩, ⟨(some 12), (some (10, true)), .load false 1 (.t 11)⟩, ⟨(some 13), (some (10, true)), .fld 5 (.t 3)⟩, ⟨(some 14), (some (10, true)), .load false 1 (.t 13)⟩, ⟨(some 15), (some (10, true)), .call 26 [(.t 12), (.t 14)]⟩, ⟨(some 16), none, .pick (.t 10) (.t 15) (.c (.bool false))⟩, ⟨(some 17), none, .mv (.t 16)⟩, ⟨(some 18), (some (17, true)), .fld 6 (.t 2)⟩, ⟨(some 19), (some (17, true)), .load false 1 (.t 18)⟩, ⟨(some 20), (some (17, true)), .fld 6 (.t 3)⟩, ⟨(some 21), (some (17, true)), .load false 1 (.t 20)⟩, ⟨(some 22), (some (17, true)), .call 26 [(.t 19), (.t 21)]⟩, ⟨(some 23), none, .pick (.t 17) (.t 22) (.c (.bool false))⟩, ⟨(some 4), none, .mv (.t 23)⟩]
def c21 : ACode :=
  .seq (.rg r21_0) (.seq (.rg r21_1) (.ret))
def a21 : AFunc := { np := 2, nt := 24, res := [.tmp 4], body := c21 }

/- quartolaw20.pieces -/
def r22_0 : List AInstr :=
  [⟨(some 2), none, .box 1 (.t 0)⟩, ⟨(some 3), none, .box 1 (.t 1)⟩, ⟨(some 4), none, .mv (.c (.nilfn))⟩]
def r22_1 : List AInstr :=
  [⟨(some 5), none, .mkfn 58 [(.t 3), (.t 2)]⟩, ⟨(some 4), none, .mv (.t 5)⟩]
def c22 : ACode :=
  .seq (.rg r22_0) (.seq (.rg r22_1) (.ret))
def a22 : AFunc := { np := 2, nt := 6, res := [.tmp 4], body := c22 }

/- quartolaw20.drop -/
def r23_0 : List AInstr :=
  [⟨(some 2), none, .alloc [.int .u8 0, .int .i64 0, .str []]⟩]
def r23_1 : List AInstr :=
  [⟨(some 3), none, .mv (.t 0)⟩, ⟨(some 4), none, .build [.int .u8 0, .int .i64 0, .str []] [(0, 1, (.c (.int .u8 3))), (1, 1, (.t 3))]⟩, ⟨none, none, .store 3 (.t 2) (.t 4)⟩]
def c23 : ACode :=
  .seq (.rg r23_0) (.seq (.rg r23_1) (.ret))
def a23 : AFunc := { np := 1, nt := 5, res := [.cell 2 true 3], body := c23 }

/- patch.Shared -/
def r24_0 : List AInstr :=
  [⟨(some 4), none, .box 5 (.t 1)⟩, ⟨(some 5), none, .box 5 (.t 2)⟩, ⟨(some 6), none, .mv (.c (.vs [] .ex))⟩, ⟨(some 7), none, .mv (.c (.int .i64 0))⟩]
def r24_1 : List AInstr :=
  [⟨(some 14), none, .mv (.t 0)⟩, ⟨(some 15), none, .load true 5 (.t 4)⟩, ⟨(some 16), none, .load true 5 (.t 5)⟩, ⟨(some 17), none, .call 59 [(.t 14), (.t 15), (.t 16)]⟩, ⟨(some 13), none, .mv (.t 17)⟩, ⟨(some 18), none, .ext (.t 13) 0⟩, ⟨(some 19), none, .ext (.t 13) 1⟩, ⟨(some 8), none, .mv (.t 18)⟩, ⟨(some 9), none, .mv (.t 19)⟩]
def r24_2 : List AInstr :=
  [⟨(some 20), none, .mv (.t 9)⟩, ⟨(some 21), none, .bin .neq (.t 20) (.c (.int .i64 0))⟩]
def r24_3 : List AInstr :=
  [⟨(some 22), none, .mv (.t 9)⟩, ⟨(some 6), none, .mv (.c (.vs [] .ex))⟩, ⟨(some 7), none, .mv (.t 22)⟩]
def r24_4 : List AInstr :=
  [⟨(some 10), none, .mv (.c (.vs [] .ex))⟩]
def r24_5 : List AInstr :=
  [⟨(some 23), none, .mv (.t 8)⟩, ⟨(some 24), none, .range (.t 23)⟩]
def r24_6 : List AInstr :=
  [⟨(some 25), none, .next (.t 24)⟩, ⟨(some 26), none, .ext (.t 25) 0⟩]
def r24_7 : List AInstr :=
  [⟨(some 27), none, .entry (.t 24)⟩, ⟨(some 28), none, .ext (.t 27) 0⟩, ⟨(some 29), none, .ext (.t 27) 1⟩, ⟨(some 11), none, .mv (.t 28)⟩, ⟨(some 12), none, .mv (.t 29)⟩]
def r24_8 : List AInstr :=
  [⟨(some 30), none, .mv (.t 12)⟩, ⟨(some 31), none, .bin .eql (.t 30) (.c (.int .i64 2))⟩]
def r24_9 : List AInstr :=
  [⟨(some 32), none, .mv (.t 10)⟩, ⟨(some 33), none, .mv (.t 11)⟩, ⟨(some 34), none, .lit 1 [(.t 33)]⟩, ⟨(some 35), none, .app false 1 8 (.t 32) (.t 34)⟩, ⟨(some 10), none, .mv (.t 35)⟩]
def l24_10 : ACode :=
  .seq (.rg r24_6) (.seq (.cond (.t 26) (.skip) (.exit 0)) (.block 1 (.seq (.rg r24_7) (.seq (.rg r24_8) (.cond (.t 31) (.rg r24_9) (.skip))))))
def r24_10 : List AInstr :=
  [⟨(some 36), none, .mv (.t 10)⟩, ⟨(some 37), none, .call 60 [(.t 36)]⟩, ⟨(some 6), none, .mv (.t 37)⟩, ⟨(some 7), none, .mv (.c (.int .i64 0))⟩]
def c24 : ACode :=
  .seq (.rg r24_0) (.seq (.rg r24_1) (.seq (.seq (.rg r24_2) (.cond (.t 21) (.seq (.rg r24_3) (.ret)) (.skip))) (.seq (.rg r24_4) (.seq (.seq (.rg r24_5) (.block 0 (.loop l24_10))) (.seq (.rg r24_10) (.ret))))))
def a24 : AFunc := { np := 3, nt := 38, res := [.tmp 6, .tmp 7], body := c24 }

/- quartokit.EqualHandles -/
def r26_0 : List AInstr :=
  [⟨(some 4), none, .mv (.c (.bool false))⟩]
def r26_1 : List AInstr :=
  [⟨(some 6), none, .mv (.t 0)⟩, ⟨(some 7), none, .len .l (.t 6)⟩, ⟨(some 8), none, .mv (.t 1)⟩, ⟨(some 9), none, .len .l (.t 8)⟩, ⟨(some 10), none, .bin .neq (.t 7) (.t 9)⟩]
def r26_2 : List AInstr :=
  [⟨(some 4), none, .mv (.c (.bool false))⟩]
def r26_3 : List AInstr :=
  [⟨(some 5), none, .mv (.c (.int .i64 0))⟩]
def r26_4 : List AInstr :=
  [⟨(some 11), none, .mv (.t 5)⟩, ⟨(some 12), none, .mv (.t 0)⟩, ⟨(some 13), none, .len .l (.t 12)⟩, ⟨(some 14), none, .bin .lss (.t 11) (.t 13)⟩]
def r26_6 : List AInstr :=
  [⟨(some 17), none, .mv (.t 0)⟩, ⟨(some 18), none, .mv (.t 5)⟩, ⟨(some 19), none, .idxA 1 (.t 17) (.t 18)⟩, ⟨(some 20), none, .load false 1 (.t 19)⟩, ⟨(some 21), none, .mv (.t 1)⟩, ⟨(some 22), none, .mv (.t 5)⟩, ⟨(some 23), none, .idxA 1 (.t 21) (.t 22)⟩, ⟨(some 24), none, .load false 1 (.t 23)⟩, ⟨(some 25), none, .bin .neq (.t 20) (.t 24)⟩]
def r26_7 : List AInstr :=
  [⟨(some 4), none, .mv (.c (.bool false))⟩]
def r26_5 : List AInstr :=
  [⟨(some 15), none, .mv (.t 5)⟩, ⟨(some 16), none, .bin .add (.t 15) (.c (.int .i64 1))⟩, ⟨(some 5), none, .mv (.t 16)⟩]
def l26_8 : ACode :=
  .seq (.seq (.rg r26_4) (.cond (.t 14) (.skip) (.exit 0))) (.seq (.block 1 (.seq (.rg r26_6) (.cond (.t 25) (.seq (.rg r26_7) (.ret)) (.skip)))) (.rg r26_5))
def r26_8 : List AInstr :=
  [⟨(some 4), none, .mv (.c (.bool true))⟩]
def c26 : ACode :=
  .seq (.rg r26_0) (.seq (.seq (.rg r26_1) (.cond (.t 10) (.seq (.rg r26_2) (.ret)) (.skip))) (.seq (.seq (.rg r26_3) (.block 0 (.loop l26_8))) (.seq (.rg r26_8) (.ret))))
def a26 : AFunc := { np := 2, nt := 26, res := [.tmp 4], body := c26 }

/- quartolaw20.pieces$1 -/
def r58_0 : List AInstr :=
  [⟨(some 4), none, .mv (.c (.bool false))⟩]
def r58_1 : List AInstr :=
  [⟨(some 5), none, .load false 1 (.t 1)⟩, ⟨(some 6), none, .bin .eql (.t 5) (.c (.int .i64 0))⟩, ⟨(some 7), none, .mv (.t 6)⟩, ⟨(some 8), (some (7, true)), .load false 1 (.t 2)⟩, ⟨(some 9), (some (7, true)), .mv (.t 0)⟩, ⟨(some 10), (some (7, true)), .call 15 [(.t 8), (.t 9)]⟩, ⟨(some 11), none, .pick (.t 7) (.t 10) (.c (.bool false))⟩, ⟨(some 4), none, .mv (.t 11)⟩]
def c58 : ACode :=
  .seq (.rg r58_0) (.seq (.rg r58_1) (.ret))
def a58 : AFunc := { np := 3, nt := 12, res := [.tmp 4], body := c58 }

/- handle.Sort -/
def r60_0 : List AInstr :=
  [⟨(some 2), none, .mv (.c (.vs [] .ex))⟩]
def r60_1 : List AInstr :=
  [⟨(some 4), none, .mv (.t 0)⟩, ⟨(some 5), none, .call 119 [(.t 4)]⟩, ⟨(some 3), none, .mv (.t 5)⟩]
def r60_2 : List AInstr :=
  [⟨(some 6), none, .mv (.t 3)⟩, ⟨(some 7), none, .call 120 [(.t 6), (.c (.fn 121 []))]⟩]
def r60_3 : List AInstr :=
  [⟨(some 8), none, .mv (.t 3)⟩, ⟨(some 9), none, .call 122 [(.t 8)]⟩, ⟨(some 2), none, .mv (.t 9)⟩]
def c60 : ACode :=
  .seq (.rg r60_0) (.seq (.rg r60_1) (.seq (.rg r60_2) (.seq (.rg r60_3) (.ret))))
def a60 : AFunc := { np := 1, nt := 10, res := [.tmp 2], body := c60 }

/- slices.Clone[[]api.Handle,api.Handle] -/
def r119_0 : List AInstr :=
  [⟨(some 2), none, .mv (.c (.vs [] .ex))⟩]
def r119_1 : List AInstr :=
  [⟨(some 3), none, .mv (.t 0)⟩, ⟨(some 4), none, .eqnil false (.t 3)⟩]
def r119_2 : List AInstr :=
  [⟨(some 2), none, .mv (.c (.vs [] .ex))⟩]
def r119_3 : List AInstr :=
  [⟨(some 5), none, .lit 1 []⟩, ⟨(some 6), none, .mv (.t 0)⟩, ⟨(some 7), none, .app false 1 8 (.t 5) (.t 6)⟩, ⟨(some 2), none, .mv (.t 7)⟩]
def c119 : ACode :=
  .seq (.rg r119_0) (.seq (.seq (.rg r119_1) (.cond (.t 4) (.seq (.rg r119_2) (.ret)) (.skip))) (.seq (.rg r119_3) (.ret)))
def a119 : AFunc := { np := 1, nt := 8, res := [.tmp 2], body := c119 }

/- slices.SortFunc[[]api.Handle,api.Handle] -/
def r120_0 : List AInstr :=
  [⟨(some 5), none, .mv (.t 0)⟩, ⟨(some 6), none, .len .l (.t 5)⟩, ⟨(some 4), none, .mv (.t 6)⟩]
def r120_1 : List AInstr :=
  [⟨(some 7), none, .mv (.t 0)⟩, ⟨(some 8), none, .mv (.t 4)⟩, ⟨(some 9), none, .mv (.t 4)⟩, ⟨(some 10), none, .conv .u64 (.t 9)⟩, ⟨(some 11), none, .call 183 [(.t 10)]⟩, ⟨(some 12), none, .mv (.t 1)⟩, ⟨(some 13), none, .call 182 [(.t 7), (.c (.int .i64 0)), (.t 8), (.t 11), (.t 12)]⟩]
def c120 : ACode :=
  .seq (.rg r120_0) (.rg r120_1)
def a120 : AFunc := { np := 2, nt := 14, res := [], body := c120 }

/- handle.Sort$1 -/
def r121_0 : List AInstr :=
  [⟨(some 4), none, .mv (.c (.int .i64 0))⟩]
def r121_1 : List AInstr :=
  [⟨(some 7), none, .mv (.t 0)⟩, ⟨(some 8), none, .bin .and (.t 7) (.c (.int .u64 65535))⟩, ⟨(some 9), none, .mv (.t 1)⟩, ⟨(some 10), none, .bin .and (.t 9) (.c (.int .u64 65535))⟩, ⟨(some 5), none, .mv (.t 8)⟩, ⟨(some 6), none, .mv (.t 10)⟩]
def r121_2 : List AInstr :=
  [⟨(some 11), none, .mv (.t 5)⟩, ⟨(some 12), none, .mv (.t 6)⟩, ⟨(some 13), none, .bin .neq (.t 11) (.t 12)⟩]
def r121_3 : List AInstr :=
  [⟨(some 14), none, .mv (.t 5)⟩, ⟨(some 15), none, .mv (.t 6)⟩, ⟨(some 16), none, .bin .lss (.t 14) (.t 15)⟩]
def r121_4 : List AInstr :=
  [⟨(some 4), none, .mv (.c (.int .i64 (-1)))⟩]
def r121_5 : List AInstr :=
  [⟨(some 4), none, .mv (.c (.int .i64 1))⟩]
def r121_6 : List AInstr :=
  [⟨(some 17), none, .mv (.t 0)⟩, ⟨(some 18), none, .mv (.t 1)⟩, ⟨(some 19), none, .bin .lss (.t 17) (.t 18)⟩]
def r121_7 : List AInstr :=
  [⟨(some 4), none, .mv (.c (.int .i64 (-1)))⟩]
def r121_8 : List AInstr :=
  [⟨(some 20), none, .mv (.t 0)⟩, ⟨(some 21), none, .mv (.t 1)⟩, ⟨(some 22), none, .bin .gtr (.t 20) (.t 21)⟩]
def r121_9 : List AInstr :=
  [⟨(some 4), none, .mv (.c (.int .i64 1))⟩]
def r121_10 : List AInstr :=
  [⟨(some 4), none, .mv (.c (.int .i64 0))⟩]
def c121 : ACode :=
  .seq (.rg r121_0) (.seq (.seq (.rg r121_1) (.seq (.rg r121_2) (.cond (.t 13) (.seq (.seq (.rg r121_3) (.cond (.t 16) (.seq (.rg r121_4) (.ret)) (.skip))) (.seq (.rg r121_5) (.ret))) (.skip)))) (.seq (.seq (.rg r121_6) (.cond (.t 19) (.seq (.rg r121_7) (.ret)) (.skip))) (.seq (.seq (.rg r121_8) (.cond (.t 22) (.seq (.rg r121_9) (.ret)) (.skip))) (.seq (.rg r121_10) (.ret)))))
def a121 : AFunc := { np := 2, nt := 23, res := [.tmp 4], body := c121 }

/- slices.Compact[[]api.Handle,api.Handle] -/
def r122_0 : List AInstr :=
  [⟨(some 2), none, .mv (.c (.vs [] .ex))⟩]
def r122_1 : List AInstr :=
  [⟨(some 6), none, .mv (.t 0)⟩, ⟨(some 7), none, .len .l (.t 6)⟩, ⟨(some 8), none, .bin .lss (.t 7) (.c (.int .i64 2))⟩]
def r122_2 : List AInstr :=
  [⟨(some 9), none, .mv (.t 0)⟩, ⟨(some 2), none, .mv (.t 9)⟩]
def r122_3 : List AInstr :=
  [⟨(some 3), none, .mv (.c (.int .i64 1))⟩]
def r122_4 : List AInstr :=
  [⟨(some 10), none, .mv (.t 3)⟩, ⟨(some 11), none, .mv (.t 0)⟩, ⟨(some 12), none, .len .l (.t 11)⟩, ⟨(some 13), none, .bin .lss (.t 10) (.t 12)⟩]
def r122_6 : List AInstr :=
  [⟨(some 16), none, .mv (.t 0)⟩, ⟨(some 17), none, .mv (.t 3)⟩, ⟨(some 18), none, .idxA 1 (.t 16) (.t 17)⟩, ⟨(some 19), none, .load false 1 (.t 18)⟩, ⟨(some 20), none, .mv (.t 0)⟩, ⟨(some 21), none, .mv (.t 3)⟩, ⟨(some 22), none, .bin .sub (.t 21) (.c (.int .i64 1))⟩, ⟨(some 23), none, .idxA 1 (.t 20) (.t 22)⟩, ⟨(some 24), none, .load false 1 (.t 23)⟩, ⟨(some 25), none, .bin .eql (.t 19) (.t 24)⟩]
def r122_7 : List AInstr :=
  [⟨(some 26), none, .mv (.t 0)⟩, ⟨(some 27), none, .mv (.t 3)⟩, ⟨(some 28), none, .slice 1 (.t 26) (some (.t 27)) none none⟩, ⟨(some 4), none, .mv (.t 28)⟩]
def r122_8 : List AInstr :=
  [⟨(some 5), none, .mv (.c (.int .i64 1))⟩]
def r122_9 : List AInstr :=
  [⟨(some 29), none, .mv (.t 5)⟩, ⟨(some 30), none, .mv (.t 4)⟩, ⟨(some 31), none, .len .l (.t 30)⟩, ⟨(some 32), none, .bin .lss (.t 29) (.t 31)⟩]
def r122_11 : List AInstr :=
  [⟨(some 35), none, .mv (.t 4)⟩, ⟨(some 36), none, .mv (.t 5)⟩, ⟨(some 37), none, .idxA 1 (.t 35) (.t 36)⟩, ⟨(some 38), none, .load false 1 (.t 37)⟩, ⟨(some 39), none, .mv (.t 4)⟩, ⟨(some 40), none, .mv (.t 5)⟩, ⟨(some 41), none, .bin .sub (.t 40) (.c (.int .i64 1))⟩, ⟨(some 42), none, .idxA 1 (.t 39) (.t 41)⟩, ⟨(some 43), none, .load false 1 (.t 42)⟩, ⟨(some 44), none, .bin .neq (.t 38) (.t 43)⟩]
def r122_12 : List AInstr :=
  [⟨(some 45), none, .mv (.t 0)⟩, ⟨(some 46), none, .mv (.t 3)⟩, ⟨(some 47), none, .mv (.t 4)⟩, ⟨(some 48), none, .mv (.t 5)⟩, ⟨(some 49), none, .idxA 1 (.t 47) (.t 48)⟩, ⟨(some 50), none, .load false 1 (.t 49)⟩, ⟨(some 51), none, .idxA 1 (.t 45) (.t 46)⟩, ⟨none, none, .store 1 (.t 51) (.t 50)⟩]
def r122_13 : List AInstr :=
  [⟨(some 52), none, .mv (.t 3)⟩, ⟨(some 53), none, .bin .add (.t 52) (.c (.int .i64 1))⟩, ⟨(some 3), none, .mv (.t 53)⟩]
def r122_10 : List AInstr :=
  [⟨(some 33), none, .mv (.t 5)⟩, ⟨(some 34), none, .bin .add (.t 33) (.c (.int .i64 1))⟩, ⟨(some 5), none, .mv (.t 34)⟩]
def l122_13 : ACode :=
  .seq (.seq (.rg r122_9) (.cond (.t 32) (.skip) (.exit 2))) (.seq (.block 3 (.seq (.rg r122_11) (.cond (.t 44) (.seq (.rg r122_12) (.rg r122_13)) (.skip)))) (.rg r122_10))
def r122_14 : List AInstr :=
  [⟨(some 54), none, .mv (.t 0)⟩, ⟨(some 55), none, .mv (.t 3)⟩, ⟨(some 56), none, .slice 1 (.t 54) (some (.t 55)) none none⟩, ⟨none, none, .bad⟩]
def r122_15 : List AInstr :=
  [⟨(some 57), none, .mv (.t 0)⟩, ⟨(some 58), none, .mv (.t 3)⟩, ⟨(some 59), none, .slice 1 (.t 57) none (some (.t 58)) none⟩, ⟨(some 2), none, .mv (.t 59)⟩]
def r122_5 : List AInstr :=
  [⟨(some 14), none, .mv (.t 3)⟩, ⟨(some 15), none, .bin .add (.t 14) (.c (.int .i64 1))⟩, ⟨(some 3), none, .mv (.t 15)⟩]
def l122_17 : ACode :=
  .seq (.seq (.rg r122_4) (.cond (.t 13) (.skip) (.exit 0))) (.seq (.block 1 (.seq (.rg r122_6) (.cond (.t 25) (.seq (.rg r122_7) (.seq (.seq (.rg r122_8) (.block 2 (.loop l122_13))) (.seq (.rg r122_14) (.seq (.rg r122_15) (.ret))))) (.skip)))) (.rg r122_5))
def r122_16 : List AInstr :=
  [⟨(some 60), none, .mv (.t 0)⟩, ⟨(some 2), none, .mv (.t 60)⟩]
def c122 : ACode :=
  .seq (.rg r122_0) (.seq (.seq (.rg r122_1) (.cond (.t 8) (.seq (.rg r122_2) (.ret)) (.skip))) (.seq (.seq (.rg r122_3) (.block 0 (.loop l122_17))) (.seq (.rg r122_16) (.ret))))
def a122 : AFunc := { np := 1, nt := 61, res := [.tmp 2], body := c122 }

/- slices.pdqsortCmpFunc[api.Handle] -/
def r182_0 : List AInstr :=
  [⟨(some 10), none, .mv (.c (.bool true))⟩]
def r182_1 : List AInstr :=
  [⟨(some 11), none, .mv (.c (.bool true))⟩]
def r182_2 : List AInstr :=
  [⟨(some 21), none, .mv (.t 2)⟩, ⟨(some 22), none, .mv (.t 1)⟩, ⟨(some 23), none, .bin .sub (.t 21) (.t 22)⟩, ⟨(some 12), none, .mv (.t 23)⟩]
def r182_3 : List AInstr :=
  [⟨(some 24), none, .mv (.t 12)⟩, ⟨(some 25), none, .bin .leq (.t 24) (.c (.int .i64 12))⟩]
def r182_4 : List AInstr :=
  [⟨(some 26), none, .mv (.t 0)⟩, ⟨(some 27), none, .mv (.t 1)⟩, ⟨(some 28), none, .mv (.t 2)⟩, ⟨(some 29), none, .mv (.t 4)⟩, ⟨(some 30), none, .call 225 [(.t 26), (.t 27), (.t 28), (.t 29)]⟩]
def r182_5 : List AInstr :=
  [⟨(some 31), none, .mv (.t 3)⟩, ⟨(some 32), none, .bin .eql (.t 31) (.c (.int .i64 0))⟩]
def r182_6 : List AInstr :=
  [⟨(some 33), none, .mv (.t 0)⟩, ⟨(some 34), none, .mv (.t 1)⟩, ⟨(some 35), none, .mv (.t 2)⟩, ⟨(some 36), none, .mv (.t 4)⟩, ⟨(some 37), none, .call 226 [(.t 33), (.t 34), (.t 35), (.t 36)]⟩]
def r182_7 : List AInstr :=
  [⟨(some 38), none, .mv (.t 10)⟩, ⟨(some 39), none, .not (.t 38)⟩]
def r182_8 : List AInstr :=
  [⟨(some 40), none, .mv (.t 0)⟩, ⟨(some 41), none, .mv (.t 1)⟩, ⟨(some 42), none, .mv (.t 2)⟩, ⟨(some 43), none, .mv (.t 4)⟩, ⟨(some 44), none, .call 227 [(.t 40), (.t 41), (.t 42), (.t 43)]⟩]
def r182_9 : List AInstr :=
  [⟨(some 45), none, .mv (.t 3)⟩, ⟨(some 46), none, .bin .sub (.t 45) (.c (.int .i64 1))⟩, ⟨(some 3), none, .mv (.t 46)⟩]
def r182_10 : List AInstr :=
  [⟨(some 48), none, .mv (.t 0)⟩, ⟨(some 49), none, .mv (.t 1)⟩, ⟨(some 50), none, .mv (.t 2)⟩, ⟨(some 51), none, .mv (.t 4)⟩, ⟨(some 52), none, .call 228 [(.t 48), (.t 49), (.t 50), (.t 51)]⟩, ⟨(some 47), none, .mv (.t 52)⟩, ⟨(some 53), none, .ext (.t 47) 0⟩, ⟨(some 54), none, .ext (.t 47) 1⟩, ⟨(some 13), none, .mv (.t 53)⟩, ⟨(some 14), none, .mv (.t 54)⟩]
def r182_11 : List AInstr :=
  [⟨(some 55), none, .mv (.t 14)⟩, ⟨(some 56), none, .bin .eql (.t 55) (.c (.int .i64 2))⟩]
def r182_12 : List AInstr :=
  [⟨(some 57), none, .mv (.t 0)⟩, ⟨(some 58), none, .mv (.t 1)⟩, ⟨(some 59), none, .mv (.t 2)⟩, ⟨(some 60), none, .mv (.t 4)⟩, ⟨(some 61), none, .call 229 [(.t 57), (.t 58), (.t 59), (.t 60)]⟩]
def r182_13 : List AInstr :=
  [⟨(some 62), none, .mv (.t 2)⟩, ⟨(some 63), none, .bin .sub (.t 62) (.c (.int .i64 1))⟩, ⟨(some 64), none, .mv (.t 13)⟩, ⟨(some 65), none, .mv (.t 1)⟩, ⟨(some 66), none, .bin .sub (.t 64) (.t 65)⟩, ⟨(some 67), none, .bin .sub (.t 63) (.t 66)⟩, ⟨(some 13), none, .mv (.t 67)⟩]
def r182_14 : List AInstr :=
  [⟨(some 14), none, .mv (.c (.int .i64 1))⟩]
def r182_15 : List AInstr :=
  [⟨(some 68), none, .mv (.t 10)⟩, ⟨(some 69), none, .mv (.t 68)⟩, ⟨(some 70), (some (69, true)), .mv (.t 11)⟩, ⟨(some 71), none, .pick (.t 69) (.t 70) (.c (.bool false))⟩, ⟨(some 72), none, .mv (.t 71)⟩, ⟨(some 73), (some (72, true)), .mv (.t 14)⟩, ⟨(some 74), (some (72, true)), .bin .eql (.t 73) (.c (.int .i64 1))⟩, ⟨(some 75), none, .pick (.t 72) (.t 74) (.c (.bool false))⟩]
def r182_16 : List AInstr :=
  [⟨(some 76), none, .mv (.t 0)⟩, ⟨(some 77), none, .mv (.t 1)⟩, ⟨(some 78), none, .mv (.t 2)⟩, ⟨(some 79), none, .mv (.t 4)⟩, ⟨(some 80), none, .call 230 [(.t 76), (.t 77), (.t 78), (.t 79)]⟩]
def r182_17 : List AInstr :=
  [⟨(some 81), none, .mv (.t 1)⟩, ⟨(some 82), none, .bin .gtr (.t 81) (.c (.int .i64 0))⟩, ⟨(some 83), none, .mv (.t 82)⟩, ⟨(some 84), (some (83, true)), .mv (.t 4)⟩, ⟨(some 85), (some (83, true)), .mv (.t 0)⟩, ⟨(some 86), (some (83, true)), .mv (.t 1)⟩, ⟨(some 87), (some (83, true)), .bin .sub (.t 86) (.c (.int .i64 1))⟩, ⟨(some 88), (some (83, true)), .idxA 1 (.t 85) (.t 87)⟩, ⟨(some 89), (some (83, true)), .load false 1 (.t 88)⟩, ⟨(some 90), (some (83, true)), .mv (.t 0)⟩, ⟨(some 91), (some (83, true)), .mv (.t 13)⟩, ⟨(some 92), (some (83, true)), .idxA 1 (.t 90) (.t 91)⟩, ⟨(some 93), (some (83, true)), .load false 1 (.t 92)⟩, ⟨(some 94), (some (83, true)), .callv (.t 84) [(.t 89), (.t 93)]⟩, ⟨(some 95), (some (83, true)), .bin .lss (.t 94) (.c (.int .i64 0))⟩, ⟨(some 96), (some (83, true)), .not (.t 95)⟩, ⟨(some 97), none, .pick (.t 83) (.t 96) (.c (.bool false))⟩]
def r182_18 : List AInstr :=
  [⟨(some 98), none, .mv (.t 0)⟩, ⟨(some 99), none, .mv (.t 1)⟩, ⟨(some 100), none, .mv (.t 2)⟩, ⟨(some 101), none, .mv (.t 13)⟩, ⟨(some 102), none, .mv (.t 4)⟩, ⟨(some 103), none, .call 231 [(.t 98), (.t 99), (.t 100), (.t 101), (.t 102)]⟩, ⟨(some 15), none, .mv (.t 103)⟩]
def r182_19 : List AInstr :=
  [⟨(some 104), none, .mv (.t 15)⟩, ⟨(some 1), none, .mv (.t 104)⟩]
def r182_20 : List AInstr :=
  [⟨(some 106), none, .mv (.t 0)⟩, ⟨(some 107), none, .mv (.t 1)⟩, ⟨(some 108), none, .mv (.t 2)⟩, ⟨(some 109), none, .mv (.t 13)⟩, ⟨(some 110), none, .mv (.t 4)⟩, ⟨(some 111), none, .call 232 [(.t 106), (.t 107), (.t 108), (.t 109), (.t 110)]⟩, ⟨(some 105), none, .mv (.t 111)⟩, ⟨(some 112), none, .ext (.t 105) 0⟩, ⟨(some 113), none, .ext (.t 105) 1⟩, ⟨(some 16), none, .mv (.t 112)⟩, ⟨(some 17), none, .mv (.t 113)⟩]
def r182_21 : List AInstr :=
  [⟨(some 114), none, .mv (.t 17)⟩, ⟨(some 11), none, .mv (.t 114)⟩]
def r182_22 : List AInstr :=
  [⟨(some 115), none, .mv (.t 16)⟩, ⟨(some 116), none, .mv (.t 1)⟩, ⟨(some 117), none, .bin .sub (.t 115) (.t 116)⟩, ⟨(some 118), none, .mv (.t 2)⟩, ⟨(some 119), none, .mv (.t 16)⟩, ⟨(some 120), none, .bin .sub (.t 118) (.t 119)⟩, ⟨(some 18), none, .mv (.t 117)⟩, ⟨(some 19), none, .mv (.t 120)⟩]
def r182_23 : List AInstr :=
  [⟨(some 121), none, .mv (.t 12)⟩, ⟨(some 122), none, .bin .quo (.t 121) (.c (.int .i64 8))⟩, ⟨(some 20), none, .mv (.t 122)⟩]
def r182_24 : List AInstr :=
  [⟨(some 123), none, .mv (.t 18)⟩, ⟨(some 124), none, .mv (.t 19)⟩, ⟨(some 125), none, .bin .lss (.t 123) (.t 124)⟩]
def r182_25 : List AInstr :=
  [⟨(some 126), none, .mv (.t 18)⟩, ⟨(some 127), none, .mv (.t 20)⟩, ⟨(some 128), none, .bin .geq (.t 126) (.t 127)⟩, ⟨(some 10), none, .mv (.t 128)⟩]
def r182_26 : List AInstr :=
  [⟨(some 129), none, .mv (.t 0)⟩, ⟨(some 130), none, .mv (.t 1)⟩, ⟨(some 131), none, .mv (.t 16)⟩, ⟨(some 132), none, .mv (.t 3)⟩, ⟨(some 133), none, .mv (.t 4)⟩, ⟨(some 134), none, .call 182 [(.t 129), (.t 130), (.t 131), (.t 132), (.t 133)]⟩]
def r182_27 : List AInstr :=
  [⟨(some 135), none, .mv (.t 16)⟩, ⟨(some 136), none, .bin .add (.t 135) (.c (.int .i64 1))⟩, ⟨(some 1), none, .mv (.t 136)⟩]
def r182_28 : List AInstr :=
  [⟨(some 137), none, .mv (.t 19)⟩, ⟨(some 138), none, .mv (.t 20)⟩, ⟨(some 139), none, .bin .geq (.t 137) (.t 138)⟩, ⟨(some 10), none, .mv (.t 139)⟩]
def r182_29 : List AInstr :=
  [⟨(some 140), none, .mv (.t 0)⟩, ⟨(some 141), none, .mv (.t 16)⟩, ⟨(some 142), none, .bin .add (.t 141) (.c (.int .i64 1))⟩, ⟨(some 143), none, .mv (.t 2)⟩, ⟨(some 144), none, .mv (.t 3)⟩, ⟨(some 145), none, .mv (.t 4)⟩, ⟨(some 146), none, .call 182 [(.t 140), (.t 142), (.t 143), (.t 144), (.t 145)]⟩]
def r182_30 : List AInstr :=
  [⟨(some 147), none, .mv (.t 16)⟩, ⟨(some 2), none, .mv (.t 147)⟩]
def l182_31 : ACode :=
  .block 1 (.seq (.rg r182_2) (.seq (.seq (.rg r182_3) (.cond (.t 25) (.seq (.rg r182_4) (.ret)) (.skip))) (.seq (.seq (.rg r182_5) (.cond (.t 32) (.seq (.rg r182_6) (.ret)) (.skip))) (.seq (.seq (.rg r182_7) (.cond (.t 39) (.seq (.rg r182_8) (.rg r182_9)) (.skip))) (.seq (.rg r182_10) (.seq (.seq (.rg r182_11) (.cond (.t 56) (.seq (.rg r182_12) (.seq (.rg r182_13) (.rg r182_14))) (.skip))) (.seq (.seq (.rg r182_15) (.cond (.t 75) (.seq (.rg r182_16) (.cond (.t 80) (.ret) (.skip))) (.skip))) (.seq (.seq (.rg r182_17) (.cond (.t 97) (.seq (.rg r182_18) (.seq (.rg r182_19) (.exit 1))) (.skip))) (.seq (.rg r182_20) (.seq (.rg r182_21) (.seq (.rg r182_22) (.seq (.rg r182_23) (.seq (.rg r182_24) (.cond (.t 125) (.seq (.rg r182_25) (.seq (.rg r182_26) (.rg r182_27))) (.seq (.rg r182_28) (.seq (.rg r182_29) (.rg r182_30)))))))))))))))))
def c182 : ACode :=
  .seq (.rg r182_0) (.seq (.rg r182_1) (.block 0 (.loop l182_31)))
def a182 : AFunc := { np := 5, nt := 148, res := [], body := c182 }

/- math/bits.Len -/
def r183_0 : List AInstr :=
  [⟨(some 2), none, .mv (.c (.int .i64 0))⟩]
def r183_1 : List AInstr :=
  [⟨(some 3), none, .mv (.t 0)⟩, ⟨(some 4), none, .conv .u32 (.t 3)⟩, ⟨(some 5), none, .call 233 [(.t 4)]⟩, ⟨(some 2), none, .mv (.t 5)⟩]
def r183_2 : List AInstr :=
  [⟨(some 6), none, .mv (.t 0)⟩, ⟨(some 7), none, .call 234 [(.t 6)]⟩, ⟨(some 2), none, .mv (.t 7)⟩]
def c183 : ACode :=
  .seq (.rg r183_0) (.seq (.cond (.c (.bool false)) (.seq (.rg r183_1) (.ret)) (.skip)) (.seq (.rg r183_2) (.ret)))
def a183 : AFunc := { np := 1, nt := 8, res := [.tmp 2], body := c183 }

/- slices.insertionSortCmpFunc[api.Handle] -/
def r225_0 : List AInstr :=
  [⟨(some 10), none, .mv (.t 1)⟩, ⟨(some 11), none, .bin .add (.t 10) (.c (.int .i64 1))⟩, ⟨(some 8), none, .mv (.t 11)⟩]
def r225_1 : List AInstr :=
  [⟨(some 12), none, .mv (.t 8)⟩, ⟨(some 13), none, .mv (.t 2)⟩, ⟨(some 14), none, .bin .lss (.t 12) (.t 13)⟩]
def r225_3 : List AInstr :=
  [⟨(some 17), none, .mv (.t 8)⟩, ⟨(some 9), none, .mv (.t 17)⟩]
def r225_4 : List AInstr :=
  [⟨(some 18), none, .mv (.t 9)⟩, ⟨(some 19), none, .mv (.t 1)⟩, ⟨(some 20), none, .bin .gtr (.t 18) (.t 19)⟩, ⟨(some 21), none, .mv (.t 20)⟩, ⟨(some 22), (some (21, true)), .mv (.t 3)⟩, ⟨(some 23), (some (21, true)), .mv (.t 0)⟩, ⟨(some 24), (some (21, true)), .mv (.t 9)⟩, ⟨(some 25), (some (21, true)), .idxA 1 (.t 23) (.t 24)⟩, ⟨(some 26), (some (21, true)), .load false 1 (.t 25)⟩, ⟨(some 27), (some (21, true)), .mv (.t 0)⟩, ⟨(some 28), (some (21, true)), .mv (.t 9)⟩, ⟨(some 29), (some (21, true)), .bin .sub (.t 28) (.c (.int .i64 1))⟩, ⟨(some 30), (some (21, true)), .idxA 1 (.t 27) (.t 29)⟩, ⟨(some 31), (some (21, true)), .load false 1 (.t 30)⟩, ⟨(some 32), (some (21, true)), .callv (.t 22) [(.t 26), (.t 31)]⟩, ⟨(some 33), (some (21, true)), .bin .lss (.t 32) (.c (.int .i64 0))⟩, ⟨(some 34), none, .pick (.t 21) (.t 33) (.c (.bool false))⟩]
def r225_6 : List AInstr :=
  [⟨(some 37), none, .mv (.t 0)⟩, ⟨(some 38), none, .mv (.t 9)⟩, ⟨(some 39), none, .mv (.t 0)⟩, ⟨(some 40), none, .mv (.t 9)⟩, ⟨(some 41), none, .bin .sub (.t 40) (.c (.int .i64 1))⟩, ⟨(some 42), none, .mv (.t 0)⟩, ⟨(some 43), none, .mv (.t 9)⟩, ⟨(some 44), none, .bin .sub (.t 43) (.c (.int .i64 1))⟩, ⟨(some 45), none, .idxA 1 (.t 42) (.t 44)⟩, ⟨(some 46), none, .load false 1 (.t 45)⟩, ⟨(some 47), none, .mv (.t 0)⟩, ⟨(some 48), none, .mv (.t 9)⟩, ⟨(some 49), none, .idxA 1 (.t 47) (.t 48)⟩, ⟨(some 50), none, .load false 1 (.t 49)⟩, ⟨(some 51), none, .idxA 1 (.t 37) (.t 38)⟩, ⟨none, none, .store 1 (.t 51) (.t 46)⟩, ⟨(some 52), none, .idxA 1 (.t 39) (.t 41)⟩, ⟨none, none, .store 1 (.t 52) (.t 50)⟩]
def r225_5 : List AInstr :=
  [⟨(some 35), none, .mv (.t 9)⟩, ⟨(some 36), none, .bin .sub (.t 35) (.c (.int .i64 1))⟩, ⟨(some 9), none, .mv (.t 36)⟩]
def l225_6 : ACode :=
  .seq (.seq (.rg r225_4) (.cond (.t 34) (.skip) (.exit 2))) (.seq (.block 3 (.rg r225_6)) (.rg r225_5))
def r225_2 : List AInstr :=
  [⟨(some 15), none, .mv (.t 8)⟩, ⟨(some 16), none, .bin .add (.t 15) (.c (.int .i64 1))⟩, ⟨(some 8), none, .mv (.t 16)⟩]
def l225_8 : ACode :=
  .seq (.seq (.rg r225_1) (.cond (.t 14) (.skip) (.exit 0))) (.seq (.block 1 (.seq (.rg r225_3) (.block 2 (.loop l225_6)))) (.rg r225_2))
def c225 : ACode :=
  .seq (.rg r225_0) (.block 0 (.loop l225_8))
def a225 : AFunc := { np := 4, nt := 53, res := [], body := c225 }

/- slices.heapSortCmpFunc[api.Handle] -/
def r226_0 : List AInstr :=
  [⟨(some 13), none, .mv (.t 1)⟩, ⟨(some 8), none, .mv (.t 13)⟩]
def r226_1 : List AInstr :=
  [⟨(some 9), none, .mv (.c (.int .i64 0))⟩]
def r226_2 : List AInstr :=
  [⟨(some 14), none, .mv (.t 2)⟩, ⟨(some 15), none, .mv (.t 1)⟩, ⟨(some 16), none, .bin .sub (.t 14) (.t 15)⟩, ⟨(some 10), none, .mv (.t 16)⟩]
def r226_3 : List AInstr :=
  [⟨(some 17), none, .mv (.t 10)⟩, ⟨(some 18), none, .bin .sub (.t 17) (.c (.int .i64 1))⟩, ⟨(some 19), none, .bin .quo (.t 18) (.c (.int .i64 2))⟩, ⟨(some 11), none, .mv (.t 19)⟩]
def r226_4 : List AInstr :=
  [⟨(some 20), none, .mv (.t 11)⟩, ⟨(some 21), none, .bin .geq (.t 20) (.c (.int .i64 0))⟩]
def r226_6 : List AInstr :=
  [⟨(some 24), none, .mv (.t 0)⟩, ⟨(some 25), none, .mv (.t 11)⟩, ⟨(some 26), none, .mv (.t 10)⟩, ⟨(some 27), none, .mv (.t 8)⟩, ⟨(some 28), none, .mv (.t 3)⟩, ⟨(some 29), none, .call 258 [(.t 24), (.t 25), (.t 26), (.t 27), (.t 28)]⟩]
def r226_5 : List AInstr :=
  [⟨(some 22), none, .mv (.t 11)⟩, ⟨(some 23), none, .bin .sub (.t 22) (.c (.int .i64 1))⟩, ⟨(some 11), none, .mv (.t 23)⟩]
def l226_7 : ACode :=
  .seq (.seq (.rg r226_4) (.cond (.t 21) (.skip) (.exit 0))) (.seq (.block 1 (.rg r226_6)) (.rg r226_5))
def r226_7 : List AInstr :=
  [⟨(some 30), none, .mv (.t 10)⟩, ⟨(some 31), none, .bin .sub (.t 30) (.c (.int .i64 1))⟩, ⟨(some 12), none, .mv (.t 31)⟩]
def r226_8 : List AInstr :=
  [⟨(some 32), none, .mv (.t 12)⟩, ⟨(some 33), none, .bin .geq (.t 32) (.c (.int .i64 0))⟩]
def r226_10 : List AInstr :=
  [⟨(some 36), none, .mv (.t 0)⟩, ⟨(some 37), none, .mv (.t 8)⟩, ⟨(some 38), none, .mv (.t 0)⟩, ⟨(some 39), none, .mv (.t 8)⟩, ⟨(some 40), none, .mv (.t 12)⟩, ⟨(some 41), none, .bin .add (.t 39) (.t 40)⟩, ⟨(some 42), none, .mv (.t 0)⟩, ⟨(some 43), none, .mv (.t 8)⟩, ⟨(some 44), none, .mv (.t 12)⟩, ⟨(some 45), none, .bin .add (.t 43) (.t 44)⟩, ⟨(some 46), none, .idxA 1 (.t 42) (.t 45)⟩, ⟨(some 47), none, .load false 1 (.t 46)⟩, ⟨(some 48), none, .mv (.t 0)⟩, ⟨(some 49), none, .mv (.t 8)⟩, ⟨(some 50), none, .idxA 1 (.t 48) (.t 49)⟩, ⟨(some 51), none, .load false 1 (.t 50)⟩, ⟨(some 52), none, .idxA 1 (.t 36) (.t 37)⟩, ⟨none, none, .store 1 (.t 52) (.t 47)⟩, ⟨(some 53), none, .idxA 1 (.t 38) (.t 41)⟩, ⟨none, none, .store 1 (.t 53) (.t 51)⟩]
def r226_11 : List AInstr :=
  [⟨(some 54), none, .mv (.t 0)⟩, ⟨(some 55), none, .mv (.t 9)⟩, ⟨(some 56), none, .mv (.t 12)⟩, ⟨(some 57), none, .mv (.t 8)⟩, ⟨(some 58), none, .mv (.t 3)⟩, ⟨(some 59), none, .call 258 [(.t 54), (.t 55), (.t 56), (.t 57), (.t 58)]⟩]
def r226_9 : List AInstr :=
  [⟨(some 34), none, .mv (.t 12)⟩, ⟨(some 35), none, .bin .sub (.t 34) (.c (.int .i64 1))⟩, ⟨(some 12), none, .mv (.t 35)⟩]
def l226_13 : ACode :=
  .seq (.seq (.rg r226_8) (.cond (.t 33) (.skip) (.exit 2))) (.seq (.block 3 (.seq (.rg r226_10) (.rg r226_11))) (.rg r226_9))
def c226 : ACode :=
  .seq (.rg r226_0) (.seq (.rg r226_1) (.seq (.rg r226_2) (.seq (.seq (.rg r226_3) (.block 0 (.loop l226_7))) (.seq (.rg r226_7) (.block 2 (.loop l226_13))))))
def a226 : AFunc := { np := 4, nt := 60, res := [], body := c226 }

/- slices.breakPatternsCmpFunc[api.Handle] -/
def r227_0 : List AInstr :=
  [⟨(some 13), none, .mv (.t 2)⟩, ⟨(some 14), none, .mv (.t 1)⟩, ⟨(some 15), none, .bin .sub (.t 13) (.t 14)⟩, ⟨(some 8), none, .mv (.t 15)⟩]
def r227_1 : List AInstr :=
  [⟨(some 16), none, .mv (.t 8)⟩, ⟨(some 17), none, .bin .geq (.t 16) (.c (.int .i64 8))⟩]
def r227_2 : List AInstr :=
  [⟨(some 18), none, .mv (.t 8)⟩, ⟨(some 19), none, .conv .u64 (.t 18)⟩, ⟨(some 9), none, .alloc [.int .u64 0]⟩, ⟨none, none, .store 1 (.t 9) (.t 19)⟩]
def r227_3 : List AInstr :=
  [⟨(some 20), none, .mv (.t 8)⟩, ⟨(some 21), none, .call 259 [(.t 20)]⟩, ⟨(some 10), none, .mv (.t 21)⟩]
def r227_4 : List AInstr :=
  [⟨(some 22), none, .mv (.t 1)⟩, ⟨(some 23), none, .mv (.t 8)⟩, ⟨(some 24), none, .bin .quo (.t 23) (.c (.int .i64 4))⟩, ⟨(some 25), none, .bin .mul (.t 24) (.c (.int .i64 2))⟩, ⟨(some 26), none, .bin .add (.t 22) (.t 25)⟩, ⟨(some 27), none, .bin .sub (.t 26) (.c (.int .i64 1))⟩, ⟨(some 11), none, .mv (.t 27)⟩]
def r227_5 : List AInstr :=
  [⟨(some 28), none, .mv (.t 11)⟩, ⟨(some 29), none, .mv (.t 1)⟩, ⟨(some 30), none, .mv (.t 8)⟩, ⟨(some 31), none, .bin .quo (.t 30) (.c (.int .i64 4))⟩, ⟨(some 32), none, .bin .mul (.t 31) (.c (.int .i64 2))⟩, ⟨(some 33), none, .bin .add (.t 29) (.t 32)⟩, ⟨(some 34), none, .bin .add (.t 33) (.c (.int .i64 1))⟩, ⟨(some 35), none, .bin .leq (.t 28) (.t 34)⟩]
def r227_7 : List AInstr :=
  [⟨(some 38), none, .call 260 [(.t 9)]⟩, ⟨(some 39), none, .mv (.t 10)⟩, ⟨(some 40), none, .bin .sub (.t 39) (.c (.int .u64 1))⟩, ⟨(some 41), none, .bin .and (.t 38) (.t 40)⟩, ⟨(some 42), none, .conv .i64 (.t 41)⟩, ⟨(some 12), none, .mv (.t 42)⟩]
def r227_8 : List AInstr :=
  [⟨(some 43), none, .mv (.t 12)⟩, ⟨(some 44), none, .mv (.t 8)⟩, ⟨(some 45), none, .bin .geq (.t 43) (.t 44)⟩]
def r227_9 : List AInstr :=
  [⟨(some 46), none, .mv (.t 12)⟩, ⟨(some 47), none, .mv (.t 8)⟩, ⟨(some 48), none, .bin .sub (.t 46) (.t 47)⟩, ⟨(some 12), none, .mv (.t 48)⟩]
def r227_10 : List AInstr :=
  [⟨(some 49), none, .mv (.t 0)⟩, ⟨(some 50), none, .mv (.t 11)⟩, ⟨(some 51), none, .mv (.t 0)⟩, ⟨(some 52), none, .mv (.t 1)⟩, ⟨(some 53), none, .mv (.t 12)⟩, ⟨(some 54), none, .bin .add (.t 52) (.t 53)⟩, ⟨(some 55), none, .mv (.t 0)⟩, ⟨(some 56), none, .mv (.t 1)⟩, ⟨(some 57), none, .mv (.t 12)⟩, ⟨(some 58), none, .bin .add (.t 56) (.t 57)⟩, ⟨(some 59), none, .idxA 1 (.t 55) (.t 58)⟩, ⟨(some 60), none, .load false 1 (.t 59)⟩, ⟨(some 61), none, .mv (.t 0)⟩, ⟨(some 62), none, .mv (.t 11)⟩, ⟨(some 63), none, .idxA 1 (.t 61) (.t 62)⟩, ⟨(some 64), none, .load false 1 (.t 63)⟩, ⟨(some 65), none, .idxA 1 (.t 49) (.t 50)⟩, ⟨none, none, .store 1 (.t 65) (.t 60)⟩, ⟨(some 66), none, .idxA 1 (.t 51) (.t 54)⟩, ⟨none, none, .store 1 (.t 66) (.t 64)⟩]
def r227_6 : List AInstr :=
  [⟨(some 36), none, .mv (.t 11)⟩, ⟨(some 37), none, .bin .add (.t 36) (.c (.int .i64 1))⟩, ⟨(some 11), none, .mv (.t 37)⟩]
def l227_11 : ACode :=
  .seq (.seq (.rg r227_5) (.cond (.t 35) (.skip) (.exit 0))) (.seq (.block 1 (.seq (.rg r227_7) (.seq (.seq (.rg r227_8) (.cond (.t 45) (.rg r227_9) (.skip))) (.rg r227_10)))) (.rg r227_6))
def c227 : ACode :=
  .seq (.rg r227_0) (.seq (.rg r227_1) (.cond (.t 17) (.seq (.rg r227_2) (.seq (.rg r227_3) (.seq (.rg r227_4) (.block 0 (.loop l227_11))))) (.skip)))
def a227 : AFunc := { np := 4, nt := 67, res := [], body := c227 }

/- slices.choosePivotCmpFunc[api.Handle] -/
def r228_0 : List AInstr :=
  [⟨(some 8), none, .mv (.c (.int .i64 0))⟩, ⟨(some 9), none, .mv (.c (.int .i64 0))⟩]
def r228_1 : List AInstr :=
  [⟨(some 15), none, .mv (.t 2)⟩, ⟨(some 16), none, .mv (.t 1)⟩, ⟨(some 17), none, .bin .sub (.t 15) (.t 16)⟩, ⟨(some 10), none, .mv (.t 17)⟩]
def r228_2 : List AInstr :=
  [⟨(some 11), none, .alloc [.int .i64 0]⟩]
def r228_3 : List AInstr :=
  [⟨(some 18), none, .mv (.t 1)⟩, ⟨(some 19), none, .mv (.t 10)⟩, ⟨(some 20), none, .bin .quo (.t 19) (.c (.int .i64 4))⟩, ⟨(some 21), none, .bin .mul (.t 20) (.c (.int .i64 1))⟩, ⟨(some 22), none, .bin .add (.t 18) (.t 21)⟩, ⟨(some 12), none, .mv (.t 22)⟩]
def r228_4 : List AInstr :=
  [⟨(some 23), none, .mv (.t 1)⟩, ⟨(some 24), none, .mv (.t 10)⟩, ⟨(some 25), none, .bin .quo (.t 24) (.c (.int .i64 4))⟩, ⟨(some 26), none, .bin .mul (.t 25) (.c (.int .i64 2))⟩, ⟨(some 27), none, .bin .add (.t 23) (.t 26)⟩, ⟨(some 13), none, .mv (.t 27)⟩]
def r228_5 : List AInstr :=
  [⟨(some 28), none, .mv (.t 1)⟩, ⟨(some 29), none, .mv (.t 10)⟩, ⟨(some 30), none, .bin .quo (.t 29) (.c (.int .i64 4))⟩, ⟨(some 31), none, .bin .mul (.t 30) (.c (.int .i64 3))⟩, ⟨(some 32), none, .bin .add (.t 28) (.t 31)⟩, ⟨(some 14), none, .mv (.t 32)⟩]
def r228_6 : List AInstr :=
  [⟨(some 33), none, .mv (.t 10)⟩, ⟨(some 34), none, .bin .geq (.t 33) (.c (.int .i64 8))⟩]
def r228_7 : List AInstr :=
  [⟨(some 35), none, .mv (.t 10)⟩, ⟨(some 36), none, .bin .geq (.t 35) (.c (.int .i64 50))⟩]
def r228_8 : List AInstr :=
  [⟨(some 37), none, .mv (.t 0)⟩, ⟨(some 38), none, .mv (.t 12)⟩, ⟨(some 39), none, .mv (.t 3)⟩, ⟨(some 40), none, .call 261 [(.t 37), (.t 38), (.t 11), (.t 39)]⟩, ⟨(some 12), none, .mv (.t 40)⟩]
def r228_9 : List AInstr :=
  [⟨(some 41), none, .mv (.t 0)⟩, ⟨(some 42), none, .mv (.t 13)⟩, ⟨(some 43), none, .mv (.t 3)⟩, ⟨(some 44), none, .call 261 [(.t 41), (.t 42), (.t 11), (.t 43)]⟩, ⟨(some 13), none, .mv (.t 44)⟩]
def r228_10 : List AInstr :=
  [⟨(some 45), none, .mv (.t 0)⟩, ⟨(some 46), none, .mv (.t 14)⟩, ⟨(some 47), none, .mv (.t 3)⟩, ⟨(some 48), none, .call 261 [(.t 45), (.t 46), (.t 11), (.t 47)]⟩, ⟨(some 14), none, .mv (.t 48)⟩]
def r228_11 : List AInstr :=
  [⟨(some 49), none, .mv (.t 0)⟩, ⟨(some 50), none, .mv (.t 12)⟩, ⟨(some 51), none, .mv (.t 13)⟩, ⟨(some 52), none, .mv (.t 14)⟩, ⟨(some 53), none, .mv (.t 3)⟩, ⟨(some 54), none, .call 262 [(.t 49), (.t 50), (.t 51), (.t 52), (.t 11), (.t 53)]⟩, ⟨(some 13), none, .mv (.t 54)⟩]
def r228_12 : List AInstr :=
  [⟨(some 55), none, .load false 1 (.t 11)⟩]
def r228_14 : List AInstr :=
  [⟨(some 58), none, .bin .eql (.t 55) (.c (.int .i64 0))⟩, ⟨(some 57), none, .mv (.t 58)⟩]
def r228_15 : List AInstr :=
  [⟨(some 59), none, .mv (.t 13)⟩, ⟨(some 8), none, .mv (.t 59)⟩, ⟨(some 9), none, .mv (.c (.int .i64 1))⟩]
def r228_16 : List AInstr :=
  [⟨(some 61), none, .bin .eql (.t 55) (.c (.int .i64 12))⟩, ⟨(some 60), none, .mv (.t 61)⟩]
def r228_17 : List AInstr :=
  [⟨(some 62), none, .mv (.t 13)⟩, ⟨(some 8), none, .mv (.t 62)⟩, ⟨(some 9), none, .mv (.c (.int .i64 2))⟩]
def r228_13 : List AInstr :=
  [⟨(some 56), none, .mv (.t 13)⟩, ⟨(some 8), none, .mv (.t 56)⟩, ⟨(some 9), none, .mv (.c (.int .i64 0))⟩]
def c228 : ACode :=
  .seq (.rg r228_0) (.seq (.rg r228_1) (.seq (.rg r228_2) (.seq (.rg r228_3) (.seq (.rg r228_4) (.seq (.rg r228_5) (.seq (.seq (.rg r228_6) (.cond (.t 34) (.seq (.seq (.rg r228_7) (.cond (.t 36) (.seq (.rg r228_8) (.seq (.rg r228_9) (.rg r228_10))) (.skip))) (.rg r228_11)) (.skip))) (.seq (.rg r228_12) (.block 0 (.seq (.rg r228_14) (.cond (.t 57) (.seq (.rg r228_15) (.ret)) (.seq (.rg r228_16) (.cond (.t 60) (.seq (.rg r228_17) (.ret)) (.seq (.rg r228_13) (.ret))))))))))))))
def a228 : AFunc := { np := 4, nt := 63, res := [.tmp 8, .tmp 9], body := c228 }

/- slices.reverseRangeCmpFunc[api.Handle] -/
def r229_0 : List AInstr :=
  [⟨(some 10), none, .mv (.t 1)⟩, ⟨(some 8), none, .mv (.t 10)⟩]
def r229_1 : List AInstr :=
  [⟨(some 11), none, .mv (.t 2)⟩, ⟨(some 12), none, .bin .sub (.t 11) (.c (.int .i64 1))⟩, ⟨(some 9), none, .mv (.t 12)⟩]
def r229_2 : List AInstr :=
  [⟨(some 13), none, .mv (.t 8)⟩, ⟨(some 14), none, .mv (.t 9)⟩, ⟨(some 15), none, .bin .lss (.t 13) (.t 14)⟩]
def r229_3 : List AInstr :=
  [⟨(some 16), none, .mv (.t 0)⟩, ⟨(some 17), none, .mv (.t 8)⟩, ⟨(some 18), none, .mv (.t 0)⟩, ⟨(some 19), none, .mv (.t 9)⟩, ⟨(some 20), none, .mv (.t 0)⟩, ⟨(some 21), none, .mv (.t 9)⟩, ⟨(some 22), none, .idxA 1 (.t 20) (.t 21)⟩, ⟨(some 23), none, .load false 1 (.t 22)⟩, ⟨(some 24), none, .mv (.t 0)⟩, ⟨(some 25), none, .mv (.t 8)⟩, ⟨(some 26), none, .idxA 1 (.t 24) (.t 25)⟩, ⟨(some 27), none, .load false 1 (.t 26)⟩, ⟨(some 28), none, .idxA 1 (.t 16) (.t 17)⟩, ⟨none, none, .store 1 (.t 28) (.t 23)⟩, ⟨(some 29), none, .idxA 1 (.t 18) (.t 19)⟩, ⟨none, none, .store 1 (.t 29) (.t 27)⟩]
def r229_4 : List AInstr :=
  [⟨(some 30), none, .mv (.t 8)⟩, ⟨(some 31), none, .bin .add (.t 30) (.c (.int .i64 1))⟩, ⟨(some 8), none, .mv (.t 31)⟩]
def r229_5 : List AInstr :=
  [⟨(some 32), none, .mv (.t 9)⟩, ⟨(some 33), none, .bin .sub (.t 32) (.c (.int .i64 1))⟩, ⟨(some 9), none, .mv (.t 33)⟩]
def l229_6 : ACode :=
  .seq (.seq (.rg r229_2) (.cond (.t 15) (.skip) (.exit 0))) (.block 1 (.seq (.rg r229_3) (.seq (.rg r229_4) (.rg r229_5))))
def c229 : ACode :=
  .seq (.rg r229_0) (.seq (.rg r229_1) (.block 0 (.loop l229_6)))
def a229 : AFunc := { np := 4, nt := 34, res := [], body := c229 }

/- slices.partialInsertionSortCmpFunc[api.Handle] -/
def r230_0 : List AInstr :=
  [⟨(some 8), none, .mv (.c (.bool false))⟩]
def r230_1 : List AInstr :=
  [⟨(some 13), none, .mv (.t 1)⟩, ⟨(some 14), none, .bin .add (.t 13) (.c (.int .i64 1))⟩, ⟨(some 9), none, .mv (.t 14)⟩]
def r230_2 : List AInstr :=
  [⟨(some 10), none, .mv (.c (.int .i64 0))⟩]
def r230_3 : List AInstr :=
  [⟨(some 15), none, .mv (.t 10)⟩, ⟨(some 16), none, .bin .lss (.t 15) (.c (.int .i64 5))⟩]
def r230_5 : List AInstr :=
  [⟨(some 19), none, .mv (.t 9)⟩, ⟨(some 20), none, .mv (.t 2)⟩, ⟨(some 21), none, .bin .lss (.t 19) (.t 20)⟩, ⟨(some 22), none, .mv (.t 21)⟩, ⟨(some 23), (some (22, true)), .mv (.t 3)⟩, ⟨(some 24), (some (22, true)), .mv (.t 0)⟩, ⟨(some 25), (some (22, true)), .mv (.t 9)⟩, ⟨(some 26), (some (22, true)), .idxA 1 (.t 24) (.t 25)⟩, ⟨(some 27), (some (22, true)), .load false 1 (.t 26)⟩, ⟨(some 28), (some (22, true)), .mv (.t 0)⟩, ⟨(some 29), (some (22, true)), .mv (.t 9)⟩, ⟨(some 30), (some (22, true)), .bin .sub (.t 29) (.c (.int .i64 1))⟩, ⟨(some 31), (some (22, true)), .idxA 1 (.t 28) (.t 30)⟩, ⟨(some 32), (some (22, true)), .load false 1 (.t 31)⟩, ⟨(some 33), (some (22, true)), .callv (.t 23) [(.t 27), (.t 32)]⟩, ⟨(some 34), (some (22, true)), .bin .lss (.t 33) (.c (.int .i64 0))⟩, ⟨(some 35), (some (22, true)), .not (.t 34)⟩, ⟨(some 36), none, .pick (.t 22) (.t 35) (.c (.bool false))⟩]
def r230_6 : List AInstr :=
  [⟨(some 37), none, .mv (.t 9)⟩, ⟨(some 38), none, .bin .add (.t 37) (.c (.int .i64 1))⟩, ⟨(some 9), none, .mv (.t 38)⟩]
def l230_6 : ACode :=
  .seq (.seq (.rg r230_5) (.cond (.t 36) (.skip) (.exit 2))) (.block 3 (.rg r230_6))
def r230_7 : List AInstr :=
  [⟨(some 39), none, .mv (.t 9)⟩, ⟨(some 40), none, .mv (.t 2)⟩, ⟨(some 41), none, .bin .eql (.t 39) (.t 40)⟩]
def r230_8 : List AInstr :=
  [⟨(some 8), none, .mv (.c (.bool true))⟩]
def r230_9 : List AInstr :=
  [⟨(some 42), none, .mv (.t 2)⟩, ⟨(some 43), none, .mv (.t 1)⟩, ⟨(some 44), none, .bin .sub (.t 42) (.t 43)⟩, ⟨(some 45), none, .bin .lss (.t 44) (.c (.int .i64 50))⟩]
def r230_10 : List AInstr :=
  [⟨(some 8), none, .mv (.c (.bool false))⟩]
def r230_11 : List AInstr :=
  [⟨(some 46), none, .mv (.t 0)⟩, ⟨(some 47), none, .mv (.t 9)⟩, ⟨(some 48), none, .mv (.t 0)⟩, ⟨(some 49), none, .mv (.t 9)⟩, ⟨(some 50), none, .bin .sub (.t 49) (.c (.int .i64 1))⟩, ⟨(some 51), none, .mv (.t 0)⟩, ⟨(some 52), none, .mv (.t 9)⟩, ⟨(some 53), none, .bin .sub (.t 52) (.c (.int .i64 1))⟩, ⟨(some 54), none, .idxA 1 (.t 51) (.t 53)⟩, ⟨(some 55), none, .load false 1 (.t 54)⟩, ⟨(some 56), none, .mv (.t 0)⟩, ⟨(some 57), none, .mv (.t 9)⟩, ⟨(some 58), none, .idxA 1 (.t 56) (.t 57)⟩, ⟨(some 59), none, .load false 1 (.t 58)⟩, ⟨(some 60), none, .idxA 1 (.t 46) (.t 47)⟩, ⟨none, none, .store 1 (.t 60) (.t 55)⟩, ⟨(some 61), none, .idxA 1 (.t 48) (.t 50)⟩, ⟨none, none, .store 1 (.t 61) (.t 59)⟩]
def r230_12 : List AInstr :=
  [⟨(some 62), none, .mv (.t 9)⟩, ⟨(some 63), none, .mv (.t 1)⟩, ⟨(some 64), none, .bin .sub (.t 62) (.t 63)⟩, ⟨(some 65), none, .bin .geq (.t 64) (.c (.int .i64 2))⟩]
def r230_13 : List AInstr :=
  [⟨(some 66), none, .mv (.t 9)⟩, ⟨(some 67), none, .bin .sub (.t 66) (.c (.int .i64 1))⟩, ⟨(some 11), none, .mv (.t 67)⟩]
def r230_14 : List AInstr :=
  [⟨(some 68), none, .mv (.t 11)⟩, ⟨(some 69), none, .bin .geq (.t 68) (.c (.int .i64 1))⟩]
def r230_16 : List AInstr :=
  [⟨(some 72), none, .mv (.t 3)⟩, ⟨(some 73), none, .mv (.t 0)⟩, ⟨(some 74), none, .mv (.t 11)⟩, ⟨(some 75), none, .idxA 1 (.t 73) (.t 74)⟩, ⟨(some 76), none, .load false 1 (.t 75)⟩, ⟨(some 77), none, .mv (.t 0)⟩, ⟨(some 78), none, .mv (.t 11)⟩, ⟨(some 79), none, .bin .sub (.t 78) (.c (.int .i64 1))⟩, ⟨(some 80), none, .idxA 1 (.t 77) (.t 79)⟩, ⟨(some 81), none, .load false 1 (.t 80)⟩, ⟨(some 82), none, .callv (.t 72) [(.t 76), (.t 81)]⟩, ⟨(some 83), none, .bin .lss (.t 82) (.c (.int .i64 0))⟩, ⟨(some 84), none, .not (.t 83)⟩]
def r230_17 : List AInstr :=
  [⟨(some 85), none, .mv (.t 0)⟩, ⟨(some 86), none, .mv (.t 11)⟩, ⟨(some 87), none, .mv (.t 0)⟩, ⟨(some 88), none, .mv (.t 11)⟩, ⟨(some 89), none, .bin .sub (.t 88) (.c (.int .i64 1))⟩, ⟨(some 90), none, .mv (.t 0)⟩, ⟨(some 91), none, .mv (.t 11)⟩, ⟨(some 92), none, .bin .sub (.t 91) (.c (.int .i64 1))⟩, ⟨(some 93), none, .idxA 1 (.t 90) (.t 92)⟩, ⟨(some 94), none, .load false 1 (.t 93)⟩, ⟨(some 95), none, .mv (.t 0)⟩, ⟨(some 96), none, .mv (.t 11)⟩, ⟨(some 97), none, .idxA 1 (.t 95) (.t 96)⟩, ⟨(some 98), none, .load false 1 (.t 97)⟩, ⟨(some 99), none, .idxA 1 (.t 85) (.t 86)⟩, ⟨none, none, .store 1 (.t 99) (.t 94)⟩, ⟨(some 100), none, .idxA 1 (.t 87) (.t 89)⟩, ⟨none, none, .store 1 (.t 100) (.t 98)⟩]
def r230_15 : List AInstr :=
  [⟨(some 70), none, .mv (.t 11)⟩, ⟨(some 71), none, .bin .sub (.t 70) (.c (.int .i64 1))⟩, ⟨(some 11), none, .mv (.t 71)⟩]
def l230_18 : ACode :=
  .seq (.seq (.rg r230_14) (.cond (.t 69) (.skip) (.exit 4))) (.seq (.block 5 (.seq (.seq (.rg r230_16) (.cond (.t 84) (.exit 4) (.skip))) (.rg r230_17))) (.rg r230_15))
def r230_18 : List AInstr :=
  [⟨(some 101), none, .mv (.t 2)⟩, ⟨(some 102), none, .mv (.t 9)⟩, ⟨(some 103), none, .bin .sub (.t 101) (.t 102)⟩, ⟨(some 104), none, .bin .geq (.t 103) (.c (.int .i64 2))⟩]
def r230_19 : List AInstr :=
  [⟨(some 105), none, .mv (.t 9)⟩, ⟨(some 106), none, .bin .add (.t 105) (.c (.int .i64 1))⟩, ⟨(some 12), none, .mv (.t 106)⟩]
def r230_20 : List AInstr :=
  [⟨(some 107), none, .mv (.t 12)⟩, ⟨(some 108), none, .mv (.t 2)⟩, ⟨(some 109), none, .bin .lss (.t 107) (.t 108)⟩]
def r230_22 : List AInstr :=
  [⟨(some 112), none, .mv (.t 3)⟩, ⟨(some 113), none, .mv (.t 0)⟩, ⟨(some 114), none, .mv (.t 12)⟩, ⟨(some 115), none, .idxA 1 (.t 113) (.t 114)⟩, ⟨(some 116), none, .load false 1 (.t 115)⟩, ⟨(some 117), none, .mv (.t 0)⟩, ⟨(some 118), none, .mv (.t 12)⟩, ⟨(some 119), none, .bin .sub (.t 118) (.c (.int .i64 1))⟩, ⟨(some 120), none, .idxA 1 (.t 117) (.t 119)⟩, ⟨(some 121), none, .load false 1 (.t 120)⟩, ⟨(some 122), none, .callv (.t 112) [(.t 116), (.t 121)]⟩, ⟨(some 123), none, .bin .lss (.t 122) (.c (.int .i64 0))⟩, ⟨(some 124), none, .not (.t 123)⟩]
def r230_23 : List AInstr :=
  [⟨(some 125), none, .mv (.t 0)⟩, ⟨(some 126), none, .mv (.t 12)⟩, ⟨(some 127), none, .mv (.t 0)⟩, ⟨(some 128), none, .mv (.t 12)⟩, ⟨(some 129), none, .bin .sub (.t 128) (.c (.int .i64 1))⟩, ⟨(some 130), none, .mv (.t 0)⟩, ⟨(some 131), none, .mv (.t 12)⟩, ⟨(some 132), none, .bin .sub (.t 131) (.c (.int .i64 1))⟩, ⟨(some 133), none, .idxA 1 (.t 130) (.t 132)⟩, ⟨(some 134), none, .load false 1 (.t 133)⟩, ⟨(some 135), none, .mv (.t 0)⟩, ⟨(some 136), none, .mv (.t 12)⟩, ⟨(some 137), none, .idxA 1 (.t 135) (.t 136)⟩, ⟨(some 138), none, .load false 1 (.t 137)⟩, ⟨(some 139), none, .idxA 1 (.t 125) (.t 126)⟩, ⟨none, none, .store 1 (.t 139) (.t 134)⟩, ⟨(some 140), none, .idxA 1 (.t 127) (.t 129)⟩, ⟨none, none, .store 1 (.t 140) (.t 138)⟩]
def r230_21 : List AInstr :=
  [⟨(some 110), none, .mv (.t 12)⟩, ⟨(some 111), none, .bin .add (.t 110) (.c (.int .i64 1))⟩, ⟨(some 12), none, .mv (.t 111)⟩]
def l230_25 : ACode :=
  .seq (.seq (.rg r230_20) (.cond (.t 109) (.skip) (.exit 6))) (.seq (.block 7 (.seq (.seq (.rg r230_22) (.cond (.t 124) (.exit 6) (.skip))) (.rg r230_23))) (.rg r230_21))
def r230_4 : List AInstr :=
  [⟨(some 17), none, .mv (.t 10)⟩, ⟨(some 18), none, .bin .add (.t 17) (.c (.int .i64 1))⟩, ⟨(some 10), none, .mv (.t 18)⟩]
def l230_27 : ACode :=
  .seq (.seq (.rg r230_3) (.cond (.t 16) (.skip) (.exit 0))) (.seq (.block 1 (.seq (.block 2 (.loop l230_6)) (.seq (.seq (.rg r230_7) (.cond (.t 41) (.seq (.rg r230_8) (.ret)) (.skip))) (.seq (.seq (.rg r230_9) (.cond (.t 45) (.seq (.rg r230_10) (.ret)) (.skip))) (.seq (.rg r230_11) (.seq (.seq (.rg r230_12) (.cond (.t 65) (.seq (.rg r230_13) (.block 4 (.loop l230_18))) (.skip))) (.seq (.rg r230_18) (.cond (.t 104) (.seq (.rg r230_19) (.block 6 (.loop l230_25))) (.skip))))))))) (.rg r230_4))
def r230_24 : List AInstr :=
  [⟨(some 8), none, .mv (.c (.bool false))⟩]
def c230 : ACode :=
  .seq (.rg r230_0) (.seq (.rg r230_1) (.seq (.seq (.rg r230_2) (.block 0 (.loop l230_27))) (.seq (.rg r230_24) (.ret))))
def a230 : AFunc := { np := 4, nt := 141, res := [.tmp 8], body := c230 }

/- slices.partitionEqualCmpFunc[api.Handle] -/
def r231_0 : List AInstr :=
  [⟨(some 10), none, .mv (.c (.int .i64 0))⟩]
def r231_1 : List AInstr :=
  [⟨(some 13), none, .mv (.t 0)⟩, ⟨(some 14), none, .mv (.t 1)⟩, ⟨(some 15), none, .mv (.t 0)⟩, ⟨(some 16), none, .mv (.t 3)⟩, ⟨(some 17), none, .mv (.t 0)⟩, ⟨(some 18), none, .mv (.t 3)⟩, ⟨(some 19), none, .idxA 1 (.t 17) (.t 18)⟩, ⟨(some 20), none, .load false 1 (.t 19)⟩, ⟨(some 21), none, .mv (.t 0)⟩, ⟨(some 22), none, .mv (.t 1)⟩, ⟨(some 23), none, .idxA 1 (.t 21) (.t 22)⟩, ⟨(some 24), none, .load false 1 (.t 23)⟩, ⟨(some 25), none, .idxA 1 (.t 13) (.t 14)⟩, ⟨none, none, .store 1 (.t 25) (.t 20)⟩, ⟨(some 26), none, .idxA 1 (.t 15) (.t 16)⟩, ⟨none, none, .store 1 (.t 26) (.t 24)⟩]
def r231_2 : List AInstr :=
  [⟨(some 27), none, .mv (.t 1)⟩, ⟨(some 28), none, .bin .add (.t 27) (.c (.int .i64 1))⟩, ⟨(some 29), none, .mv (.t 2)⟩, ⟨(some 30), none, .bin .sub (.t 29) (.c (.int .i64 1))⟩, ⟨(some 11), none, .mv (.t 28)⟩, ⟨(some 12), none, .mv (.t 30)⟩]
def r231_3 : List AInstr :=
  [⟨(some 31), none, .mv (.t 11)⟩, ⟨(some 32), none, .mv (.t 12)⟩, ⟨(some 33), none, .bin .leq (.t 31) (.t 32)⟩, ⟨(some 34), none, .mv (.t 33)⟩, ⟨(some 35), (some (34, true)), .mv (.t 4)⟩, ⟨(some 36), (some (34, true)), .mv (.t 0)⟩, ⟨(some 37), (some (34, true)), .mv (.t 1)⟩, ⟨(some 38), (some (34, true)), .idxA 1 (.t 36) (.t 37)⟩, ⟨(some 39), (some (34, true)), .load false 1 (.t 38)⟩, ⟨(some 40), (some (34, true)), .mv (.t 0)⟩, ⟨(some 41), (some (34, true)), .mv (.t 11)⟩, ⟨(some 42), (some (34, true)), .idxA 1 (.t 40) (.t 41)⟩, ⟨(some 43), (some (34, true)), .load false 1 (.t 42)⟩, ⟨(some 44), (some (34, true)), .callv (.t 35) [(.t 39), (.t 43)]⟩, ⟨(some 45), (some (34, true)), .bin .lss (.t 44) (.c (.int .i64 0))⟩, ⟨(some 46), (some (34, true)), .not (.t 45)⟩, ⟨(some 47), none, .pick (.t 34) (.t 46) (.c (.bool false))⟩]
def r231_4 : List AInstr :=
  [⟨(some 48), none, .mv (.t 11)⟩, ⟨(some 49), none, .bin .add (.t 48) (.c (.int .i64 1))⟩, ⟨(some 11), none, .mv (.t 49)⟩]
def l231_5 : ACode :=
  .seq (.seq (.rg r231_3) (.cond (.t 47) (.skip) (.exit 2))) (.block 3 (.rg r231_4))
def r231_5 : List AInstr :=
  [⟨(some 50), none, .mv (.t 11)⟩, ⟨(some 51), none, .mv (.t 12)⟩, ⟨(some 52), none, .bin .leq (.t 50) (.t 51)⟩, ⟨(some 53), none, .mv (.t 52)⟩, ⟨(some 54), (some (53, true)), .mv (.t 4)⟩, ⟨(some 55), (some (53, true)), .mv (.t 0)⟩, ⟨(some 56), (some (53, true)), .mv (.t 1)⟩, ⟨(some 57), (some (53, true)), .idxA 1 (.t 55) (.t 56)⟩, ⟨(some 58), (some (53, true)), .load false 1 (.t 57)⟩, ⟨(some 59), (some (53, true)), .mv (.t 0)⟩, ⟨(some 60), (some (53, true)), .mv (.t 12)⟩, ⟨(some 61), (some (53, true)), .idxA 1 (.t 59) (.t 60)⟩, ⟨(some 62), (some (53, true)), .load false 1 (.t 61)⟩, ⟨(some 63), (some (53, true)), .callv (.t 54) [(.t 58), (.t 62)]⟩, ⟨(some 64), (some (53, true)), .bin .lss (.t 63) (.c (.int .i64 0))⟩, ⟨(some 65), none, .pick (.t 53) (.t 64) (.c (.bool false))⟩]
def r231_6 : List AInstr :=
  [⟨(some 66), none, .mv (.t 12)⟩, ⟨(some 67), none, .bin .sub (.t 66) (.c (.int .i64 1))⟩, ⟨(some 12), none, .mv (.t 67)⟩]
def l231_8 : ACode :=
  .seq (.seq (.rg r231_5) (.cond (.t 65) (.skip) (.exit 4))) (.block 5 (.rg r231_6))
def r231_7 : List AInstr :=
  [⟨(some 68), none, .mv (.t 11)⟩, ⟨(some 69), none, .mv (.t 12)⟩, ⟨(some 70), none, .bin .gtr (.t 68) (.t 69)⟩]
def r231_8 : List AInstr :=
  [⟨(some 71), none, .mv (.t 0)⟩, ⟨(some 72), none, .mv (.t 11)⟩, ⟨(some 73), none, .mv (.t 0)⟩, ⟨(some 74), none, .mv (.t 12)⟩, ⟨(some 75), none, .mv (.t 0)⟩, ⟨(some 76), none, .mv (.t 12)⟩, ⟨(some 77), none, .idxA 1 (.t 75) (.t 76)⟩, ⟨(some 78), none, .load false 1 (.t 77)⟩, ⟨(some 79), none, .mv (.t 0)⟩, ⟨(some 80), none, .mv (.t 11)⟩, ⟨(some 81), none, .idxA 1 (.t 79) (.t 80)⟩, ⟨(some 82), none, .load false 1 (.t 81)⟩, ⟨(some 83), none, .idxA 1 (.t 71) (.t 72)⟩, ⟨none, none, .store 1 (.t 83) (.t 78)⟩, ⟨(some 84), none, .idxA 1 (.t 73) (.t 74)⟩, ⟨none, none, .store 1 (.t 84) (.t 82)⟩]
def r231_9 : List AInstr :=
  [⟨(some 85), none, .mv (.t 11)⟩, ⟨(some 86), none, .bin .add (.t 85) (.c (.int .i64 1))⟩, ⟨(some 11), none, .mv (.t 86)⟩]
def r231_10 : List AInstr :=
  [⟨(some 87), none, .mv (.t 12)⟩, ⟨(some 88), none, .bin .sub (.t 87) (.c (.int .i64 1))⟩, ⟨(some 12), none, .mv (.t 88)⟩]
def l231_13 : ACode :=
  .block 1 (.seq (.block 2 (.loop l231_5)) (.seq (.block 4 (.loop l231_8)) (.seq (.seq (.rg r231_7) (.cond (.t 70) (.exit 0) (.skip))) (.seq (.rg r231_8) (.seq (.rg r231_9) (.rg r231_10))))))
def r231_11 : List AInstr :=
  [⟨(some 89), none, .mv (.t 11)⟩, ⟨(some 10), none, .mv (.t 89)⟩]
def c231 : ACode :=
  .seq (.rg r231_0) (.seq (.rg r231_1) (.seq (.rg r231_2) (.seq (.block 0 (.loop l231_13)) (.seq (.rg r231_11) (.ret)))))
def a231 : AFunc := { np := 5, nt := 90, res := [.tmp 10], body := c231 }

/- slices.partitionCmpFunc[api.Handle] -/
def r232_0 : List AInstr :=
  [⟨(some 10), none, .mv (.c (.int .i64 0))⟩, ⟨(some 11), none, .mv (.c (.bool false))⟩]
def r232_1 : List AInstr :=
  [⟨(some 14), none, .mv (.t 0)⟩, ⟨(some 15), none, .mv (.t 1)⟩, ⟨(some 16), none, .mv (.t 0)⟩, ⟨(some 17), none, .mv (.t 3)⟩, ⟨(some 18), none, .mv (.t 0)⟩, ⟨(some 19), none, .mv (.t 3)⟩, ⟨(some 20), none, .idxA 1 (.t 18) (.t 19)⟩, ⟨(some 21), none, .load false 1 (.t 20)⟩, ⟨(some 22), none, .mv (.t 0)⟩, ⟨(some 23), none, .mv (.t 1)⟩, ⟨(some 24), none, .idxA 1 (.t 22) (.t 23)⟩, ⟨(some 25), none, .load false 1 (.t 24)⟩, ⟨(some 26), none, .idxA 1 (.t 14) (.t 15)⟩, ⟨none, none, .store 1 (.t 26) (.t 21)⟩, ⟨(some 27), none, .idxA 1 (.t 16) (.t 17)⟩, ⟨none, none, .store 1 (.t 27) (.t 25)⟩]
def r232_2 : List AInstr :=
  [⟨(some 28), none, .mv (.t 1)⟩, ⟨(some 29), none, .bin .add (.t 28) (.c (.int .i64 1))⟩, ⟨(some 30), none, .mv (.t 2)⟩, ⟨(some 31), none, .bin .sub (.t 30) (.c (.int .i64 1))⟩, ⟨(some 12), none, .mv (.t 29)⟩, ⟨(some 13), none, .mv (.t 31)⟩]
def r232_3 : List AInstr :=
  [⟨(some 32), none, .mv (.t 12)⟩, ⟨(some 33), none, .mv (.t 13)⟩, ⟨(some 34), none, .bin .leq (.t 32) (.t 33)⟩, ⟨(some 35), none, .mv (.t 34)⟩, ⟨(some 36), (some (35, true)), .mv (.t 4)⟩, ⟨(some 37), (some (35, true)), .mv (.t 0)⟩, ⟨(some 38), (some (35, true)), .mv (.t 12)⟩, ⟨(some 39), (some (35, true)), .idxA 1 (.t 37) (.t 38)⟩, ⟨(some 40), (some (35, true)), .load false 1 (.t 39)⟩, ⟨(some 41), (some (35, true)), .mv (.t 0)⟩, ⟨(some 42), (some (35, true)), .mv (.t 1)⟩, ⟨(some 43), (some (35, true)), .idxA 1 (.t 41) (.t 42)⟩, ⟨(some 44), (some (35, true)), .load false 1 (.t 43)⟩, ⟨(some 45), (some (35, true)), .callv (.t 36) [(.t 40), (.t 44)]⟩, ⟨(some 46), (some (35, true)), .bin .lss (.t 45) (.c (.int .i64 0))⟩, ⟨(some 47), none, .pick (.t 35) (.t 46) (.c (.bool false))⟩]
def r232_4 : List AInstr :=
  [⟨(some 48), none, .mv (.t 12)⟩, ⟨(some 49), none, .bin .add (.t 48) (.c (.int .i64 1))⟩, ⟨(some 12), none, .mv (.t 49)⟩]
def l232_5 : ACode :=
  .seq (.seq (.rg r232_3) (.cond (.t 47) (.skip) (.exit 0))) (.block 1 (.rg r232_4))
def r232_5 : List AInstr :=
  [⟨(some 50), none, .mv (.t 12)⟩, ⟨(some 51), none, .mv (.t 13)⟩, ⟨(some 52), none, .bin .leq (.t 50) (.t 51)⟩, ⟨(some 53), none, .mv (.t 52)⟩, ⟨(some 54), (some (53, true)), .mv (.t 4)⟩, ⟨(some 55), (some (53, true)), .mv (.t 0)⟩, ⟨(some 56), (some (53, true)), .mv (.t 13)⟩, ⟨(some 57), (some (53, true)), .idxA 1 (.t 55) (.t 56)⟩, ⟨(some 58), (some (53, true)), .load false 1 (.t 57)⟩, ⟨(some 59), (some (53, true)), .mv (.t 0)⟩, ⟨(some 60), (some (53, true)), .mv (.t 1)⟩, ⟨(some 61), (some (53, true)), .idxA 1 (.t 59) (.t 60)⟩, ⟨(some 62), (some (53, true)), .load false 1 (.t 61)⟩, ⟨(some 63), (some (53, true)), .callv (.t 54) [(.t 58), (.t 62)]⟩, ⟨(some 64), (some (53, true)), .bin .lss (.t 63) (.c (.int .i64 0))⟩, ⟨(some 65), (some (53, true)), .not (.t 64)⟩, ⟨(some 66), none, .pick (.t 53) (.t 65) (.c (.bool false))⟩]
def r232_6 : List AInstr :=
  [⟨(some 67), none, .mv (.t 13)⟩, ⟨(some 68), none, .bin .sub (.t 67) (.c (.int .i64 1))⟩, ⟨(some 13), none, .mv (.t 68)⟩]
def l232_8 : ACode :=
  .seq (.seq (.rg r232_5) (.cond (.t 66) (.skip) (.exit 2))) (.block 3 (.rg r232_6))
def r232_7 : List AInstr :=
  [⟨(some 69), none, .mv (.t 12)⟩, ⟨(some 70), none, .mv (.t 13)⟩, ⟨(some 71), none, .bin .gtr (.t 69) (.t 70)⟩]
def r232_8 : List AInstr :=
  [⟨(some 72), none, .mv (.t 0)⟩, ⟨(some 73), none, .mv (.t 13)⟩, ⟨(some 74), none, .mv (.t 0)⟩, ⟨(some 75), none, .mv (.t 1)⟩, ⟨(some 76), none, .mv (.t 0)⟩, ⟨(some 77), none, .mv (.t 1)⟩, ⟨(some 78), none, .idxA 1 (.t 76) (.t 77)⟩, ⟨(some 79), none, .load false 1 (.t 78)⟩, ⟨(some 80), none, .mv (.t 0)⟩, ⟨(some 81), none, .mv (.t 13)⟩, ⟨(some 82), none, .idxA 1 (.t 80) (.t 81)⟩, ⟨(some 83), none, .load false 1 (.t 82)⟩, ⟨(some 84), none, .idxA 1 (.t 72) (.t 73)⟩, ⟨none, none, .store 1 (.t 84) (.t 79)⟩, ⟨(some 85), none, .idxA 1 (.t 74) (.t 75)⟩, ⟨none, none, .store 1 (.t 85) (.t 83)⟩]
def r232_9 : List AInstr :=
  [⟨(some 86), none, .mv (.t 13)⟩, ⟨(some 10), none, .mv (.t 86)⟩, ⟨(some 11), none, .mv (.c (.bool true))⟩]
def r232_10 : List AInstr :=
  [⟨(some 87), none, .mv (.t 0)⟩, ⟨(some 88), none, .mv (.t 12)⟩, ⟨(some 89), none, .mv (.t 0)⟩, ⟨(some 90), none, .mv (.t 13)⟩, ⟨(some 91), none, .mv (.t 0)⟩, ⟨(some 92), none, .mv (.t 13)⟩, ⟨(some 93), none, .idxA 1 (.t 91) (.t 92)⟩, ⟨(some 94), none, .load false 1 (.t 93)⟩, ⟨(some 95), none, .mv (.t 0)⟩, ⟨(some 96), none, .mv (.t 12)⟩, ⟨(some 97), none, .idxA 1 (.t 95) (.t 96)⟩, ⟨(some 98), none, .load false 1 (.t 97)⟩, ⟨(some 99), none, .idxA 1 (.t 87) (.t 88)⟩, ⟨none, none, .store 1 (.t 99) (.t 94)⟩, ⟨(some 100), none, .idxA 1 (.t 89) (.t 90)⟩, ⟨none, none, .store 1 (.t 100) (.t 98)⟩]
def r232_11 : List AInstr :=
  [⟨(some 101), none, .mv (.t 12)⟩, ⟨(some 102), none, .bin .add (.t 101) (.c (.int .i64 1))⟩, ⟨(some 12), none, .mv (.t 102)⟩]
def r232_12 : List AInstr :=
  [⟨(some 103), none, .mv (.t 13)⟩, ⟨(some 104), none, .bin .sub (.t 103) (.c (.int .i64 1))⟩, ⟨(some 13), none, .mv (.t 104)⟩]
def r232_13 : List AInstr :=
  [⟨(some 105), none, .mv (.t 12)⟩, ⟨(some 106), none, .mv (.t 13)⟩, ⟨(some 107), none, .bin .leq (.t 105) (.t 106)⟩, ⟨(some 108), none, .mv (.t 107)⟩, ⟨(some 109), (some (108, true)), .mv (.t 4)⟩, ⟨(some 110), (some (108, true)), .mv (.t 0)⟩, ⟨(some 111), (some (108, true)), .mv (.t 12)⟩, ⟨(some 112), (some (108, true)), .idxA 1 (.t 110) (.t 111)⟩, ⟨(some 113), (some (108, true)), .load false 1 (.t 112)⟩, ⟨(some 114), (some (108, true)), .mv (.t 0)⟩, ⟨(some 115), (some (108, true)), .mv (.t 1)⟩, ⟨(some 116), (some (108, true)), .idxA 1 (.t 114) (.t 115)⟩, ⟨(some 117), (some (108, true)), .load false 1 (.t 116)⟩, ⟨(some 118), (some (108, true)), .callv (.t 109) [(.t 113), (.t 117)]⟩, ⟨(some 119), (some (108, true)), .bin .lss (.t 118) (.c (.int .i64 0))⟩, ⟨(some 120), none, .pick (.t 108) (.t 119) (.c (.bool false))⟩]
def r232_14 : List AInstr :=
  [⟨(some 121), none, .mv (.t 12)⟩, ⟨(some 122), none, .bin .add (.t 121) (.c (.int .i64 1))⟩, ⟨(some 12), none, .mv (.t 122)⟩]
def l232_17 : ACode :=
  .seq (.seq (.rg r232_13) (.cond (.t 120) (.skip) (.exit 6))) (.block 7 (.rg r232_14))
def r232_15 : List AInstr :=
  [⟨(some 123), none, .mv (.t 12)⟩, ⟨(some 124), none, .mv (.t 13)⟩, ⟨(some 125), none, .bin .leq (.t 123) (.t 124)⟩, ⟨(some 126), none, .mv (.t 125)⟩, ⟨(some 127), (some (126, true)), .mv (.t 4)⟩, ⟨(some 128), (some (126, true)), .mv (.t 0)⟩, ⟨(some 129), (some (126, true)), .mv (.t 13)⟩, ⟨(some 130), (some (126, true)), .idxA 1 (.t 128) (.t 129)⟩, ⟨(some 131), (some (126, true)), .load false 1 (.t 130)⟩, ⟨(some 132), (some (126, true)), .mv (.t 0)⟩, ⟨(some 133), (some (126, true)), .mv (.t 1)⟩, ⟨(some 134), (some (126, true)), .idxA 1 (.t 132) (.t 133)⟩, ⟨(some 135), (some (126, true)), .load false 1 (.t 134)⟩, ⟨(some 136), (some (126, true)), .callv (.t 127) [(.t 131), (.t 135)]⟩, ⟨(some 137), (some (126, true)), .bin .lss (.t 136) (.c (.int .i64 0))⟩, ⟨(some 138), (some (126, true)), .not (.t 137)⟩, ⟨(some 139), none, .pick (.t 126) (.t 138) (.c (.bool false))⟩]
def r232_16 : List AInstr :=
  [⟨(some 140), none, .mv (.t 13)⟩, ⟨(some 141), none, .bin .sub (.t 140) (.c (.int .i64 1))⟩, ⟨(some 13), none, .mv (.t 141)⟩]
def l232_20 : ACode :=
  .seq (.seq (.rg r232_15) (.cond (.t 139) (.skip) (.exit 8))) (.block 9 (.rg r232_16))
def r232_17 : List AInstr :=
  [⟨(some 142), none, .mv (.t 12)⟩, ⟨(some 143), none, .mv (.t 13)⟩, ⟨(some 144), none, .bin .gtr (.t 142) (.t 143)⟩]
def r232_18 : List AInstr :=
  [⟨(some 145), none, .mv (.t 0)⟩, ⟨(some 146), none, .mv (.t 12)⟩, ⟨(some 147), none, .mv (.t 0)⟩, ⟨(some 148), none, .mv (.t 13)⟩, ⟨(some 149), none, .mv (.t 0)⟩, ⟨(some 150), none, .mv (.t 13)⟩, ⟨(some 151), none, .idxA 1 (.t 149) (.t 150)⟩, ⟨(some 152), none, .load false 1 (.t 151)⟩, ⟨(some 153), none, .mv (.t 0)⟩, ⟨(some 154), none, .mv (.t 12)⟩, ⟨(some 155), none, .idxA 1 (.t 153) (.t 154)⟩, ⟨(some 156), none, .load false 1 (.t 155)⟩, ⟨(some 157), none, .idxA 1 (.t 145) (.t 146)⟩, ⟨none, none, .store 1 (.t 157) (.t 152)⟩, ⟨(some 158), none, .idxA 1 (.t 147) (.t 148)⟩, ⟨none, none, .store 1 (.t 158) (.t 156)⟩]
def r232_19 : List AInstr :=
  [⟨(some 159), none, .mv (.t 12)⟩, ⟨(some 160), none, .bin .add (.t 159) (.c (.int .i64 1))⟩, ⟨(some 12), none, .mv (.t 160)⟩]
def r232_20 : List AInstr :=
  [⟨(some 161), none, .mv (.t 13)⟩, ⟨(some 162), none, .bin .sub (.t 161) (.c (.int .i64 1))⟩, ⟨(some 13), none, .mv (.t 162)⟩]
def l232_25 : ACode :=
  .block 5 (.seq (.block 6 (.loop l232_17)) (.seq (.block 8 (.loop l232_20)) (.seq (.seq (.rg r232_17) (.cond (.t 144) (.exit 4) (.skip))) (.seq (.rg r232_18) (.seq (.rg r232_19) (.rg r232_20))))))
def r232_21 : List AInstr :=
  [⟨(some 163), none, .mv (.t 0)⟩, ⟨(some 164), none, .mv (.t 13)⟩, ⟨(some 165), none, .mv (.t 0)⟩, ⟨(some 166), none, .mv (.t 1)⟩, ⟨(some 167), none, .mv (.t 0)⟩, ⟨(some 168), none, .mv (.t 1)⟩, ⟨(some 169), none, .idxA 1 (.t 167) (.t 168)⟩, ⟨(some 170), none, .load false 1 (.t 169)⟩, ⟨(some 171), none, .mv (.t 0)⟩, ⟨(some 172), none, .mv (.t 13)⟩, ⟨(some 173), none, .idxA 1 (.t 171) (.t 172)⟩, ⟨(some 174), none, .load false 1 (.t 173)⟩, ⟨(some 175), none, .idxA 1 (.t 163) (.t 164)⟩, ⟨none, none, .store 1 (.t 175) (.t 170)⟩, ⟨(some 176), none, .idxA 1 (.t 165) (.t 166)⟩, ⟨none, none, .store 1 (.t 176) (.t 174)⟩]
def r232_22 : List AInstr :=
  [⟨(some 177), none, .mv (.t 13)⟩, ⟨(some 10), none, .mv (.t 177)⟩, ⟨(some 11), none, .mv (.c (.bool false))⟩]
def c232 : ACode :=
  .seq (.rg r232_0) (.seq (.rg r232_1) (.seq (.rg r232_2) (.seq (.block 0 (.loop l232_5)) (.seq (.block 2 (.loop l232_8)) (.seq (.seq (.rg r232_7) (.cond (.t 71) (.seq (.rg r232_8) (.seq (.rg r232_9) (.ret))) (.skip))) (.seq (.rg r232_10) (.seq (.rg r232_11) (.seq (.rg r232_12) (.seq (.block 4 (.loop l232_25)) (.seq (.rg r232_21) (.seq (.rg r232_22) (.ret))))))))))))
def a232 : AFunc := { np := 5, nt := 178, res := [.tmp 10, .tmp 11], body := c232 }

/- math/bits.Len32 -/
def r233_0 : List AInstr :=
  [⟨(some 2), none, .mv (.c (.int .i64 0))⟩]
def r233_1 : List AInstr :=
  [⟨(some 3), none, .mv (.t 0)⟩, ⟨(some 4), none, .bin .geq (.t 3) (.c (.int .u32 65536))⟩]
def r233_2 : List AInstr :=
  [⟨(some 5), none, .mv (.t 0)⟩, ⟨(some 6), none, .bin .shr (.t 5) (.c (.int .u64 16))⟩, ⟨(some 0), none, .mv (.t 6)⟩]
def r233_3 : List AInstr :=
  [⟨(some 2), none, .mv (.c (.int .i64 16))⟩]
def r233_4 : List AInstr :=
  [⟨(some 7), none, .mv (.t 0)⟩, ⟨(some 8), none, .bin .geq (.t 7) (.c (.int .u32 256))⟩]
def r233_5 : List AInstr :=
  [⟨(some 9), none, .mv (.t 0)⟩, ⟨(some 10), none, .bin .shr (.t 9) (.c (.int .u64 8))⟩, ⟨(some 0), none, .mv (.t 10)⟩]
def r233_6 : List AInstr :=
  [⟨(some 11), none, .mv (.t 2)⟩, ⟨(some 12), none, .bin .add (.t 11) (.c (.int .i64 8))⟩, ⟨(some 2), none, .mv (.t 12)⟩]
def r233_7 : List AInstr :=
  [⟨(some 13), none, .mv (.t 2)⟩, ⟨(some 14), none, .mv (.t 0)⟩, ⟨(some 15), none, .conv .u8 (.t 14)⟩, ⟨(some 16), none, .idxS (.c (.str [0, 1, 2, 2, 3, 3, 3, 3, 4, 4, 4, 4, 4, 4, 4, 4, 5, 5, 5, 5, 5, 5, 5, 5, 5, 5, 5, 5, 5, 5, 5, 5, 6, 6, 6, 6, 6, 6, 6, 6, 6, 6, 6, 6, 6, 6, 6, 6, 6, 6, 6, 6, 6, 6, 6, 6, 6, 6, 6, 6, 6, 6, 6, 6, 7, 7, 7, 7, 7, 7, 7, 7, 7, 7, 7, 7, 7, 7, 7, 7, 7, 7, 7, 7, 7, 7, 7, 7, 7, 7, 7, 7, 7, 7, 7, 7, 7, 7, 7, 7, 7, 7, 7, 7, 7, 7, 7, 7, 7, 7, 7, 7, 7, 7, 7, 7, 7, 7, 7, 7, 7, 7, 7, 7, 7, 7, 7, 7, 8, 8, 8, 8, 8, 8, 8, 8, 8, 8, 8, 8, 8, 8, 8, 8, 8, 8, 8, 8, 8, 8, 8, 8, 8, 8, 8, 8, 8, 8, 8, 8, 8, 8, 8, 8, 8, 8, 8, 8, 8, 8, 8, 8, 8, 8, 8, 8, 8, 8, 8, 8, 8, 8, 8, 8, 8, 8, 8, 8, 8, 8, 8, 8, 8, 8, 8, 8, 8, 8, 8, 8, 8, 8, 8, 8, 8, 8, 8, 8, 8, 8, 8, 8, 8, 8, 8, 8, 8, 8, 8, 8, 8, 8, 8, 8, 8, 8, 8, 8, 8, 8, 8, 8, 8, 8, 8, 8, 8, 8, 8, 8, 8, 8, 8, 8, 8, 8, 8, 8, 8, 8, 8, 8, 8, 8, 8, 8])) (.t 15)⟩, ⟨(some 17), none, .conv .i64 (.t 16)⟩, ⟨(some 18), none, .bin .add (.t 13) (.t 17)⟩, ⟨(some 2), none, .mv (.t 18)⟩]
def c233 : ACode :=
  .seq (.rg r233_0) (.seq (.seq (.rg r233_1) (.cond (.t 4) (.seq (.rg r233_2) (.rg r233_3)) (.skip))) (.seq (.seq (.rg r233_4) (.cond (.t 8) (.seq (.rg r233_5) (.rg r233_6)) (.skip))) (.seq (.rg r233_7) (.ret))))
def a233 : AFunc := { np := 1, nt := 19, res := [.tmp 2], body := c233 }

/- math/bits.Len64 -/
def r234_0 : List AInstr :=
  [⟨(some 2), none, .mv (.c (.int .i64 0))⟩]
def r234_1 : List AInstr :=
  [⟨(some 3), none, .mv (.t 0)⟩, ⟨(some 4), none, .bin .geq (.t 3) (.c (.int .u64 4294967296))⟩]
def r234_2 : List AInstr :=
  [⟨(some 5), none, .mv (.t 0)⟩, ⟨(some 6), none, .bin .shr (.t 5) (.c (.int .u64 32))⟩, ⟨(some 0), none, .mv (.t 6)⟩]
def r234_3 : List AInstr :=
  [⟨(some 2), none, .mv (.c (.int .i64 32))⟩]
def r234_4 : List AInstr :=
  [⟨(some 7), none, .mv (.t 0)⟩, ⟨(some 8), none, .bin .geq (.t 7) (.c (.int .u64 65536))⟩]
def r234_5 : List AInstr :=
  [⟨(some 9), none, .mv (.t 0)⟩, ⟨(some 10), none, .bin .shr (.t 9) (.c (.int .u64 16))⟩, ⟨(some 0), none, .mv (.t 10)⟩]
def r234_6 : List AInstr :=
  [⟨(some 11), none, .mv (.t 2)⟩, ⟨(some 12), none, .bin .add (.t 11) (.c (.int .i64 16))⟩, ⟨(some 2), none, .mv (.t 12)⟩]
def r234_7 : List AInstr :=
  [⟨(some 13), none, .mv (.t 0)⟩, ⟨(some 14), none, .bin .geq (.t 13) (.c (.int .u64 256))⟩]
def r234_8 : List AInstr :=
  [⟨(some 15), none, .mv (.t 0)⟩, ⟨(some 16), none, .bin .shr (.t 15) (.c (.int .u64 8))⟩, ⟨(some 0), none, .mv (.t 16)⟩]
def r234_9 : List AInstr :=
  [⟨(some 17), none, .mv (.t 2)⟩, ⟨(some 18), none, .bin .add (.t 17) (.c (.int .i64 8))⟩, ⟨(some 2), none, .mv (.t 18)⟩]
def r234_10 : List AInstr :=
  [⟨(some 19), none, .mv (.t 2)⟩, ⟨(some 20), none, .mv (.t 0)⟩, ⟨(some 21), none, .conv .u8 (.t 20)⟩, ⟨(some 22), none, .idxS (.c (.str [0, 1, 2, 2, 3, 3, 3, 3, 4, 4, 4, 4, 4, 4, 4, 4, 5, 5, 5, 5, 5, 5, 5, 5, 5, 5, 5, 5, 5, 5, 5, 5, 6, 6, 6, 6, 6, 6, 6, 6, 6, 6, 6, 6, 6, 6, 6, 6, 6, 6, 6, 6, 6, 6, 6, 6, 6, 6, 6, 6, 6, 6, 6, 6, 7, 7, 7, 7, 7, 7, 7, 7, 7, 7, 7, 7, 7, 7, 7, 7, 7, 7, 7, 7, 7, 7, 7, 7, 7, 7, 7, 7, 7, 7, 7, 7, 7, 7, 7, 7, 7, 7, 7, 7, 7, 7, 7, 7, 7, 7, 7, 7, 7, 7, 7, 7, 7, 7, 7, 7, 7, 7, 7, 7, 7, 7, 7, 7, 8, 8, 8, 8, 8, 8, 8, 8, 8, 8, 8, 8, 8, 8, 8, 8, 8, 8, 8, 8, 8, 8, 8, 8, 8, 8, 8, 8, 8, 8, 8, 8, 8, 8, 8, 8, 8, 8, 8, 8, 8, 8, 8, 8, 8, 8, 8, 8, 8, 8, 8, 8, 8, 8, 8, 8, 8, 8, 8, 8, 8, 8, 8, 8, 8, 8, 8, 8, 8, 8, 8, 8, 8, 8, 8, 8, 8, 8, 8, 8, 8, 8, 8, 8, 8, 8, 8, 8, 8, 8, 8, 8, 8, 8, 8, 8, 8, 8, 8, 8, 8, 8, 8, 8, 8, 8, 8, 8, 8, 8, 8, 8, 8, 8, 8, 8, 8, 8, 8, 8, 8, 8, 8, 8, 8, 8, 8, 8])) (.t 21)⟩, ⟨(some 23), none, .conv .i64 (.t 22)⟩, ⟨(some 24), none, .bin .add (.t 19) (.t 23)⟩, ⟨(some 2), none, .mv (.t 24)⟩]
def c234 : ACode :=
  .seq (.rg r234_0) (.seq (.seq (.rg r234_1) (.cond (.t 4) (.seq (.rg r234_2) (.rg r234_3)) (.skip))) (.seq (.seq (.rg r234_4) (.cond (.t 8) (.seq (.rg r234_5) (.rg r234_6)) (.skip))) (.seq (.seq (.rg r234_7) (.cond (.t 14) (.seq (.rg r234_8) (.rg r234_9)) (.skip))) (.seq (.rg r234_10) (.ret)))))
def a234 : AFunc := { np := 1, nt := 25, res := [.tmp 2], body := c234 }

/- slices.siftDownCmpFunc[api.Handle] -/
def r258_0 : List AInstr :=
  [⟨(some 12), none, .mv (.t 1)⟩, ⟨(some 10), none, .mv (.t 12)⟩]
def r258_1 : List AInstr :=
  [⟨(some 13), none, .mv (.t 10)⟩, ⟨(some 14), none, .bin .mul (.c (.int .i64 2)) (.t 13)⟩, ⟨(some 15), none, .bin .add (.t 14) (.c (.int .i64 1))⟩, ⟨(some 11), none, .mv (.t 15)⟩]
def r258_2 : List AInstr :=
  [⟨(some 16), none, .mv (.t 11)⟩, ⟨(some 17), none, .mv (.t 2)⟩, ⟨(some 18), none, .bin .geq (.t 16) (.t 17)⟩]
def r258_3 : List AInstr :=
  [⟨(some 19), none, .mv (.t 11)⟩, ⟨(some 20), none, .bin .add (.t 19) (.c (.int .i64 1))⟩, ⟨(some 21), none, .mv (.t 2)⟩, ⟨(some 22), none, .bin .lss (.t 20) (.t 21)⟩, ⟨(some 23), none, .mv (.t 22)⟩, ⟨(some 24), (some (23, true)), .mv (.t 4)⟩, ⟨(some 25), (some (23, true)), .mv (.t 0)⟩, ⟨(some 26), (some (23, true)), .mv (.t 3)⟩, ⟨(some 27), (some (23, true)), .mv (.t 11)⟩, ⟨(some 28), (some (23, true)), .bin .add (.t 26) (.t 27)⟩, ⟨(some 29), (some (23, true)), .idxA 1 (.t 25) (.t 28)⟩, ⟨(some 30), (some (23, true)), .load false 1 (.t 29)⟩, ⟨(some 31), (some (23, true)), .mv (.t 0)⟩, ⟨(some 32), (some (23, true)), .mv (.t 3)⟩, ⟨(some 33), (some (23, true)), .mv (.t 11)⟩, ⟨(some 34), (some (23, true)), .bin .add (.t 32) (.t 33)⟩, ⟨(some 35), (some (23, true)), .bin .add (.t 34) (.c (.int .i64 1))⟩, ⟨(some 36), (some (23, true)), .idxA 1 (.t 31) (.t 35)⟩, ⟨(some 37), (some (23, true)), .load false 1 (.t 36)⟩, ⟨(some 38), (some (23, true)), .callv (.t 24) [(.t 30), (.t 37)]⟩, ⟨(some 39), (some (23, true)), .bin .lss (.t 38) (.c (.int .i64 0))⟩, ⟨(some 40), none, .pick (.t 23) (.t 39) (.c (.bool false))⟩]
def r258_4 : List AInstr :=
  [⟨(some 41), none, .mv (.t 11)⟩, ⟨(some 42), none, .bin .add (.t 41) (.c (.int .i64 1))⟩, ⟨(some 11), none, .mv (.t 42)⟩]
def r258_5 : List AInstr :=
  [⟨(some 43), none, .mv (.t 4)⟩, ⟨(some 44), none, .mv (.t 0)⟩, ⟨(some 45), none, .mv (.t 3)⟩, ⟨(some 46), none, .mv (.t 10)⟩, ⟨(some 47), none, .bin .add (.t 45) (.t 46)⟩, ⟨(some 48), none, .idxA 1 (.t 44) (.t 47)⟩, ⟨(some 49), none, .load false 1 (.t 48)⟩, ⟨(some 50), none, .mv (.t 0)⟩, ⟨(some 51), none, .mv (.t 3)⟩, ⟨(some 52), none, .mv (.t 11)⟩, ⟨(some 53), none, .bin .add (.t 51) (.t 52)⟩, ⟨(some 54), none, .idxA 1 (.t 50) (.t 53)⟩, ⟨(some 55), none, .load false 1 (.t 54)⟩, ⟨(some 56), none, .callv (.t 43) [(.t 49), (.t 55)]⟩, ⟨(some 57), none, .bin .lss (.t 56) (.c (.int .i64 0))⟩, ⟨(some 58), none, .not (.t 57)⟩]
def r258_6 : List AInstr :=
  [⟨(some 59), none, .mv (.t 0)⟩, ⟨(some 60), none, .mv (.t 3)⟩, ⟨(some 61), none, .mv (.t 10)⟩, ⟨(some 62), none, .bin .add (.t 60) (.t 61)⟩, ⟨(some 63), none, .mv (.t 0)⟩, ⟨(some 64), none, .mv (.t 3)⟩, ⟨(some 65), none, .mv (.t 11)⟩, ⟨(some 66), none, .bin .add (.t 64) (.t 65)⟩, ⟨(some 67), none, .mv (.t 0)⟩, ⟨(some 68), none, .mv (.t 3)⟩, ⟨(some 69), none, .mv (.t 11)⟩, ⟨(some 70), none, .bin .add (.t 68) (.t 69)⟩, ⟨(some 71), none, .idxA 1 (.t 67) (.t 70)⟩, ⟨(some 72), none, .load false 1 (.t 71)⟩, ⟨(some 73), none, .mv (.t 0)⟩, ⟨(some 74), none, .mv (.t 3)⟩, ⟨(some 75), none, .mv (.t 10)⟩, ⟨(some 76), none, .bin .add (.t 74) (.t 75)⟩, ⟨(some 77), none, .idxA 1 (.t 73) (.t 76)⟩, ⟨(some 78), none, .load false 1 (.t 77)⟩, ⟨(some 79), none, .idxA 1 (.t 59) (.t 62)⟩, ⟨none, none, .store 1 (.t 79) (.t 72)⟩, ⟨(some 80), none, .idxA 1 (.t 63) (.t 66)⟩, ⟨none, none, .store 1 (.t 80) (.t 78)⟩]
def r258_7 : List AInstr :=
  [⟨(some 81), none, .mv (.t 11)⟩, ⟨(some 10), none, .mv (.t 81)⟩]
def l258_8 : ACode :=
  .block 1 (.seq (.rg r258_1) (.seq (.seq (.rg r258_2) (.cond (.t 18) (.exit 0) (.skip))) (.seq (.seq (.rg r258_3) (.cond (.t 40) (.rg r258_4) (.skip))) (.seq (.seq (.rg r258_5) (.cond (.t 58) (.ret) (.skip))) (.seq (.rg r258_6) (.rg r258_7))))))
def c258 : ACode :=
  .seq (.rg r258_0) (.block 0 (.loop l258_8))
def a258 : AFunc := { np := 5, nt := 82, res := [], body := c258 }

/- slices.nextPowerOfTwo -/
def r259_0 : List AInstr :=
  [⟨(some 2), none, .mv (.c (.int .u64 0))⟩]
def r259_1 : List AInstr :=
  [⟨(some 3), none, .mv (.t 0)⟩, ⟨(some 4), none, .conv .u64 (.t 3)⟩, ⟨(some 5), none, .call 183 [(.t 4)]⟩, ⟨(some 6), none, .bin .shl (.c (.int .u64 1)) (.t 5)⟩, ⟨(some 2), none, .mv (.t 6)⟩]
def c259 : ACode :=
  .seq (.rg r259_0) (.seq (.rg r259_1) (.ret))
def a259 : AFunc := { np := 1, nt := 7, res := [.tmp 2], body := c259 }

/- (*slices.xorshift).Next -/
def r260_0 : List AInstr :=
  [⟨(some 2), none, .mv (.c (.int .u64 0))⟩]
def r260_1 : List AInstr :=
  [⟨(some 3), none, .mv (.t 0)⟩, ⟨(some 4), none, .nilc (.t 3)⟩, ⟨(some 5), none, .load false 1 (.t 4)⟩, ⟨(some 6), none, .mv (.t 0)⟩, ⟨(some 7), none, .nilc (.t 6)⟩, ⟨(some 8), none, .load false 1 (.t 7)⟩, ⟨(some 9), none, .bin .shl (.t 8) (.c (.int .u64 13))⟩, ⟨(some 10), none, .bin .xor (.t 5) (.t 9)⟩, ⟨(some 11), none, .nilc (.t 3)⟩, ⟨none, none, .store 1 (.t 11) (.t 10)⟩]
def r260_2 : List AInstr :=
  [⟨(some 12), none, .mv (.t 0)⟩, ⟨(some 13), none, .nilc (.t 12)⟩, ⟨(some 14), none, .load false 1 (.t 13)⟩, ⟨(some 15), none, .mv (.t 0)⟩, ⟨(some 16), none, .nilc (.t 15)⟩, ⟨(some 17), none, .load false 1 (.t 16)⟩, ⟨(some 18), none, .bin .shr (.t 17) (.c (.int .u64 7))⟩, ⟨(some 19), none, .bin .xor (.t 14) (.t 18)⟩, ⟨(some 20), none, .nilc (.t 12)⟩, ⟨none, none, .store 1 (.t 20) (.t 19)⟩]
def r260_3 : List AInstr :=
  [⟨(some 21), none, .mv (.t 0)⟩, ⟨(some 22), none, .nilc (.t 21)⟩, ⟨(some 23), none, .load false 1 (.t 22)⟩, ⟨(some 24), none, .mv (.t 0)⟩, ⟨(some 25), none, .nilc (.t 24)⟩, ⟨(some 26), none, .load false 1 (.t 25)⟩, ⟨(some 27), none, .bin .shl (.t 26) (.c (.int .u64 17))⟩, ⟨(some 28), none, .bin .xor (.t 23) (.t 27)⟩, ⟨(some 29), none, .nilc (.t 21)⟩, ⟨none, none, .store 1 (.t 29) (.t 28)⟩]
def r260_4 : List AInstr :=
  [⟨(some 30), none, .mv (.t 0)⟩, ⟨(some 31), none, .nilc (.t 30)⟩, ⟨(some 32), none, .load false 1 (.t 31)⟩, ⟨(some 2), none, .mv (.t 32)⟩]
def c260 : ACode :=
  .seq (.rg r260_0) (.seq (.rg r260_1) (.seq (.rg r260_2) (.seq (.rg r260_3) (.seq (.rg r260_4) (.ret)))))
def a260 : AFunc := { np := 1, nt := 33, res := [.tmp 2], body := c260 }

/- slices.medianAdjacentCmpFunc[api.Handle] -/
def r261_0 : List AInstr :=
  [⟨(some 8), none, .mv (.c (.int .i64 0))⟩]
def r261_1 : List AInstr :=
  [⟨(some 9), none, .mv (.t 0)⟩, ⟨(some 10), none, .mv (.t 1)⟩, ⟨(some 11), none, .bin .sub (.t 10) (.c (.int .i64 1))⟩, ⟨(some 12), none, .mv (.t 1)⟩, ⟨(some 13), none, .mv (.t 1)⟩, ⟨(some 14), none, .bin .add (.t 13) (.c (.int .i64 1))⟩, ⟨(some 15), none, .mv (.t 2)⟩, ⟨(some 16), none, .mv (.t 3)⟩, ⟨(some 17), none, .call 262 [(.t 9), (.t 11), (.t 12), (.t 14), (.t 15), (.t 16)]⟩, ⟨(some 8), none, .mv (.t 17)⟩]
def c261 : ACode :=
  .seq (.rg r261_0) (.seq (.rg r261_1) (.ret))
def a261 : AFunc := { np := 4, nt := 18, res := [.tmp 8], body := c261 }

/- slices.medianCmpFunc[api.Handle] -/
def r262_0 : List AInstr :=
  [⟨(some 12), none, .mv (.c (.int .i64 0))⟩]
def r262_1 : List AInstr :=
  [⟨(some 14), none, .mv (.t 0)⟩, ⟨(some 15), none, .mv (.t 1)⟩, ⟨(some 16), none, .mv (.t 2)⟩, ⟨(some 17), none, .mv (.t 4)⟩, ⟨(some 18), none, .mv (.t 5)⟩, ⟨(some 19), none, .call 280 [(.t 14), (.t 15), (.t 16), (.t 17), (.t 18)]⟩, ⟨(some 13), none, .mv (.t 19)⟩, ⟨(some 20), none, .ext (.t 13) 0⟩, ⟨(some 21), none, .ext (.t 13) 1⟩, ⟨(some 1), none, .mv (.t 20)⟩, ⟨(some 2), none, .mv (.t 21)⟩]
def r262_2 : List AInstr :=
  [⟨(some 23), none, .mv (.t 0)⟩, ⟨(some 24), none, .mv (.t 2)⟩, ⟨(some 25), none, .mv (.t 3)⟩, ⟨(some 26), none, .mv (.t 4)⟩, ⟨(some 27), none, .mv (.t 5)⟩, ⟨(some 28), none, .call 280 [(.t 23), (.t 24), (.t 25), (.t 26), (.t 27)]⟩, ⟨(some 22), none, .mv (.t 28)⟩, ⟨(some 29), none, .ext (.t 22) 0⟩, ⟨(some 30), none, .ext (.t 22) 1⟩, ⟨(some 2), none, .mv (.t 29)⟩, ⟨(some 3), none, .mv (.t 30)⟩]
def r262_3 : List AInstr :=
  [⟨(some 32), none, .mv (.t 0)⟩, ⟨(some 33), none, .mv (.t 1)⟩, ⟨(some 34), none, .mv (.t 2)⟩, ⟨(some 35), none, .mv (.t 4)⟩, ⟨(some 36), none, .mv (.t 5)⟩, ⟨(some 37), none, .call 280 [(.t 32), (.t 33), (.t 34), (.t 35), (.t 36)]⟩, ⟨(some 31), none, .mv (.t 37)⟩, ⟨(some 38), none, .ext (.t 31) 0⟩, ⟨(some 39), none, .ext (.t 31) 1⟩, ⟨(some 1), none, .mv (.t 38)⟩, ⟨(some 2), none, .mv (.t 39)⟩]
def r262_4 : List AInstr :=
  [⟨(some 40), none, .mv (.t 2)⟩, ⟨(some 12), none, .mv (.t 40)⟩]
def c262 : ACode :=
  .seq (.rg r262_0) (.seq (.rg r262_1) (.seq (.rg r262_2) (.seq (.rg r262_3) (.seq (.rg r262_4) (.ret)))))
def a262 : AFunc := { np := 6, nt := 41, res := [.tmp 12], body := c262 }

/- slices.order2CmpFunc[api.Handle] -/
def r280_0 : List AInstr :=
  [⟨(some 10), none, .mv (.c (.int .i64 0))⟩, ⟨(some 11), none, .mv (.c (.int .i64 0))⟩]
def r280_1 : List AInstr :=
  [⟨(some 12), none, .mv (.t 4)⟩, ⟨(some 13), none, .mv (.t 0)⟩, ⟨(some 14), none, .mv (.t 2)⟩, ⟨(some 15), none, .idxA 1 (.t 13) (.t 14)⟩, ⟨(some 16), none, .load false 1 (.t 15)⟩, ⟨(some 17), none, .mv (.t 0)⟩, ⟨(some 18), none, .mv (.t 1)⟩, ⟨(some 19), none, .idxA 1 (.t 17) (.t 18)⟩, ⟨(some 20), none, .load false 1 (.t 19)⟩, ⟨(some 21), none, .callv (.t 12) [(.t 16), (.t 20)]⟩, ⟨(some 22), none, .bin .lss (.t 21) (.c (.int .i64 0))⟩]
def r280_2 : List AInstr :=
  [⟨(some 23), none, .mv (.t 3)⟩, ⟨(some 24), none, .nilc (.t 23)⟩, ⟨(some 25), none, .load false 1 (.t 24)⟩, ⟨(some 26), none, .bin .add (.t 25) (.c (.int .i64 1))⟩, ⟨(some 27), none, .nilc (.t 23)⟩, ⟨none, none, .store 1 (.t 27) (.t 26)⟩]
def r280_3 : List AInstr :=
  [⟨(some 28), none, .mv (.t 2)⟩, ⟨(some 29), none, .mv (.t 1)⟩, ⟨(some 10), none, .mv (.t 28)⟩, ⟨(some 11), none, .mv (.t 29)⟩]
def r280_4 : List AInstr :=
  [⟨(some 30), none, .mv (.t 1)⟩, ⟨(some 31), none, .mv (.t 2)⟩, ⟨(some 10), none, .mv (.t 30)⟩, ⟨(some 11), none, .mv (.t 31)⟩]
def c280 : ACode :=
  .seq (.rg r280_0) (.seq (.seq (.rg r280_1) (.cond (.t 22) (.seq (.rg r280_2) (.seq (.rg r280_3) (.ret))) (.skip))) (.seq (.rg r280_4) (.ret)))
def a280 : AFunc := { np := 5, nt := 32, res := [.tmp 10, .tmp 11], body := c280 }

theorem ok4 : FOk Tryz.prog 4 a4 := ⟨Tryz.f4, Tryz.func4, by kernel_rfl, by kernel_rfl⟩
theorem ok21 : FOk Tryz.prog 21 a21 := ⟨Tryz.f21, Tryz.func21, by kernel_rfl, by kernel_rfl⟩
theorem ok22 : FOk Tryz.prog 22 a22 := ⟨Tryz.f22, Tryz.func22, by kernel_rfl, by kernel_rfl⟩
theorem ok23 : FOk Tryz.prog 23 a23 := ⟨Tryz.f23, Tryz.func23, by kernel_rfl, by kernel_rfl⟩
theorem ok24 : FOk Tryz.prog 24 a24 := ⟨Tryz.f24, Tryz.func24, by kernel_rfl, by kernel_rfl⟩
theorem ok26 : FOk Tryz.prog 26 a26 := ⟨Tryz.f26, Tryz.func26, by kernel_rfl, by kernel_rfl⟩
theorem ok58 : FOk Tryz.prog 58 a58 := ⟨Tryz.f58, Tryz.func58, by kernel_rfl, by kernel_rfl⟩
theorem ok60 : FOk Tryz.prog 60 a60 := ⟨Tryz.f60, Tryz.func60, by kernel_rfl, by kernel_rfl⟩
theorem ok119 : FOk Tryz.prog 119 a119 := ⟨Tryz.f119, Tryz.func119, by kernel_rfl, by kernel_rfl⟩
theorem ok120 : FOk Tryz.prog 120 a120 := ⟨Tryz.f120, Tryz.func120, by kernel_rfl, by kernel_rfl⟩
theorem ok121 : FOk Tryz.prog 121 a121 := ⟨Tryz.f121, Tryz.func121, by kernel_rfl, by kernel_rfl⟩
theorem ok122 : FOk Tryz.prog 122 a122 := ⟨Tryz.f122, Tryz.func122, by kernel_rfl, by kernel_rfl⟩
theorem ok182 : FOk Tryz.prog 182 a182 := ⟨Tryz.f182, Tryz.func182, by kernel_rfl, by kernel_rfl⟩
theorem ok183 : FOk Tryz.prog 183 a183 := ⟨Tryz.f183, Tryz.func183, by kernel_rfl, by kernel_rfl⟩
theorem ok225 : FOk Tryz.prog 225 a225 := ⟨Tryz.f225, Tryz.func225, by kernel_rfl, by kernel_rfl⟩
theorem ok226 : FOk Tryz.prog 226 a226 := ⟨Tryz.f226, Tryz.func226, by kernel_rfl, by kernel_rfl⟩
theorem ok227 : FOk Tryz.prog 227 a227 := ⟨Tryz.f227, Tryz.func227, by kernel_rfl, by kernel_rfl⟩
theorem ok228 : FOk Tryz.prog 228 a228 := ⟨Tryz.f228, Tryz.func228, by kernel_rfl, by kernel_rfl⟩
theorem ok229 : FOk Tryz.prog 229 a229 := ⟨Tryz.f229, Tryz.func229, by kernel_rfl, by kernel_rfl⟩
theorem ok230 : FOk Tryz.prog 230 a230 := ⟨Tryz.f230, Tryz.func230, by kernel_rfl, by kernel_rfl⟩
theorem ok231 : FOk Tryz.prog 231 a231 := ⟨Tryz.f231, Tryz.func231, by kernel_rfl, by kernel_rfl⟩
theorem ok232 : FOk Tryz.prog 232 a232 := ⟨Tryz.f232, Tryz.func232, by kernel_rfl, by kernel_rfl⟩
theorem ok233 : FOk Tryz.prog 233 a233 := ⟨Tryz.f233, Tryz.func233, by kernel_rfl, by kernel_rfl⟩
theorem ok234 : FOk Tryz.prog 234 a234 := ⟨Tryz.f234, Tryz.func234, by kernel_rfl, by kernel_rfl⟩
theorem ok258 : FOk Tryz.prog 258 a258 := ⟨Tryz.f258, Tryz.func258, by kernel_rfl, by kernel_rfl⟩
theorem ok259 : FOk Tryz.prog 259 a259 := ⟨Tryz.f259, Tryz.func259, by kernel_rfl, by kernel_rfl⟩
theorem ok260 : FOk Tryz.prog 260 a260 := ⟨Tryz.f260, Tryz.func260, by kernel_rfl, by kernel_rfl⟩
theorem ok261 : FOk Tryz.prog 261 a261 := ⟨Tryz.f261, Tryz.func261, by kernel_rfl, by kernel_rfl⟩
theorem ok262 : FOk Tryz.prog 262 a262 := ⟨Tryz.f262, Tryz.func262, by kernel_rfl, by kernel_rfl⟩
theorem ok280 : FOk Tryz.prog 280 a280 := ⟨Tryz.f280, Tryz.func280, by kernel_rfl, by kernel_rfl⟩

end Go.Proofs.YtekhblefchceaaaGreat.AM
