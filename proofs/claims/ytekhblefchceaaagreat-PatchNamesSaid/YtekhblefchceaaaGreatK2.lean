/- The abstract code of functions, printed by a program (tools/gen.py). -/
import Derived.Test.YtekhblefchceaaaGreatMC
import Derived.Test.YtekhblefchceaaaGreatProg
set_option linter.unusedVariables false
set_option linter.unusedSimpArgs false
namespace Go.Proofs.YtekhblefchceaaaGreat.AM
open Go Go.Proofs
/- plan.Check -/
def r93_0 : List AInstr :=
  [⟨(some 3), none, .box 7 (.t 1)⟩, ⟨(some 4), none, .mv (.c (.int .i64 0))⟩]
def r93_1 : List AInstr :=
  [⟨(some 6), none, .mv (.t 0)⟩, ⟨(some 7), none, .eqv .ptr false (.t 6) (.c (.nilp))⟩]
def r93_2 : List AInstr :=
  [⟨(some 4), none, .mv (.c (.int .i64 1))⟩]
def r93_3 : List AInstr :=
  [⟨(some 8), none, .load true 7 (.t 3)⟩, ⟨(some 9), none, .call 97 [(.t 8)]⟩, ⟨(some 10), none, .bin .eql (.t 9) (.c (.int .i64 1))⟩]
def r93_4 : List AInstr :=
  [⟨(some 4), none, .mv (.c (.int .i64 0))⟩]
def r93_5 : List AInstr :=
  [⟨(some 11), none, .mv (.t 0)⟩, ⟨(some 12), none, .load true 7 (.t 3)⟩, ⟨(some 13), none, .call 172 [(.t 11), (.t 12), (.c (.bool false)), (.c (.int .i64 0))]⟩, ⟨(some 5), none, .mv (.t 13)⟩]
def r93_6 : List AInstr :=
  [⟨(some 14), none, .mv (.t 5)⟩, ⟨(some 15), none, .bin .neq (.t 14) (.c (.int .i64 0))⟩]
def r93_7 : List AInstr :=
  [⟨(some 16), none, .mv (.t 5)⟩, ⟨(some 4), none, .mv (.t 16)⟩]
def r93_8 : List AInstr :=
  [⟨(some 17), none, .load true 7 (.t 3)⟩, ⟨(some 18), none, .call 168 [(.t 17)]⟩, ⟨(some 19), none, .bin .gtr (.t 18) (.c (.int .i64 65536))⟩]
def r93_9 : List AInstr :=
  [⟨(some 4), none, .mv (.c (.int .i64 5))⟩]
def r93_10 : List AInstr :=
  [⟨(some 4), none, .mv (.c (.int .i64 0))⟩]
def c93 : ACode :=
  .seq (.rg r93_0) (.seq (.seq (.rg r93_1) (.cond (.t 7) (.seq (.rg r93_2) (.ret)) (.skip))) (.seq (.seq (.rg r93_3) (.cond (.t 10) (.seq (.rg r93_4) (.ret)) (.skip))) (.seq (.seq (.rg r93_5) (.seq (.rg r93_6) (.cond (.t 15) (.seq (.rg r93_7) (.ret)) (.skip)))) (.seq (.seq (.rg r93_8) (.cond (.t 19) (.seq (.rg r93_9) (.ret)) (.skip))) (.seq (.rg r93_10) (.ret))))))
def a93 : AFunc := { np := 2, nt := 20, res := [.tmp 4], body := c93 }

/- plan.Text$1 -/
def r94_0 : List AInstr :=
  [⟨(some 4), none, .box 7 (.t 0)⟩, ⟨(some 5), none, .mv (.c (.int .i64 0))⟩]
def r94_1 : List AInstr :=
  [⟨(some 13), none, .fld 1 (.t 4)⟩, ⟨(some 14), none, .load false 1 (.t 13)⟩, ⟨(some 15), none, .bin .eql (.t 14) (.c (.int .i64 0))⟩]
def r94_2 : List AInstr :=
  [⟨(some 17), none, .load false 1 (.t 1)⟩, ⟨(some 18), none, .load true 7 (.t 4)⟩, ⟨(some 19), none, .call 95 [(.t 17), (.t 18)]⟩, ⟨(some 16), none, .mv (.t 19)⟩, ⟨(some 20), none, .ext (.t 16) 0⟩, ⟨(some 21), none, .ext (.t 16) 1⟩, ⟨(some 6), none, .mv (.t 20)⟩, ⟨(some 7), none, .mv (.t 21)⟩]
def r94_3 : List AInstr :=
  [⟨(some 22), none, .load false 1 (.t 2)⟩, ⟨(some 23), none, .mv (.t 6)⟩, ⟨(some 24), none, .appb (.t 22) (.t 23)⟩, ⟨none, none, .store 1 (.t 2) (.t 24)⟩]
def r94_4 : List AInstr :=
  [⟨(some 25), none, .mv (.t 7)⟩, ⟨(some 5), none, .mv (.t 25)⟩]
def r94_5 : List AInstr :=
  [⟨(some 27), none, .load false 1 (.t 1)⟩, ⟨(some 28), none, .load true 7 (.t 4)⟩, ⟨(some 29), none, .call 96 [(.t 27), (.t 28)]⟩, ⟨(some 26), none, .mv (.t 29)⟩, ⟨(some 30), none, .ext (.t 26) 0⟩, ⟨(some 31), none, .ext (.t 26) 1⟩, ⟨(some 8), none, .mv (.t 30)⟩, ⟨(some 9), none, .mv (.t 31)⟩]
def r94_6 : List AInstr :=
  [⟨(some 32), none, .mv (.t 9)⟩, ⟨(some 33), none, .bin .neq (.t 32) (.c (.int .i64 0))⟩]
def r94_7 : List AInstr :=
  [⟨(some 34), none, .mv (.t 9)⟩, ⟨(some 5), none, .mv (.t 34)⟩]
def r94_8 : List AInstr :=
  [⟨(some 35), none, .mv (.t 8)⟩, ⟨(some 36), none, .len .l (.t 35)⟩, ⟨(some 37), none, .mv (.c (.int .i64 0))⟩]
def r94_9 : List AInstr :=
  [⟨(some 38), none, .bin .lss (.t 37) (.t 36)⟩]
def r94_10 : List AInstr :=
  [⟨(some 39), none, .idxA 7 (.t 35) (.t 37)⟩, ⟨(some 40), none, .load true 7 (.t 39)⟩, ⟨(some 11), none, .alloc [.int .u64 0, .int .i64 0, .int .i64 0, .int .i64 0, .int .i64 0, .str [], .vs [] .ex]⟩, ⟨none, none, .store 7 (.t 11) (.t 40)⟩]
def r94_11 : List AInstr :=
  [⟨(some 41), none, .load false 1 (.t 3)⟩, ⟨(some 42), none, .load true 7 (.t 11)⟩, ⟨(some 43), none, .callv (.t 41) [(.t 42)]⟩, ⟨(some 12), none, .mv (.t 43)⟩]
def r94_12 : List AInstr :=
  [⟨(some 44), none, .mv (.t 12)⟩, ⟨(some 45), none, .bin .neq (.t 44) (.c (.int .i64 0))⟩]
def r94_13 : List AInstr :=
  [⟨(some 46), none, .mv (.t 12)⟩, ⟨(some 5), none, .mv (.t 46)⟩]
def r94_14 : List AInstr :=
  [⟨(some 47), none, .bin .add (.t 37) (.c (.int .i64 1))⟩, ⟨(some 37), none, .mv (.t 47)⟩]
def l94_15 : ACode :=
  .seq (.rg r94_9) (.seq (.cond (.t 38) (.skip) (.exit 0)) (.seq (.block 1 (.seq (.rg r94_10) (.seq (.rg r94_11) (.seq (.rg r94_12) (.cond (.t 45) (.seq (.rg r94_13) (.ret)) (.skip)))))) (.rg r94_14)))
def r94_15 : List AInstr :=
  [⟨(some 5), none, .mv (.c (.int .i64 0))⟩]
def c94 : ACode :=
  .seq (.rg r94_0) (.seq (.seq (.rg r94_1) (.cond (.t 15) (.seq (.rg r94_2) (.seq (.rg r94_3) (.seq (.rg r94_4) (.ret)))) (.skip))) (.seq (.rg r94_5) (.seq (.seq (.rg r94_6) (.cond (.t 33) (.seq (.rg r94_7) (.ret)) (.skip))) (.seq (.seq (.rg r94_8) (.block 0 (.loop l94_15))) (.seq (.rg r94_15) (.ret))))))
def a94 : AFunc := { np := 4, nt := 48, res := [.tmp 5], body := c94 }

/- plan.line -/
def r95_0 : List AInstr :=
  [⟨(some 3), none, .box 7 (.t 1)⟩, ⟨(some 4), none, .mv (.c (.str []))⟩, ⟨(some 5), none, .mv (.c (.int .i64 0))⟩]
def r95_1 : List AInstr :=
  [⟨(some 8), none, .fld 0 (.t 3)⟩, ⟨(some 9), none, .load false 1 (.t 8)⟩, ⟨(some 10), none, .bin .eql (.t 9) (.c (.int .u64 0))⟩]
def r95_2 : List AInstr :=
  [⟨(some 11), none, .fld 5 (.t 3)⟩, ⟨(some 12), none, .load false 1 (.t 11)⟩, ⟨(some 4), none, .mv (.t 12)⟩, ⟨(some 5), none, .mv (.c (.int .i64 0))⟩]
def r95_3 : List AInstr :=
  [⟨(some 14), none, .mv (.t 0)⟩, ⟨(some 15), none, .fld 0 (.t 3)⟩, ⟨(some 16), none, .load false 1 (.t 15)⟩, ⟨(some 17), none, .call 173 [(.t 14), (.t 16)]⟩, ⟨(some 13), none, .mv (.t 17)⟩, ⟨(some 18), none, .ext (.t 13) 0⟩, ⟨(some 19), none, .ext (.t 13) 1⟩, ⟨(some 6), none, .alloc [.int .i64 0, .str [], .vs [] .ex]⟩, ⟨none, none, .store 3 (.t 6) (.t 18)⟩, ⟨(some 7), none, .mv (.t 19)⟩]
def r95_4 : List AInstr :=
  [⟨(some 20), none, .fld 1 (.t 6)⟩, ⟨(some 21), none, .load false 1 (.t 20)⟩, ⟨(some 22), none, .mv (.t 7)⟩, ⟨(some 4), none, .mv (.t 21)⟩, ⟨(some 5), none, .mv (.t 22)⟩]
def c95 : ACode :=
  .seq (.rg r95_0) (.seq (.seq (.rg r95_1) (.cond (.t 10) (.seq (.rg r95_2) (.ret)) (.skip))) (.seq (.rg r95_3) (.seq (.rg r95_4) (.ret))))
def a95 : AFunc := { np := 2, nt := 23, res := [.tmp 4, .tmp 5], body := c95 }

/- plan.children -/
def r96_0 : List AInstr :=
  [⟨(some 3), none, .box 7 (.t 1)⟩, ⟨(some 4), none, .mv (.c (.vs [] .ex))⟩, ⟨(some 5), none, .mv (.c (.int .i64 0))⟩]
def r96_1 : List AInstr :=
  [⟨(some 11), none, .fld 0 (.t 3)⟩, ⟨(some 12), none, .load false 1 (.t 11)⟩, ⟨(some 13), none, .bin .eql (.t 12) (.c (.int .u64 0))⟩]
def r96_2 : List AInstr :=
  [⟨(some 14), none, .fld 6 (.t 3)⟩, ⟨(some 15), none, .load false 1 (.t 14)⟩, ⟨(some 4), none, .mv (.t 15)⟩, ⟨(some 5), none, .mv (.c (.int .i64 0))⟩]
def r96_3 : List AInstr :=
  [⟨(some 17), none, .mv (.t 0)⟩, ⟨(some 18), none, .fld 0 (.t 3)⟩, ⟨(some 19), none, .load false 1 (.t 18)⟩, ⟨(some 20), none, .call 173 [(.t 17), (.t 19)]⟩, ⟨(some 16), none, .mv (.t 20)⟩, ⟨(some 21), none, .ext (.t 16) 0⟩, ⟨(some 22), none, .ext (.t 16) 1⟩, ⟨(some 6), none, .alloc [.int .i64 0, .str [], .vs [] .ex]⟩, ⟨none, none, .store 3 (.t 6) (.t 21)⟩, ⟨(some 7), none, .mv (.t 22)⟩]
def r96_4 : List AInstr :=
  [⟨(some 23), none, .mv (.t 7)⟩, ⟨(some 24), none, .bin .neq (.t 23) (.c (.int .i64 0))⟩]
def r96_5 : List AInstr :=
  [⟨(some 25), none, .mv (.t 7)⟩, ⟨(some 4), none, .mv (.c (.vs [] .ex))⟩, ⟨(some 5), none, .mv (.t 25)⟩]
def r96_6 : List AInstr :=
  [⟨(some 8), none, .mv (.c (.vs [] .ex))⟩]
def r96_7 : List AInstr :=
  [⟨(some 26), none, .fld 2 (.t 6)⟩, ⟨(some 27), none, .load false 1 (.t 26)⟩, ⟨(some 28), none, .len .l (.t 27)⟩, ⟨(some 29), none, .mv (.c (.int .i64 0))⟩]
def r96_8 : List AInstr :=
  [⟨(some 30), none, .bin .lss (.t 29) (.t 28)⟩]
def r96_9 : List AInstr :=
  [⟨(some 31), none, .idxA 4 (.t 27) (.t 29)⟩, ⟨(some 32), none, .load true 4 (.t 31)⟩, ⟨(some 10), none, .alloc [.int .u64 0, .int .i64 0, .int .i64 0, .int .i64 0]⟩, ⟨none, none, .store 4 (.t 10) (.t 32)⟩]
def r96_10 : List AInstr :=
  [⟨(some 33), none, .mv (.t 8)⟩, ⟨(some 34), none, .fld 0 (.t 10)⟩, ⟨(some 35), none, .load false 1 (.t 34)⟩, ⟨(some 36), none, .fld 0 (.t 6)⟩, ⟨(some 37), none, .load false 1 (.t 36)⟩, ⟨(some 38), none, .bin .sub (.t 37) (.c (.int .i64 1))⟩, ⟨(some 39), none, .fld 1 (.t 10)⟩, ⟨(some 40), none, .load true 3 (.t 39)⟩, ⟨(some 41), none, .build [.int .u64 0, .int .i64 0, .int .i64 0, .int .i64 0, .int .i64 0, .str [], .vs [] .ex] [(0, 1, (.t 35)), (1, 1, (.t 38)), (2, 3, (.t 40))]⟩, ⟨(some 42), none, .lit 7 [(.t 41)]⟩, ⟨(some 43), none, .app true 7 80 (.t 33) (.t 42)⟩, ⟨(some 8), none, .mv (.t 43)⟩]
def r96_11 : List AInstr :=
  [⟨(some 44), none, .bin .add (.t 29) (.c (.int .i64 1))⟩, ⟨(some 29), none, .mv (.t 44)⟩]
def l96_12 : ACode :=
  .seq (.rg r96_8) (.seq (.cond (.t 30) (.skip) (.exit 0)) (.seq (.block 1 (.seq (.rg r96_9) (.rg r96_10))) (.rg r96_11)))
def r96_12 : List AInstr :=
  [⟨(some 45), none, .mv (.t 8)⟩, ⟨(some 46), none, .len .l (.t 45)⟩, ⟨(some 47), none, .bin .eql (.t 46) (.c (.int .i64 0))⟩]
def r96_13 : List AInstr :=
  [⟨(some 4), none, .mv (.c (.vs [] .ex))⟩, ⟨(some 5), none, .mv (.c (.int .i64 23))⟩]
def r96_14 : List AInstr :=
  [⟨(some 48), none, .mv (.t 8)⟩, ⟨(some 4), none, .mv (.t 48)⟩, ⟨(some 5), none, .mv (.c (.int .i64 0))⟩]
def c96 : ACode :=
  .seq (.rg r96_0) (.seq (.seq (.rg r96_1) (.cond (.t 13) (.seq (.rg r96_2) (.ret)) (.skip))) (.seq (.rg r96_3) (.seq (.seq (.rg r96_4) (.cond (.t 24) (.seq (.rg r96_5) (.ret)) (.skip))) (.seq (.rg r96_6) (.seq (.seq (.rg r96_7) (.block 0 (.loop l96_12))) (.seq (.seq (.rg r96_12) (.cond (.t 47) (.seq (.rg r96_13) (.ret)) (.skip))) (.seq (.rg r96_14) (.ret))))))))
def a96 : AFunc := { np := 2, nt := 49, res := [.tmp 4, .tmp 5], body := c96 }

/- plan.kind -/
def r97_0 : List AInstr :=
  [⟨(some 1), none, .box 7 (.t 0)⟩, ⟨(some 2), none, .mv (.c (.int .i64 0))⟩]
def r97_1 : List AInstr :=
  [⟨(some 4), none, .fld 2 (.t 1)⟩, ⟨(some 5), none, .load true 3 (.t 4)⟩, ⟨(some 6), none, .build [.int .i64 0, .int .i64 0, .int .i64 0] []⟩, ⟨(some 7), none, .eqagg false [.i, .i, .i] (.t 5) (.t 6)⟩, ⟨(some 8), none, .mv (.t 7)⟩, ⟨(some 9), (some (8, true)), .fld 0 (.t 1)⟩, ⟨(some 10), (some (8, true)), .load false 1 (.t 9)⟩, ⟨(some 11), (some (8, true)), .bin .eql (.t 10) (.c (.int .u64 0))⟩, ⟨(some 12), none, .pick (.t 8) (.t 11) (.c (.bool false))⟩, ⟨(some 3), none, .mv (.t 12)⟩]
def r97_2 : List AInstr :=
  [⟨(some 14), none, .mv (.t 3)⟩, ⟨(some 15), none, .mv (.t 14)⟩, ⟨(some 16), (some (15, true)), .fld 1 (.t 1)⟩, ⟨(some 17), (some (15, true)), .load false 1 (.t 16)⟩, ⟨(some 18), (some (15, true)), .bin .eql (.t 17) (.c (.int .i64 0))⟩, ⟨(some 19), none, .pick (.t 15) (.t 18) (.c (.bool false))⟩, ⟨(some 20), none, .mv (.t 19)⟩, ⟨(some 21), (some (20, true)), .fld 5 (.t 1)⟩, ⟨(some 22), (some (20, true)), .load false 1 (.t 21)⟩, ⟨(some 23), (some (20, true)), .bin .eql (.t 22) (.c (.str []))⟩, ⟨(some 24), none, .pick (.t 20) (.t 23) (.c (.bool false))⟩, ⟨(some 25), none, .mv (.t 24)⟩, ⟨(some 26), (some (25, true)), .fld 6 (.t 1)⟩, ⟨(some 27), (some (25, true)), .load false 1 (.t 26)⟩, ⟨(some 28), (some (25, true)), .len .l (.t 27)⟩, ⟨(some 29), (some (25, true)), .bin .eql (.t 28) (.c (.int .i64 0))⟩, ⟨(some 30), none, .pick (.t 25) (.t 29) (.c (.bool false))⟩, ⟨(some 13), none, .mv (.t 30)⟩]
def r97_3 : List AInstr :=
  [⟨(some 2), none, .mv (.c (.int .i64 1))⟩]
def r97_4 : List AInstr :=
  [⟨(some 32), none, .fld 0 (.t 1)⟩, ⟨(some 33), none, .load false 1 (.t 32)⟩, ⟨(some 34), none, .bin .neq (.t 33) (.c (.int .u64 0))⟩, ⟨(some 35), none, .mv (.t 34)⟩, ⟨(some 36), (some (35, true)), .fld 5 (.t 1)⟩, ⟨(some 37), (some (35, true)), .load false 1 (.t 36)⟩, ⟨(some 38), (some (35, true)), .bin .eql (.t 37) (.c (.str []))⟩, ⟨(some 39), none, .pick (.t 35) (.t 38) (.c (.bool false))⟩, ⟨(some 40), none, .mv (.t 39)⟩, ⟨(some 41), (some (40, true)), .fld 6 (.t 1)⟩, ⟨(some 42), (some (40, true)), .load false 1 (.t 41)⟩, ⟨(some 43), (some (40, true)), .len .l (.t 42)⟩, ⟨(some 44), (some (40, true)), .bin .eql (.t 43) (.c (.int .i64 0))⟩, ⟨(some 45), none, .pick (.t 40) (.t 44) (.c (.bool false))⟩, ⟨(some 31), none, .mv (.t 45)⟩]
def r97_5 : List AInstr :=
  [⟨(some 2), none, .mv (.c (.int .i64 2))⟩]
def r97_6 : List AInstr :=
  [⟨(some 47), none, .mv (.t 3)⟩, ⟨(some 48), none, .mv (.t 47)⟩, ⟨(some 49), (some (48, true)), .fld 1 (.t 1)⟩, ⟨(some 50), (some (48, true)), .load false 1 (.t 49)⟩, ⟨(some 51), (some (48, true)), .bin .eql (.t 50) (.c (.int .i64 0))⟩, ⟨(some 52), none, .pick (.t 48) (.t 51) (.c (.bool false))⟩, ⟨(some 53), none, .mv (.t 52)⟩, ⟨(some 54), (some (53, true)), .fld 6 (.t 1)⟩, ⟨(some 55), (some (53, true)), .load false 1 (.t 54)⟩, ⟨(some 56), (some (53, true)), .len .l (.t 55)⟩, ⟨(some 57), (some (53, true)), .bin .eql (.t 56) (.c (.int .i64 0))⟩, ⟨(some 58), none, .pick (.t 53) (.t 57) (.c (.bool false))⟩, ⟨(some 59), none, .mv (.t 58)⟩, ⟨(some 60), (some (59, true)), .fld 5 (.t 1)⟩, ⟨(some 61), (some (59, true)), .load false 1 (.t 60)⟩, ⟨(some 62), (some (59, true)), .len .s (.t 61)⟩, ⟨(some 63), (some (59, true)), .bin .leq (.t 62) (.c (.int .i64 16))⟩, ⟨(some 64), none, .pick (.t 59) (.t 63) (.c (.bool false))⟩, ⟨(some 46), none, .mv (.t 64)⟩]
def r97_7 : List AInstr :=
  [⟨(some 2), none, .mv (.c (.int .i64 3))⟩]
def r97_8 : List AInstr :=
  [⟨(some 66), none, .mv (.t 3)⟩, ⟨(some 67), none, .mv (.t 66)⟩, ⟨(some 68), (some (67, true)), .fld 5 (.t 1)⟩, ⟨(some 69), (some (67, true)), .load false 1 (.t 68)⟩, ⟨(some 70), (some (67, true)), .bin .eql (.t 69) (.c (.str []))⟩, ⟨(some 71), none, .pick (.t 67) (.t 70) (.c (.bool false))⟩, ⟨(some 72), none, .mv (.t 71)⟩, ⟨(some 73), (some (72, true)), .fld 1 (.t 1)⟩, ⟨(some 74), (some (72, true)), .load false 1 (.t 73)⟩, ⟨(some 75), (some (72, true)), .bin .geq (.t 74) (.c (.int .i64 1))⟩, ⟨(some 76), none, .pick (.t 72) (.t 75) (.c (.bool false))⟩, ⟨(some 77), none, .mv (.t 76)⟩, ⟨(some 78), (some (77, true)), .fld 1 (.t 1)⟩, ⟨(some 79), (some (77, true)), .load false 1 (.t 78)⟩, ⟨(some 80), (some (77, true)), .bin .leq (.t 79) (.c (.int .i64 16))⟩, ⟨(some 81), none, .pick (.t 77) (.t 80) (.c (.bool false))⟩, ⟨(some 82), none, .mv (.t 81)⟩, ⟨(some 83), (some (82, true)), .fld 6 (.t 1)⟩, ⟨(some 84), (some (82, true)), .load false 1 (.t 83)⟩, ⟨(some 85), (some (82, true)), .len .l (.t 84)⟩, ⟨(some 86), (some (82, true)), .bin .geq (.t 85) (.c (.int .i64 2))⟩, ⟨(some 87), none, .pick (.t 82) (.t 86) (.c (.bool false))⟩, ⟨(some 88), none, .mv (.t 87)⟩, ⟨(some 89), (some (88, true)), .fld 6 (.t 1)⟩, ⟨(some 90), (some (88, true)), .load false 1 (.t 89)⟩, ⟨(some 91), (some (88, true)), .len .l (.t 90)⟩, ⟨(some 92), (some (88, true)), .bin .leq (.t 91) (.c (.int .i64 4))⟩, ⟨(some 93), none, .pick (.t 88) (.t 92) (.c (.bool false))⟩, ⟨(some 65), none, .mv (.t 93)⟩]
def r97_9 : List AInstr :=
  [⟨(some 2), none, .mv (.c (.int .i64 4))⟩]
def r97_10 : List AInstr :=
  [⟨(some 2), none, .mv (.c (.int .i64 0))⟩]
def c97 : ACode :=
  .seq (.rg r97_0) (.seq (.rg r97_1) (.seq (.block 0 (.seq (.rg r97_2) (.cond (.t 13) (.seq (.rg r97_3) (.ret)) (.seq (.rg r97_4) (.cond (.t 31) (.seq (.rg r97_5) (.ret)) (.seq (.rg r97_6) (.cond (.t 46) (.seq (.rg r97_7) (.ret)) (.seq (.rg r97_8) (.cond (.t 65) (.seq (.rg r97_9) (.ret)) (.skip)))))))))) (.seq (.rg r97_10) (.ret))))
def a97 : AFunc := { np := 1, nt := 94, res := [.tmp 2], body := c97 }

/- rope.Begin -/
def r98_0 : List AInstr :=
  [⟨(some 3), none, .box 7 (.t 1)⟩, ⟨(some 4), none, .mv (.c (.nilp))⟩, ⟨(some 5), none, .mv (.c (.int .i64 0))⟩]
def r98_1 : List AInstr :=
  [⟨(some 8), none, .mv (.t 0)⟩, ⟨(some 9), none, .load true 7 (.t 3)⟩, ⟨(some 10), none, .call 93 [(.t 8), (.t 9)]⟩, ⟨(some 6), none, .mv (.t 10)⟩]
def r98_2 : List AInstr :=
  [⟨(some 11), none, .mv (.t 6)⟩, ⟨(some 12), none, .bin .neq (.t 11) (.c (.int .i64 0))⟩]
def r98_3 : List AInstr :=
  [⟨(some 13), none, .mv (.t 6)⟩, ⟨(some 4), none, .mv (.c (.nilp))⟩, ⟨(some 5), none, .mv (.t 13)⟩]
def r98_4 : List AInstr :=
  [⟨(some 14), none, .load true 7 (.t 3)⟩, ⟨(some 15), none, .call 174 [(.t 14)]⟩, ⟨(some 16), none, .mv (.t 0)⟩, ⟨(some 17), none, .call 83 [(.t 16)]⟩, ⟨(some 18), none, .field false 1 1 (.t 17)⟩, ⟨(some 19), none, .bin .gtr (.t 15) (.t 18)⟩]
def r98_5 : List AInstr :=
  [⟨(some 4), none, .mv (.c (.nilp))⟩, ⟨(some 5), none, .mv (.c (.int .i64 6))⟩]
def r98_6 : List AInstr :=
  [⟨(some 20), none, .mv (.t 0)⟩, ⟨(some 21), none, .build [.nilp, .vs [] .ex, .nilp] [(0, 1, (.t 20))]⟩, ⟨(some 22), none, .box 3 (.t 21)⟩, ⟨(some 7), none, .mv (.t 22)⟩]
def r98_7 : List AInstr :=
  [⟨(some 23), none, .mv (.t 7)⟩, ⟨(some 24), none, .mv (.t 7)⟩, ⟨(some 25), none, .load true 7 (.t 3)⟩, ⟨(some 26), none, .call 175 [(.t 24), (.t 25)]⟩, ⟨(some 27), none, .nilc (.t 23)⟩, ⟨(some 28), none, .fld 2 (.t 27)⟩, ⟨none, none, .store 1 (.t 28) (.t 26)⟩]
def r98_8 : List AInstr :=
  [⟨(some 29), none, .mv (.t 7)⟩, ⟨(some 4), none, .mv (.t 29)⟩, ⟨(some 5), none, .mv (.c (.int .i64 0))⟩]
def c98 : ACode :=
  .seq (.rg r98_0) (.seq (.seq (.rg r98_1) (.seq (.rg r98_2) (.cond (.t 12) (.seq (.rg r98_3) (.ret)) (.skip)))) (.seq (.seq (.rg r98_4) (.cond (.t 19) (.seq (.rg r98_5) (.ret)) (.skip))) (.seq (.rg r98_6) (.seq (.rg r98_7) (.seq (.rg r98_8) (.ret))))))
def a98 : AFunc := { np := 2, nt := 30, res := [.tmp 4, .tmp 5], body := c98 }

/- (*rope.Pen).Step -/
def r99_0 : List AInstr :=
  [⟨(some 2), none, .mv (.c (.int .u64 0))⟩, ⟨(some 3), none, .mv (.c (.bool false))⟩, ⟨(some 4), none, .mv (.c (.int .i64 0))⟩]
def r99_1 : List AInstr :=
  [⟨(some 5), none, .mv (.t 0)⟩, ⟨(some 6), none, .eqv .ptr false (.t 5) (.c (.nilp))⟩]
def r99_2 : List AInstr :=
  [⟨(some 2), none, .mv (.c (.int .u64 0))⟩, ⟨(some 3), none, .mv (.c (.bool false))⟩, ⟨(some 4), none, .mv (.c (.int .i64 1))⟩]
def r99_3 : List AInstr :=
  [⟨(some 7), none, .mv (.t 0)⟩, ⟨(some 8), none, .nilc (.t 7)⟩, ⟨(some 9), none, .fld 1 (.t 8)⟩, ⟨(some 10), none, .load false 1 (.t 9)⟩, ⟨(some 11), none, .len .l (.t 10)⟩, ⟨(some 12), none, .bin .eql (.t 11) (.c (.int .i64 0))⟩]
def r99_4 : List AInstr :=
  [⟨(some 2), none, .mv (.c (.int .u64 0))⟩, ⟨(some 3), none, .mv (.c (.bool true))⟩, ⟨(some 4), none, .mv (.c (.int .i64 0))⟩]
def r99_5 : List AInstr :=
  [⟨(some 14), none, .mv (.t 0)⟩, ⟨(some 15), none, .nilc (.t 14)⟩, ⟨(some 16), none, .fld 1 (.t 15)⟩, ⟨(some 17), none, .load false 1 (.t 16)⟩, ⟨(some 18), none, .idxA 1 (.t 17) (.c (.int .i64 0))⟩, ⟨(some 19), none, .load false 1 (.t 18)⟩, ⟨(some 20), none, .callv (.t 19) []⟩, ⟨(some 13), none, .mv (.t 20)⟩, ⟨(some 21), none, .ext (.t 13) 0⟩, ⟨(some 22), none, .ext (.t 13) 1⟩, ⟨(some 2), none, .mv (.t 21)⟩, ⟨(some 4), none, .mv (.t 22)⟩]
def r99_6 : List AInstr :=
  [⟨(some 23), none, .mv (.t 4)⟩, ⟨(some 24), none, .bin .neq (.t 23) (.c (.int .i64 0))⟩]
def r99_7 : List AInstr :=
  [⟨(some 25), none, .mv (.t 4)⟩, ⟨(some 2), none, .mv (.c (.int .u64 0))⟩, ⟨(some 3), none, .mv (.c (.bool false))⟩, ⟨(some 4), none, .mv (.t 25)⟩]
def r99_8 : List AInstr :=
  [⟨(some 26), none, .mv (.t 0)⟩, ⟨(some 27), none, .mv (.t 0)⟩, ⟨(some 28), none, .nilc (.t 27)⟩, ⟨(some 29), none, .fld 1 (.t 28)⟩, ⟨(some 30), none, .load false 1 (.t 29)⟩, ⟨(some 31), none, .slice 1 (.t 30) (some (.c (.int .i64 1))) none none⟩, ⟨(some 32), none, .nilc (.t 26)⟩, ⟨(some 33), none, .fld 1 (.t 32)⟩, ⟨none, none, .store 1 (.t 33) (.t 31)⟩]
def r99_9 : List AInstr :=
  [⟨(some 34), none, .mv (.t 2)⟩, ⟨(some 35), none, .mv (.t 0)⟩, ⟨(some 36), none, .nilc (.t 35)⟩, ⟨(some 37), none, .fld 1 (.t 36)⟩, ⟨(some 38), none, .load false 1 (.t 37)⟩, ⟨(some 39), none, .len .l (.t 38)⟩, ⟨(some 40), none, .bin .eql (.t 39) (.c (.int .i64 0))⟩, ⟨(some 2), none, .mv (.t 34)⟩, ⟨(some 3), none, .mv (.t 40)⟩, ⟨(some 4), none, .mv (.c (.int .i64 0))⟩]
def c99 : ACode :=
  .seq (.rg r99_0) (.seq (.seq (.rg r99_1) (.cond (.t 6) (.seq (.rg r99_2) (.ret)) (.skip))) (.seq (.seq (.rg r99_3) (.cond (.t 12) (.seq (.rg r99_4) (.ret)) (.skip))) (.seq (.rg r99_5) (.seq (.seq (.rg r99_6) (.cond (.t 24) (.seq (.rg r99_7) (.ret)) (.skip))) (.seq (.rg r99_8) (.seq (.rg r99_9) (.ret)))))))
def a99 : AFunc := { np := 1, nt := 41, res := [.tmp 2, .tmp 3, .tmp 4], body := c99 }

/- (*rope.Pen).Root -/
def r100_0 : List AInstr :=
  [⟨(some 2), none, .alloc [.int .u64 0, .int .i64 0, .int .i64 0, .int .i64 0, .int .i64 0]⟩, ⟨(some 3), none, .mv (.c (.int .i64 0))⟩]
def r100_1 : List AInstr :=
  [⟨(some 4), none, .mv (.t 0)⟩, ⟨(some 5), none, .eqv .ptr false (.t 4) (.c (.nilp))⟩]
def r100_2 : List AInstr :=
  [⟨(some 6), none, .build [.int .u64 0, .int .i64 0, .int .i64 0, .int .i64 0, .int .i64 0] []⟩, ⟨none, none, .store 5 (.t 2) (.t 6)⟩, ⟨(some 3), none, .mv (.c (.int .i64 1))⟩]
def r100_3 : List AInstr :=
  [⟨(some 7), none, .mv (.t 0)⟩, ⟨(some 8), none, .nilc (.t 7)⟩, ⟨(some 9), none, .fld 1 (.t 8)⟩, ⟨(some 10), none, .load false 1 (.t 9)⟩, ⟨(some 11), none, .len .l (.t 10)⟩, ⟨(some 12), none, .bin .gtr (.t 11) (.c (.int .i64 0))⟩]
def r100_4 : List AInstr :=
  [⟨(some 13), none, .build [.int .u64 0, .int .i64 0, .int .i64 0, .int .i64 0, .int .i64 0] []⟩, ⟨none, none, .store 5 (.t 2) (.t 13)⟩, ⟨(some 3), none, .mv (.c (.int .i64 8))⟩]
def r100_5 : List AInstr :=
  [⟨(some 14), none, .mv (.t 0)⟩, ⟨(some 15), none, .nilc (.t 14)⟩, ⟨(some 16), none, .fld 2 (.t 15)⟩, ⟨(some 17), none, .load false 1 (.t 16)⟩, ⟨(some 18), none, .nilc (.t 17)⟩, ⟨(some 19), none, .load true 5 (.t 18)⟩, ⟨none, none, .store 5 (.t 2) (.t 19)⟩, ⟨(some 3), none, .mv (.c (.int .i64 0))⟩]
def c100 : ACode :=
  .seq (.rg r100_0) (.seq (.seq (.rg r100_1) (.cond (.t 5) (.seq (.rg r100_2) (.ret)) (.skip))) (.seq (.seq (.rg r100_3) (.cond (.t 12) (.seq (.rg r100_4) (.ret)) (.skip))) (.seq (.rg r100_5) (.ret))))
def a100 : AFunc := { np := 1, nt := 20, res := [.cell 2 true 5, .tmp 3], body := c100 }

/- patch.leaves -/
def r101_0 : List AInstr :=
  [⟨(some 2), none, .box 1 (.t 0)⟩, ⟨(some 3), none, .box 5 (.t 1)⟩, ⟨(some 4), none, .mv (.c (.vs [] .ex))⟩, ⟨(some 5), none, .mv (.c (.int .i64 0))⟩]
def r101_1 : List AInstr :=
  [⟨(some 10), none, .load false 1 (.t 2)⟩, ⟨(some 11), none, .load true 5 (.t 3)⟩, ⟨(some 12), none, .call 117 [(.t 10), (.t 11)]⟩, ⟨(some 6), none, .mv (.t 12)⟩]
def r101_2 : List AInstr :=
  [⟨(some 13), none, .mv (.t 6)⟩, ⟨(some 14), none, .bin .neq (.t 13) (.c (.int .i64 0))⟩]
def r101_3 : List AInstr :=
  [⟨(some 15), none, .mv (.t 6)⟩, ⟨(some 4), none, .mv (.c (.vs [] .ex))⟩, ⟨(some 5), none, .mv (.t 15)⟩]
def r101_4 : List AInstr :=
  [⟨(some 7), none, .alloc [.vs [] .ex]⟩]
def r101_5 : List AInstr :=
  [⟨(some 8), none, .alloc [.nilfn]⟩]
def r101_6 : List AInstr :=
  [⟨(some 16), none, .mkfn 176 [(.t 2), (.t 7), (.t 8)]⟩, ⟨none, none, .store 1 (.t 8) (.t 16)⟩]
def r101_7 : List AInstr :=
  [⟨(some 17), none, .fld 0 (.t 3)⟩, ⟨(some 18), none, .load false 1 (.t 17)⟩, ⟨(some 19), none, .bin .eql (.t 18) (.c (.int .u64 0))⟩]
def r101_8 : List AInstr :=
  [⟨(some 4), none, .mv (.c (.vs [] .ex))⟩, ⟨(some 5), none, .mv (.c (.int .i64 0))⟩]
def r101_9 : List AInstr :=
  [⟨(some 20), none, .load false 1 (.t 8)⟩, ⟨(some 21), none, .fld 0 (.t 3)⟩, ⟨(some 22), none, .load false 1 (.t 21)⟩, ⟨(some 23), none, .callv (.t 20) [(.t 22)]⟩, ⟨(some 9), none, .mv (.t 23)⟩]
def r101_10 : List AInstr :=
  [⟨(some 24), none, .load false 1 (.t 7)⟩, ⟨(some 25), none, .mv (.t 9)⟩, ⟨(some 4), none, .mv (.t 24)⟩, ⟨(some 5), none, .mv (.t 25)⟩]
def c101 : ACode :=
  .seq (.rg r101_0) (.seq (.seq (.rg r101_1) (.seq (.rg r101_2) (.cond (.t 14) (.seq (.rg r101_3) (.ret)) (.skip)))) (.seq (.rg r101_4) (.seq (.rg r101_5) (.seq (.rg r101_6) (.seq (.seq (.rg r101_7) (.cond (.t 19) (.seq (.rg r101_8) (.ret)) (.skip))) (.seq (.rg r101_9) (.seq (.rg r101_10) (.ret))))))))
def a101 : AFunc := { np := 2, nt := 26, res := [.tmp 4, .tmp 5], body := c101 }

/- delta.valid -/
def r102_0 : List AInstr :=
  [⟨(some 1), none, .box 3 (.t 0)⟩, ⟨(some 2), none, .mv (.c (.bool false))⟩]
def r102_1 : List AInstr :=
  [⟨(some 3), none, .fld 0 (.t 1)⟩, ⟨(some 4), none, .load false 1 (.t 3)⟩]
def r102_2 : List AInstr :=
  [⟨(some 6), none, .bin .eql (.t 4) (.c (.int .u8 1))⟩, ⟨(some 5), none, .mv (.t 6)⟩]
def r102_3 : List AInstr :=
  [⟨(some 7), none, .bin .eql (.t 4) (.c (.int .u8 3))⟩, ⟨(some 5), none, .mv (.t 7)⟩]
def r102_4 : List AInstr :=
  [⟨(some 8), none, .fld 1 (.t 1)⟩, ⟨(some 9), none, .load false 1 (.t 8)⟩, ⟨(some 10), none, .bin .geq (.t 9) (.c (.int .i64 1))⟩, ⟨(some 11), none, .mv (.t 10)⟩, ⟨(some 12), (some (11, true)), .fld 2 (.t 1)⟩, ⟨(some 13), (some (11, true)), .load false 1 (.t 12)⟩, ⟨(some 14), (some (11, true)), .bin .eql (.t 13) (.c (.str []))⟩, ⟨(some 15), none, .pick (.t 11) (.t 14) (.c (.bool false))⟩, ⟨(some 2), none, .mv (.t 15)⟩]
def r102_5 : List AInstr :=
  [⟨(some 17), none, .bin .eql (.t 4) (.c (.int .u8 2))⟩, ⟨(some 16), none, .mv (.t 17)⟩]
def r102_6 : List AInstr :=
  [⟨(some 18), none, .fld 1 (.t 1)⟩, ⟨(some 19), none, .load false 1 (.t 18)⟩, ⟨(some 20), none, .bin .eql (.t 19) (.c (.int .i64 0))⟩, ⟨(some 21), none, .mv (.t 20)⟩, ⟨(some 22), (some (21, true)), .fld 2 (.t 1)⟩, ⟨(some 23), (some (21, true)), .load false 1 (.t 22)⟩, ⟨(some 24), (some (21, true)), .bin .neq (.t 23) (.c (.str []))⟩, ⟨(some 25), none, .pick (.t 21) (.t 24) (.c (.bool false))⟩, ⟨(some 2), none, .mv (.t 25)⟩]
def r102_7 : List AInstr :=
  [⟨(some 2), none, .mv (.c (.bool false))⟩]
def c102 : ACode :=
  .seq (.rg r102_0) (.seq (.seq (.rg r102_1) (.block 0 (.seq (.seq (.rg r102_2) (.cond (.t 5) (.skip) (.rg r102_3))) (.cond (.t 5) (.seq (.rg r102_4) (.ret)) (.seq (.rg r102_5) (.cond (.t 16) (.seq (.rg r102_6) (.ret)) (.skip))))))) (.seq (.rg r102_7) (.ret)))
def a102 : AFunc := { np := 1, nt := 26, res := [.tmp 2], body := c102 }

/- delta.sizes -/
def r103_0 : List AInstr :=
  [⟨(some 1), none, .box 3 (.t 0)⟩, ⟨(some 2), none, .mv (.c (.int .i64 0))⟩, ⟨(some 3), none, .mv (.c (.int .i64 0))⟩]
def r103_1 : List AInstr :=
  [⟨(some 4), none, .fld 0 (.t 1)⟩, ⟨(some 5), none, .load false 1 (.t 4)⟩]
def r103_2 : List AInstr :=
  [⟨(some 7), none, .bin .eql (.t 5) (.c (.int .u8 1))⟩, ⟨(some 6), none, .mv (.t 7)⟩]
def r103_3 : List AInstr :=
  [⟨(some 8), none, .fld 1 (.t 1)⟩, ⟨(some 9), none, .load false 1 (.t 8)⟩, ⟨(some 10), none, .fld 1 (.t 1)⟩, ⟨(some 11), none, .load false 1 (.t 10)⟩, ⟨(some 2), none, .mv (.t 9)⟩, ⟨(some 3), none, .mv (.t 11)⟩]
def r103_4 : List AInstr :=
  [⟨(some 13), none, .bin .eql (.t 5) (.c (.int .u8 3))⟩, ⟨(some 12), none, .mv (.t 13)⟩]
def r103_5 : List AInstr :=
  [⟨(some 14), none, .fld 1 (.t 1)⟩, ⟨(some 15), none, .load false 1 (.t 14)⟩, ⟨(some 2), none, .mv (.t 15)⟩, ⟨(some 3), none, .mv (.c (.int .i64 0))⟩]
def r103_6 : List AInstr :=
  [⟨(some 16), none, .fld 2 (.t 1)⟩, ⟨(some 17), none, .load false 1 (.t 16)⟩, ⟨(some 18), none, .len .s (.t 17)⟩, ⟨(some 2), none, .mv (.c (.int .i64 0))⟩, ⟨(some 3), none, .mv (.t 18)⟩]
def c103 : ACode :=
  .seq (.rg r103_0) (.seq (.seq (.rg r103_1) (.block 0 (.seq (.rg r103_2) (.cond (.t 6) (.seq (.rg r103_3) (.ret)) (.seq (.rg r103_4) (.cond (.t 12) (.seq (.rg r103_5) (.ret)) (.skip))))))) (.seq (.rg r103_6) (.ret)))
def a103 : AFunc := { np := 1, nt := 19, res := [.tmp 2, .tmp 3], body := c103 }

/- delta.form$1 -/
def r104_0 : List AInstr :=
  [⟨(some 3), none, .call 65 [(.t 0)]⟩, ⟨(some 4), none, .bin .gtr (.t 3) (.c (.int .i64 0))⟩]
def r104_1 : List AInstr :=
  [⟨(some 5), none, .load false 1 (.t 1)⟩, ⟨(some 6), none, .call 66 [(.t 0)]⟩, ⟨(some 7), none, .build [.int .u8 0, .int .i64 0, .str []] [(0, 1, (.c (.int .u8 2))), (2, 1, (.t 6))]⟩, ⟨(some 8), none, .lit 3 [(.t 7)]⟩, ⟨(some 9), none, .app true 3 32 (.t 5) (.t 8)⟩, ⟨none, none, .store 1 (.t 1) (.t 9)⟩]
def r104_2 : List AInstr :=
  [⟨(some 10), none, .call 105 [(.t 0)]⟩]
def r104_3 : List AInstr :=
  [⟨(some 11), none, .load false 1 (.t 2)⟩, ⟨(some 12), none, .bin .gtr (.t 11) (.c (.int .i64 0))⟩]
def r104_4 : List AInstr :=
  [⟨(some 13), none, .load false 1 (.t 1)⟩, ⟨(some 14), none, .load false 1 (.t 2)⟩, ⟨(some 15), none, .build [.int .u8 0, .int .i64 0, .str []] [(0, 1, (.c (.int .u8 3))), (1, 1, (.t 14))]⟩, ⟨(some 16), none, .lit 3 [(.t 15)]⟩, ⟨(some 17), none, .app true 3 32 (.t 13) (.t 16)⟩, ⟨none, none, .store 1 (.t 1) (.t 17)⟩]
def r104_5 : List AInstr :=
  [⟨none, none, .store 1 (.t 2) (.c (.int .i64 0))⟩]
def c104 : ACode :=
  .seq (.seq (.rg r104_0) (.cond (.t 4) (.seq (.qrg r104_1 [[], [], [1], [2], [0, 3, 1], [4, 4, 0, 1, 2, 3, 4]]) (.rg r104_2)) (.skip))) (.seq (.rg r104_3) (.cond (.t 12) (.seq (.rg r104_4) (.rg r104_5)) (.skip)))
def a104 : AFunc := { np := 3, nt := 18, res := [], body := c104 }

/- (*strings.Builder).Reset -/
def r105_0 : List AInstr :=
  [⟨(some 2), none, .mv (.t 0)⟩, ⟨(some 3), none, .nilc (.t 2)⟩, ⟨(some 4), none, .fld 0 (.t 3)⟩, ⟨none, none, .store 1 (.t 4) (.c (.nilp))⟩]
def r105_1 : List AInstr :=
  [⟨(some 5), none, .mv (.t 0)⟩, ⟨(some 6), none, .nilc (.t 5)⟩, ⟨(some 7), none, .fld 1 (.t 6)⟩, ⟨none, none, .store 1 (.t 7) (.c (.vs [] .ex))⟩]
def c105 : ACode :=
  .seq (.rg r105_0) (.rg r105_1)
def a105 : AFunc := { np := 1, nt := 8, res := [], body := c105 }

/- apply.parts$1 -/
def r106_0 : List AInstr :=
  [⟨(some 3), none, .mv (.c (.str []))⟩]
def r106_1 : List AInstr :=
  [⟨(some 5), none, .load false 1 (.t 1)⟩, ⟨(some 6), none, .mv (.t 0)⟩, ⟨(some 7), none, .sslice (.t 5) none (some (.t 6))⟩, ⟨(some 4), none, .mv (.t 7)⟩]
def r106_2 : List AInstr :=
  [⟨(some 8), none, .load false 1 (.t 1)⟩, ⟨(some 9), none, .mv (.t 0)⟩, ⟨(some 10), none, .sslice (.t 8) (some (.t 9)) none⟩, ⟨none, none, .store 1 (.t 1) (.t 10)⟩]
def r106_3 : List AInstr :=
  [⟨(some 11), none, .mv (.t 4)⟩, ⟨(some 3), none, .mv (.t 11)⟩]
def c106 : ACode :=
  .seq (.rg r106_0) (.seq (.rg r106_1) (.seq (.rg r106_2) (.seq (.rg r106_3) (.ret))))
def a106 : AFunc := { np := 2, nt := 12, res := [.tmp 3], body := c106 }

/- apply.parts$2 -/
def r107_0 : List AInstr :=
  [⟨(some 3), none, .box 3 (.t 0)⟩]
def r107_1 : List AInstr :=
  [⟨(some 4), none, .load false 1 (.t 2)⟩, ⟨(some 5), none, .fld 1 (.t 3)⟩, ⟨(some 6), none, .load false 1 (.t 5)⟩, ⟨(some 7), none, .callv (.t 4) [(.t 6)]⟩, ⟨(some 8), none, .call 64 [(.t 1), (.t 7)]⟩]
def c107 : ACode :=
  .seq (.rg r107_0) (.rg r107_1)
def a107 : AFunc := { np := 3, nt := 9, res := [], body := c107 }

/- apply.parts$3 -/
def r108_0 : List AInstr :=
  [⟨(some 3), none, .box 3 (.t 0)⟩]
def r108_1 : List AInstr :=
  [⟨(some 4), none, .load false 1 (.t 2)⟩, ⟨(some 5), none, .fld 1 (.t 3)⟩, ⟨(some 6), none, .load false 1 (.t 5)⟩, ⟨(some 7), none, .callv (.t 4) [(.t 6)]⟩, ⟨(some 8), none, .call 64 [(.t 1), (.t 7)]⟩]
def c108 : ACode :=
  .seq (.rg r108_0) (.rg r108_1)
def a108 : AFunc := { np := 3, nt := 9, res := [], body := c108 }

/- apply.parts$4 -/
def r109_0 : List AInstr :=
  [⟨(some 3), none, .box 3 (.t 0)⟩]
def r109_1 : List AInstr :=
  [⟨(some 4), none, .fld 2 (.t 3)⟩, ⟨(some 5), none, .load false 1 (.t 4)⟩, ⟨(some 6), none, .call 64 [(.t 1), (.t 5)]⟩]
def r109_2 : List AInstr :=
  [⟨(some 7), none, .fld 2 (.t 3)⟩, ⟨(some 8), none, .load false 1 (.t 7)⟩, ⟨(some 9), none, .call 64 [(.t 2), (.t 8)]⟩]
def c109 : ACode :=
  .seq (.rg r109_0) (.seq (.rg r109_1) (.rg r109_2))
def a109 : AFunc := { np := 3, nt := 10, res := [], body := c109 }

/- plan.same -/
def r110_0 : List AInstr :=
  [⟨(some 7), none, .box 3 (.t 3)⟩, ⟨(some 8), none, .mv (.c (.int .i64 0))⟩]
def r110_1 : List AInstr :=
  [⟨(some 13), none, .mv (.t 0)⟩, ⟨(some 14), none, .mv (.t 1)⟩, ⟨(some 15), none, .call 173 [(.t 13), (.t 14)]⟩, ⟨(some 12), none, .mv (.t 15)⟩, ⟨(some 16), none, .ext (.t 12) 0⟩, ⟨(some 17), none, .ext (.t 12) 1⟩, ⟨(some 9), none, .alloc [.int .i64 0, .str [], .vs [] .ex]⟩, ⟨none, none, .store 3 (.t 9) (.t 16)⟩, ⟨(some 10), none, .mv (.t 17)⟩]
def r110_2 : List AInstr :=
  [⟨(some 18), none, .mv (.t 10)⟩, ⟨(some 19), none, .bin .neq (.t 18) (.c (.int .i64 0))⟩]
def r110_3 : List AInstr :=
  [⟨(some 20), none, .mv (.t 10)⟩, ⟨(some 8), none, .mv (.t 20)⟩]
def r110_4 : List AInstr :=
  [⟨(some 22), none, .load true 3 (.t 9)⟩, ⟨(some 23), none, .call 177 [(.t 22)]⟩, ⟨(some 21), none, .mv (.t 23)⟩, ⟨(some 24), none, .ext (.t 21) 0⟩, ⟨(some 25), none, .ext (.t 21) 1⟩, ⟨(some 11), none, .alloc [.int .i64 0, .int .i64 0, .int .i64 0]⟩, ⟨none, none, .store 3 (.t 11) (.t 24)⟩, ⟨(some 10), none, .mv (.t 25)⟩]
def r110_5 : List AInstr :=
  [⟨(some 26), none, .mv (.t 10)⟩, ⟨(some 27), none, .bin .neq (.t 26) (.c (.int .i64 0))⟩, ⟨(some 28), none, .mv (.t 27)⟩, ⟨(some 29), (some (28, false)), .fld 0 (.t 9)⟩, ⟨(some 30), (some (28, false)), .load false 1 (.t 29)⟩, ⟨(some 31), (some (28, false)), .mv (.t 2)⟩, ⟨(some 32), (some (28, false)), .bin .neq (.t 30) (.t 31)⟩, ⟨(some 33), none, .pick (.t 28) (.c (.bool true)) (.t 32)⟩, ⟨(some 34), none, .mv (.t 33)⟩, ⟨(some 35), (some (34, false)), .load true 3 (.t 11)⟩, ⟨(some 36), (some (34, false)), .load true 3 (.t 7)⟩, ⟨(some 37), (some (34, false)), .eqagg true [.i, .i, .i] (.t 35) (.t 36)⟩, ⟨(some 38), none, .pick (.t 34) (.c (.bool true)) (.t 37)⟩]
def r110_6 : List AInstr :=
  [⟨(some 8), none, .mv (.c (.int .i64 23))⟩]
def r110_7 : List AInstr :=
  [⟨(some 8), none, .mv (.c (.int .i64 0))⟩]
def c110 : ACode :=
  .seq (.rg r110_0) (.seq (.rg r110_1) (.seq (.seq (.rg r110_2) (.cond (.t 19) (.seq (.rg r110_3) (.ret)) (.skip))) (.seq (.rg r110_4) (.seq (.seq (.rg r110_5) (.cond (.t 38) (.seq (.rg r110_6) (.ret)) (.skip))) (.seq (.rg r110_7) (.ret))))))
def a110 : AFunc := { np := 4, nt := 39, res := [.tmp 8], body := c110 }

/- plan.Cut -/
def r111_0 : List AInstr :=
  [⟨(some 4), none, .box 7 (.t 1)⟩, ⟨(some 6), none, .alloc [.int .u64 0, .int .i64 0, .int .i64 0, .int .i64 0, .int .i64 0, .str [], .vs [] .ex]⟩, ⟨(some 7), none, .alloc [.int .u64 0, .int .i64 0, .int .i64 0, .int .i64 0, .int .i64 0, .str [], .vs [] .ex]⟩, ⟨(some 8), none, .mv (.c (.int .i64 0))⟩]
def r111_1 : List AInstr :=
  [⟨(some 12), none, .mv (.t 0)⟩, ⟨(some 13), none, .load true 7 (.t 4)⟩, ⟨(some 14), none, .call 93 [(.t 12), (.t 13)]⟩, ⟨(some 9), none, .mv (.t 14)⟩]
def r111_2 : List AInstr :=
  [⟨(some 15), none, .mv (.t 9)⟩, ⟨(some 16), none, .bin .neq (.t 15) (.c (.int .i64 0))⟩]
def r111_3 : List AInstr :=
  [⟨(some 17), none, .build [.int .u64 0, .int .i64 0, .int .i64 0, .int .i64 0, .int .i64 0, .str [], .vs [] .ex] []⟩, ⟨(some 18), none, .build [.int .u64 0, .int .i64 0, .int .i64 0, .int .i64 0, .int .i64 0, .str [], .vs [] .ex] []⟩, ⟨(some 19), none, .mv (.t 9)⟩, ⟨none, none, .store 7 (.t 6) (.t 17)⟩, ⟨none, none, .store 7 (.t 7) (.t 18)⟩, ⟨(some 8), none, .mv (.t 19)⟩]
def r111_4 : List AInstr :=
  [⟨(some 20), none, .mv (.t 2)⟩, ⟨(some 21), none, .bin .lss (.t 20) (.c (.int .i64 0))⟩, ⟨(some 22), none, .mv (.t 21)⟩, ⟨(some 23), (some (22, false)), .mv (.t 2)⟩, ⟨(some 24), (some (22, false)), .load true 7 (.t 4)⟩, ⟨(some 25), (some (22, false)), .call 168 [(.t 24)]⟩, ⟨(some 26), (some (22, false)), .bin .gtr (.t 23) (.t 25)⟩, ⟨(some 27), none, .pick (.t 22) (.c (.bool true)) (.t 26)⟩]
def r111_5 : List AInstr :=
  [⟨(some 28), none, .build [.int .u64 0, .int .i64 0, .int .i64 0, .int .i64 0, .int .i64 0, .str [], .vs [] .ex] []⟩, ⟨(some 29), none, .build [.int .u64 0, .int .i64 0, .int .i64 0, .int .i64 0, .int .i64 0, .str [], .vs [] .ex] []⟩, ⟨none, none, .store 7 (.t 6) (.t 28)⟩, ⟨none, none, .store 7 (.t 7) (.t 29)⟩, ⟨(some 8), none, .mv (.c (.int .i64 3))⟩]
def r111_6 : List AInstr :=
  [⟨(some 31), none, .mv (.t 0)⟩, ⟨(some 32), none, .load true 7 (.t 4)⟩, ⟨(some 33), none, .mv (.t 2)⟩, ⟨(some 34), none, .call 170 [(.t 31), (.t 32), (.t 33)]⟩, ⟨(some 30), none, .mv (.t 34)⟩, ⟨(some 35), none, .ext (.t 30) 0⟩, ⟨(some 36), none, .ext (.t 30) 1⟩, ⟨(some 37), none, .ext (.t 30) 2⟩, ⟨(some 10), none, .alloc [.int .u64 0, .int .i64 0, .int .i64 0, .int .i64 0, .int .i64 0, .str [], .vs [] .ex]⟩, ⟨(some 11), none, .alloc [.int .u64 0, .int .i64 0, .int .i64 0, .int .i64 0, .int .i64 0, .str [], .vs [] .ex]⟩, ⟨none, none, .store 7 (.t 10) (.t 35)⟩, ⟨none, none, .store 7 (.t 11) (.t 36)⟩, ⟨(some 8), none, .mv (.t 37)⟩]
def r111_7 : List AInstr :=
  [⟨(some 38), none, .load true 7 (.t 10)⟩, ⟨(some 39), none, .call 169 [(.t 38)]⟩, ⟨(some 40), none, .load true 7 (.t 11)⟩, ⟨(some 41), none, .call 169 [(.t 40)]⟩, ⟨(some 42), none, .mv (.t 8)⟩, ⟨none, none, .store 7 (.t 6) (.t 39)⟩, ⟨none, none, .store 7 (.t 7) (.t 41)⟩, ⟨(some 8), none, .mv (.t 42)⟩]
def c111 : ACode :=
  .seq (.rg r111_0) (.seq (.seq (.rg r111_1) (.seq (.rg r111_2) (.cond (.t 16) (.seq (.rg r111_3) (.ret)) (.skip)))) (.seq (.seq (.rg r111_4) (.cond (.t 27) (.seq (.rg r111_5) (.ret)) (.skip))) (.seq (.rg r111_6) (.seq (.qrg r111_7 [[], [0], [], [2, 1], [], [1, 3, 0, 1], [3, 5, 0, 1, 2, 3, 5], [4, 6, 0, 1, 2, 3, 4, 5, 6]]) (.ret)))))
def a111 : AFunc := { np := 3, nt := 43, res := [.cell 6 true 7, .cell 7 true 7, .tmp 8], body := c111 }

/- plan.Concat -/
def r112_0 : List AInstr :=
  [⟨(some 4), none, .box 7 (.t 1)⟩, ⟨(some 5), none, .box 7 (.t 2)⟩, ⟨(some 6), none, .alloc [.int .u64 0, .int .i64 0, .int .i64 0, .int .i64 0, .int .i64 0, .str [], .vs [] .ex]⟩, ⟨(some 7), none, .mv (.c (.int .i64 0))⟩]
def r112_1 : List AInstr :=
  [⟨(some 11), none, .mv (.t 0)⟩, ⟨(some 12), none, .load true 7 (.t 4)⟩, ⟨(some 13), none, .load true 7 (.t 5)⟩, ⟨(some 14), none, .call 178 [(.t 11), (.t 12), (.t 13), (.c (.bool true))]⟩, ⟨(some 8), none, .mv (.t 14)⟩]
def r112_2 : List AInstr :=
  [⟨(some 15), none, .mv (.t 8)⟩, ⟨(some 16), none, .bin .neq (.t 15) (.c (.int .i64 0))⟩]
def r112_3 : List AInstr :=
  [⟨(some 17), none, .build [.int .u64 0, .int .i64 0, .int .i64 0, .int .i64 0, .int .i64 0, .str [], .vs [] .ex] []⟩, ⟨(some 18), none, .mv (.t 8)⟩, ⟨none, none, .store 7 (.t 6) (.t 17)⟩, ⟨(some 7), none, .mv (.t 18)⟩]
def r112_4 : List AInstr :=
  [⟨(some 20), none, .mv (.t 0)⟩, ⟨(some 21), none, .load true 7 (.t 4)⟩, ⟨(some 22), none, .load true 7 (.t 5)⟩, ⟨(some 23), none, .call 171 [(.t 20), (.t 21), (.t 22)]⟩, ⟨(some 19), none, .mv (.t 23)⟩, ⟨(some 24), none, .ext (.t 19) 0⟩, ⟨(some 25), none, .ext (.t 19) 1⟩, ⟨(some 9), none, .alloc [.int .u64 0, .int .i64 0, .int .i64 0, .int .i64 0, .int .i64 0, .str [], .vs [] .ex]⟩, ⟨none, none, .store 7 (.t 9) (.t 24)⟩, ⟨(some 10), none, .mv (.t 25)⟩]
def r112_5 : List AInstr :=
  [⟨(some 26), none, .load true 7 (.t 9)⟩, ⟨(some 27), none, .call 169 [(.t 26)]⟩, ⟨(some 28), none, .mv (.t 10)⟩, ⟨none, none, .store 7 (.t 6) (.t 27)⟩, ⟨(some 7), none, .mv (.t 28)⟩]
def c112 : ACode :=
  .seq (.rg r112_0) (.seq (.seq (.rg r112_1) (.seq (.rg r112_2) (.cond (.t 16) (.seq (.rg r112_3) (.ret)) (.skip)))) (.seq (.rg r112_4) (.seq (.rg r112_5) (.ret))))
def a112 : AFunc := { np := 3, nt := 29, res := [.cell 6 true 7, .tmp 7], body := c112 }

/- plan.Kept -/
def r113_0 : List AInstr :=
  [⟨(some 1), none, .box 7 (.t 0)⟩, ⟨(some 2), none, .mv (.c (.vs [] .ex))⟩]
def r113_1 : List AInstr :=
  [⟨(some 3), none, .alloc [.vs [] .ex]⟩]
def r113_2 : List AInstr :=
  [⟨(some 6), none, .mkmap⟩, ⟨(some 4), none, .alloc [.nilmap]⟩, ⟨none, none, .store 1 (.t 4) (.t 6)⟩]
def r113_3 : List AInstr :=
  [⟨(some 5), none, .alloc [.nilfn]⟩]
def r113_4 : List AInstr :=
  [⟨(some 7), none, .mkfn 179 [(.t 4), (.t 3), (.t 5)]⟩, ⟨none, none, .store 1 (.t 5) (.t 7)⟩]
def r113_5 : List AInstr :=
  [⟨(some 8), none, .load false 1 (.t 5)⟩, ⟨(some 9), none, .load true 7 (.t 1)⟩, ⟨(some 10), none, .callv (.t 8) [(.t 9)]⟩]
def r113_6 : List AInstr :=
  [⟨(some 11), none, .load false 1 (.t 3)⟩, ⟨(some 2), none, .mv (.t 11)⟩]
def c113 : ACode :=
  .seq (.rg r113_0) (.seq (.rg r113_1) (.seq (.rg r113_2) (.seq (.rg r113_3) (.seq (.rg r113_4) (.seq (.rg r113_5) (.seq (.rg r113_6) (.ret)))))))
def a113 : AFunc := { np := 1, nt := 12, res := [.tmp 2], body := c113 }

/- plan.below -/
def r114_0 : List AInstr :=
  [⟨(some 8), none, .mv (.c (.int .i64 0))⟩]
def r114_1 : List AInstr :=
  [⟨(some 14), none, .mv (.t 2)⟩, ⟨(some 15), none, .mv (.t 1)⟩, ⟨(some 16), none, .lookup .i (.bool false) (.t 14) (.t 15) false⟩]
def r114_2 : List AInstr :=
  [⟨(some 8), none, .mv (.c (.int .i64 0))⟩]
def r114_3 : List AInstr :=
  [⟨(some 17), none, .mv (.t 2)⟩, ⟨(some 18), none, .mv (.t 1)⟩, ⟨none, none, .mapup .i (.t 17) (.t 18) (.c (.bool true))⟩]
def r114_4 : List AInstr :=
  [⟨(some 20), none, .mv (.t 0)⟩, ⟨(some 21), none, .mv (.t 1)⟩, ⟨(some 22), none, .call 173 [(.t 20), (.t 21)]⟩, ⟨(some 19), none, .mv (.t 22)⟩, ⟨(some 23), none, .ext (.t 19) 0⟩, ⟨(some 24), none, .ext (.t 19) 1⟩, ⟨(some 9), none, .alloc [.int .i64 0, .str [], .vs [] .ex]⟩, ⟨none, none, .store 3 (.t 9) (.t 23)⟩, ⟨(some 10), none, .mv (.t 24)⟩]
def r114_5 : List AInstr :=
  [⟨(some 25), none, .mv (.t 10)⟩, ⟨(some 26), none, .bin .neq (.t 25) (.c (.int .i64 0))⟩]
def r114_6 : List AInstr :=
  [⟨(some 27), none, .mv (.t 10)⟩, ⟨(some 8), none, .mv (.t 27)⟩]
def r114_7 : List AInstr :=
  [⟨(some 28), none, .mv (.t 3)⟩, ⟨(some 29), none, .mv (.t 1)⟩, ⟨(some 30), none, .callv (.t 28) [(.t 29)]⟩]
def r114_8 : List AInstr :=
  [⟨(some 31), none, .fld 2 (.t 9)⟩, ⟨(some 32), none, .load false 1 (.t 31)⟩, ⟨(some 33), none, .len .l (.t 32)⟩, ⟨(some 34), none, .mv (.c (.int .i64 0))⟩]
def r114_9 : List AInstr :=
  [⟨(some 35), none, .bin .lss (.t 34) (.t 33)⟩]
def r114_10 : List AInstr :=
  [⟨(some 36), none, .idxA 4 (.t 32) (.t 34)⟩, ⟨(some 37), none, .load true 4 (.t 36)⟩, ⟨(some 12), none, .alloc [.int .u64 0, .int .i64 0, .int .i64 0, .int .i64 0]⟩, ⟨none, none, .store 4 (.t 12) (.t 37)⟩]
def r114_11 : List AInstr :=
  [⟨(some 38), none, .mv (.t 0)⟩, ⟨(some 39), none, .fld 0 (.t 12)⟩, ⟨(some 40), none, .load false 1 (.t 39)⟩, ⟨(some 41), none, .mv (.t 2)⟩, ⟨(some 42), none, .mv (.t 3)⟩, ⟨(some 43), none, .call 114 [(.t 38), (.t 40), (.t 41), (.t 42)]⟩, ⟨(some 13), none, .mv (.t 43)⟩]
def r114_12 : List AInstr :=
  [⟨(some 44), none, .mv (.t 13)⟩, ⟨(some 45), none, .bin .neq (.t 44) (.c (.int .i64 0))⟩]
def r114_13 : List AInstr :=
  [⟨(some 46), none, .mv (.t 13)⟩, ⟨(some 8), none, .mv (.t 46)⟩]
def r114_14 : List AInstr :=
  [⟨(some 47), none, .bin .add (.t 34) (.c (.int .i64 1))⟩, ⟨(some 34), none, .mv (.t 47)⟩]
def l114_15 : ACode :=
  .seq (.rg r114_9) (.seq (.cond (.t 35) (.skip) (.exit 0)) (.seq (.block 1 (.seq (.rg r114_10) (.seq (.rg r114_11) (.seq (.rg r114_12) (.cond (.t 45) (.seq (.rg r114_13) (.ret)) (.skip)))))) (.rg r114_14)))
def r114_15 : List AInstr :=
  [⟨(some 8), none, .mv (.c (.int .i64 0))⟩]
def c114 : ACode :=
  .seq (.rg r114_0) (.seq (.seq (.rg r114_1) (.cond (.t 16) (.seq (.rg r114_2) (.ret)) (.skip))) (.seq (.rg r114_3) (.seq (.rg r114_4) (.seq (.seq (.rg r114_5) (.cond (.t 26) (.seq (.rg r114_6) (.ret)) (.skip))) (.seq (.rg r114_7) (.seq (.seq (.rg r114_8) (.block 0 (.loop l114_15))) (.seq (.rg r114_15) (.ret))))))))
def a114 : AFunc := { np := 4, nt := 48, res := [.tmp 8], body := c114 }

/- plan.Dropped$1 -/
def c115 : ACode :=
  .skip
def a115 : AFunc := { np := 1, nt := 2, res := [], body := c115 }

/- plan.Dropped$2 -/
def r116_0 : List AInstr :=
  [⟨(some 4), none, .load false 1 (.t 1)⟩, ⟨(some 5), none, .mv (.t 0)⟩, ⟨(some 6), none, .lookup .i (.bool false) (.t 4) (.t 5) false⟩, ⟨(some 7), none, .not (.t 6)⟩]
def r116_1 : List AInstr :=
  [⟨(some 8), none, .load false 1 (.t 2)⟩, ⟨(some 9), none, .mv (.t 0)⟩, ⟨(some 10), none, .lit 1 [(.t 9)]⟩, ⟨(some 11), none, .app false 1 8 (.t 8) (.t 10)⟩, ⟨none, none, .store 1 (.t 2) (.t 11)⟩]
def c116 : ACode :=
  .seq (.rg r116_0) (.cond (.t 7) (.rg r116_1) (.skip))
def a116 : AFunc := { np := 3, nt := 12, res := [], body := c116 }

/- rope.Check -/
def r117_0 : List AInstr :=
  [⟨(some 3), none, .box 5 (.t 1)⟩, ⟨(some 4), none, .mv (.c (.int .i64 0))⟩]
def r117_1 : List AInstr :=
  [⟨(some 11), none, .mv (.t 0)⟩, ⟨(some 12), none, .load true 5 (.t 3)⟩, ⟨(some 13), none, .call 53 [(.t 11), (.t 12)]⟩, ⟨(some 10), none, .mv (.t 13)⟩, ⟨(some 14), none, .ext (.t 10) 0⟩, ⟨(some 15), none, .ext (.t 10) 1⟩, ⟨(some 5), none, .alloc [.int .u64 0, .int .i64 0, .int .i64 0, .int .i64 0, .int .i64 0, .str [], .vs [] .ex]⟩, ⟨none, none, .store 7 (.t 5) (.t 14)⟩, ⟨(some 6), none, .mv (.t 15)⟩]
def r117_2 : List AInstr :=
  [⟨(some 16), none, .mv (.t 6)⟩, ⟨(some 17), none, .bin .neq (.t 16) (.c (.int .i64 0))⟩]
def r117_3 : List AInstr :=
  [⟨(some 18), none, .mv (.t 6)⟩, ⟨(some 4), none, .mv (.t 18)⟩]
def r117_4 : List AInstr :=
  [⟨(some 7), none, .alloc [.int .i64 0]⟩, ⟨none, none, .store 1 (.t 7) (.c (.int .i64 0))⟩]
def r117_5 : List AInstr :=
  [⟨(some 19), none, .mv (.t 0)⟩, ⟨(some 20), none, .load true 5 (.t 3)⟩, ⟨(some 21), none, .call 118 [(.t 19), (.t 20)]⟩]
def r117_6 : List AInstr :=
  [⟨(some 9), none, .alloc [.int .i64 0, .str [], .vs [] .ex, .int .i64 0]⟩, ⟨none, none, .store 4 (.t 9) (.t 23)⟩]
def x117_7 : ACode :=
  .rg r117_6
def r117_7 : List AInstr :=
  [⟨(some 24), none, .fld 3 (.t 9)⟩, ⟨(some 25), none, .load false 1 (.t 24)⟩, ⟨(some 26), none, .bin .neq (.t 25) (.c (.int .i64 0))⟩]
def r117_8 : List AInstr :=
  [⟨(some 27), none, .fld 3 (.t 9)⟩, ⟨(some 28), none, .load false 1 (.t 27)⟩, ⟨none, none, .store 1 (.t 7) (.t 28)⟩]
def y117_10 : ACode :=
  .block 1 (.seq (.rg r117_7) (.cond (.t 26) (.seq (.rg r117_8) (.exit 0)) (.skip)))
def r117_9 : List AInstr :=
  [⟨(some 29), none, .load false 1 (.t 7)⟩, ⟨(some 4), none, .mv (.t 29)⟩]
def c117 : ACode :=
  .seq (.rg r117_0) (.scope (.seq (.seq (.rg r117_1) (.seq (.rg r117_2) (.cond (.t 17) (.seq (.rg r117_3) (.ret)) (.skip)))) (.seq (.rg r117_4) (.seq (.skip) (.seq (.seq (.rg r117_5) (.block 0 (.rf (.t 21) [22, 23] x117_7 y117_10))) (.seq (.rg r117_9) (.ret)))))))
def a117 : AFunc := { np := 2, nt := 30, res := [.tmp 4], body := c117 }

/- rope.nodes -/
def r118_0 : List AInstr :=
  [⟨(some 2), none, .box 1 (.t 0)⟩, ⟨(some 3), none, .box 5 (.t 1)⟩, ⟨(some 4), none, .mv (.c (.nilfn))⟩]
def r118_1 : List AInstr :=
  [⟨(some 5), none, .mkfn 180 [(.t 2), (.t 3)]⟩, ⟨(some 4), none, .mv (.t 5)⟩]
def c118 : ACode :=
  .seq (.rg r118_0) (.seq (.rg r118_1) (.ret))
def a118 : AFunc := { np := 2, nt := 6, res := [.tmp 4], body := c118 }

/- (*strings.Builder).copyCheck -/
def r126_0 : List AInstr :=
  [⟨(some 2), none, .mv (.t 0)⟩, ⟨(some 3), none, .nilc (.t 2)⟩, ⟨(some 4), none, .fld 0 (.t 3)⟩, ⟨(some 5), none, .load false 1 (.t 4)⟩, ⟨(some 6), none, .eqv .ptr false (.t 5) (.c (.nilp))⟩]
def r126_1 : List AInstr :=
  [⟨(some 7), none, .mv (.t 0)⟩, ⟨(some 8), none, .mv (.t 0)⟩, ⟨(some 9), none, .bad⟩, ⟨(some 10), none, .call 184 [(.t 9)]⟩, ⟨(some 11), none, .bad⟩, ⟨(some 12), none, .nilc (.t 7)⟩, ⟨(some 13), none, .fld 0 (.t 12)⟩, ⟨none, none, .store 1 (.t 13) (.t 11)⟩]
def r126_2 : List AInstr :=
  [⟨(some 14), none, .mv (.t 0)⟩, ⟨(some 15), none, .nilc (.t 14)⟩, ⟨(some 16), none, .fld 0 (.t 15)⟩, ⟨(some 17), none, .load false 1 (.t 16)⟩, ⟨(some 18), none, .mv (.t 0)⟩, ⟨(some 19), none, .eqv .ptr true (.t 17) (.t 18)⟩]
def c126 : ACode :=
  .seq (.rg r126_0) (.cond (.t 6) (.rg r126_1) (.seq (.rg r126_2) (.cond (.t 19) (.bad) (.skip))))
def a126 : AFunc := { np := 1, nt := 20, res := [], body := c126 }

/- (*arena.Arena).Alloc -/
def r130_0 : List AInstr :=
  [⟨(some 3), none, .box 3 (.t 1)⟩, ⟨(some 4), none, .mv (.c (.int .u64 0))⟩, ⟨(some 5), none, .mv (.c (.int .i64 0))⟩]
def r130_1 : List AInstr :=
  [⟨(some 15), none, .mv (.t 0)⟩, ⟨(some 16), none, .eqv .ptr false (.t 15) (.c (.nilp))⟩]
def r130_2 : List AInstr :=
  [⟨(some 4), none, .mv (.c (.int .u64 0))⟩, ⟨(some 5), none, .mv (.c (.int .i64 1))⟩]
def r130_3 : List AInstr :=
  [⟨(some 17), none, .load true 3 (.t 3)⟩, ⟨(some 18), none, .call 189 [(.t 17)]⟩, ⟨(some 6), none, .mv (.t 18)⟩]
def r130_4 : List AInstr :=
  [⟨(some 19), none, .mv (.t 6)⟩, ⟨(some 20), none, .bin .neq (.t 19) (.c (.int .i64 0))⟩]
def r130_5 : List AInstr :=
  [⟨(some 21), none, .mv (.t 6)⟩, ⟨(some 4), none, .mv (.c (.int .u64 0))⟩, ⟨(some 5), none, .mv (.t 21)⟩]
def r130_6 : List AInstr :=
  [⟨(some 22), none, .fld 2 (.t 3)⟩, ⟨(some 23), none, .load false 1 (.t 22)⟩, ⟨(some 24), none, .len .l (.t 23)⟩, ⟨(some 25), none, .mv (.c (.int .i64 0))⟩]
def r130_7 : List AInstr :=
  [⟨(some 26), none, .bin .lss (.t 25) (.t 24)⟩]
def r130_8 : List AInstr :=
  [⟨(some 27), none, .idxA 4 (.t 23) (.t 25)⟩, ⟨(some 28), none, .load true 4 (.t 27)⟩, ⟨(some 8), none, .alloc [.int .u64 0, .int .i64 0, .int .i64 0, .int .i64 0]⟩, ⟨none, none, .store 4 (.t 8) (.t 28)⟩]
def r130_9 : List AInstr :=
  [⟨(some 30), none, .mv (.t 0)⟩, ⟨(some 31), none, .nilc (.t 30)⟩, ⟨(some 32), none, .fld 2 (.t 31)⟩, ⟨(some 33), none, .load false 1 (.t 32)⟩, ⟨(some 34), none, .fld 0 (.t 8)⟩, ⟨(some 35), none, .load false 1 (.t 34)⟩, ⟨(some 36), none, .lookup .i (.agg [.int .i64 0, .str [], .vs [] .ex]) (.t 33) (.t 35) true⟩, ⟨(some 29), none, .mv (.t 36)⟩, ⟨(some 37), none, .ext (.t 29) 0⟩, ⟨(some 38), none, .ext (.t 29) 1⟩, ⟨(some 9), none, .alloc [.int .i64 0, .str [], .vs [] .ex]⟩, ⟨none, none, .store 3 (.t 9) (.t 37)⟩, ⟨(some 10), none, .mv (.t 38)⟩]
def r130_10 : List AInstr :=
  [⟨(some 39), none, .mv (.t 10)⟩, ⟨(some 40), none, .not (.t 39)⟩]
def r130_11 : List AInstr :=
  [⟨(some 4), none, .mv (.c (.int .u64 0))⟩, ⟨(some 5), none, .mv (.c (.int .i64 10))⟩]
def r130_12 : List AInstr :=
  [⟨(some 42), none, .load true 3 (.t 9)⟩, ⟨(some 43), none, .call 177 [(.t 42)]⟩, ⟨(some 41), none, .mv (.t 43)⟩, ⟨(some 44), none, .ext (.t 41) 0⟩, ⟨(some 45), none, .ext (.t 41) 1⟩, ⟨(some 11), none, .alloc [.int .i64 0, .int .i64 0, .int .i64 0]⟩, ⟨none, none, .store 3 (.t 11) (.t 44)⟩, ⟨(some 12), none, .mv (.t 45)⟩]
def r130_13 : List AInstr :=
  [⟨(some 46), none, .mv (.t 12)⟩, ⟨(some 47), none, .bin .neq (.t 46) (.c (.int .i64 0))⟩, ⟨(some 48), none, .mv (.t 47)⟩, ⟨(some 49), (some (48, false)), .fld 0 (.t 9)⟩, ⟨(some 50), (some (48, false)), .load false 1 (.t 49)⟩, ⟨(some 51), (some (48, false)), .fld 0 (.t 3)⟩, ⟨(some 52), (some (48, false)), .load false 1 (.t 51)⟩, ⟨(some 53), (some (48, false)), .bin .sub (.t 52) (.c (.int .i64 1))⟩, ⟨(some 54), (some (48, false)), .bin .neq (.t 50) (.t 53)⟩, ⟨(some 55), none, .pick (.t 48) (.c (.bool true)) (.t 54)⟩, ⟨(some 56), none, .mv (.t 55)⟩, ⟨(some 57), (some (56, false)), .load true 3 (.t 11)⟩, ⟨(some 58), (some (56, false)), .fld 1 (.t 8)⟩, ⟨(some 59), (some (56, false)), .load true 3 (.t 58)⟩, ⟨(some 60), (some (56, false)), .eqagg true [.i, .i, .i] (.t 57) (.t 59)⟩, ⟨(some 61), none, .pick (.t 56) (.c (.bool true)) (.t 60)⟩]
def r130_14 : List AInstr :=
  [⟨(some 4), none, .mv (.c (.int .u64 0))⟩, ⟨(some 5), none, .mv (.c (.int .i64 23))⟩]
def r130_15 : List AInstr :=
  [⟨(some 62), none, .bin .add (.t 25) (.c (.int .i64 1))⟩, ⟨(some 25), none, .mv (.t 62)⟩]
def l130_16 : ACode :=
  .seq (.rg r130_7) (.seq (.cond (.t 26) (.skip) (.exit 0)) (.seq (.block 1 (.seq (.rg r130_8) (.seq (.qrg r130_9 [[], [0], [1], [2], [], [4], [3, 5], [6], [7], [7], [], [10, 8, 0, 1, 2, 3, 4, 5, 6, 7, 8, 10], [9, 11, 0, 1, 2, 3, 4, 5, 6, 7, 8, 9, 10, 11]]) (.seq (.seq (.rg r130_10) (.cond (.t 40) (.seq (.rg r130_11) (.ret)) (.skip))) (.seq (.rg r130_12) (.seq (.rg r130_13) (.cond (.t 61) (.seq (.rg r130_14) (.ret)) (.skip)))))))) (.rg r130_15)))
def r130_16 : List AInstr :=
  [⟨(some 64), none, .mv (.t 0)⟩, ⟨(some 65), none, .nilc (.t 64)⟩, ⟨(some 66), none, .fld 1 (.t 65)⟩, ⟨(some 67), none, .load false 1 (.t 66)⟩, ⟨(some 68), none, .call 190 [(.t 67)]⟩, ⟨(some 63), none, .mv (.t 68)⟩, ⟨(some 69), none, .ext (.t 63) 0⟩, ⟨(some 70), none, .ext (.t 63) 1⟩, ⟨(some 13), none, .mv (.t 69)⟩, ⟨(some 14), none, .mv (.t 70)⟩]
def r130_17 : List AInstr :=
  [⟨(some 71), none, .mv (.t 14)⟩, ⟨(some 72), none, .bin .neq (.t 71) (.c (.int .i64 0))⟩]
def r130_18 : List AInstr :=
  [⟨(some 73), none, .mv (.t 14)⟩, ⟨(some 4), none, .mv (.c (.int .u64 0))⟩, ⟨(some 5), none, .mv (.t 73)⟩]
def r130_19 : List AInstr :=
  [⟨(some 74), none, .fld 2 (.t 3)⟩, ⟨(some 75), none, .load false 1 (.t 74)⟩, ⟨(some 76), none, .call 191 [(.t 75)]⟩, ⟨(some 77), none, .fld 2 (.t 3)⟩, ⟨none, none, .store 1 (.t 77) (.t 76)⟩]
def r130_20 : List AInstr :=
  [⟨(some 78), none, .mv (.t 0)⟩, ⟨(some 79), none, .nilc (.t 78)⟩, ⟨(some 80), none, .fld 2 (.t 79)⟩, ⟨(some 81), none, .load false 1 (.t 80)⟩, ⟨(some 82), none, .mv (.t 13)⟩, ⟨(some 83), none, .load true 3 (.t 3)⟩, ⟨none, none, .mapup .i (.t 81) (.t 82) (.t 83)⟩]
def r130_21 : List AInstr :=
  [⟨(some 84), none, .mv (.t 0)⟩, ⟨(some 85), none, .nilc (.t 84)⟩, ⟨(some 86), none, .fld 3 (.t 85)⟩, ⟨(some 87), none, .load false 1 (.t 86)⟩, ⟨(some 88), none, .bin .add (.t 87) (.c (.int .i64 1))⟩, ⟨(some 89), none, .nilc (.t 84)⟩, ⟨(some 90), none, .fld 3 (.t 89)⟩, ⟨none, none, .store 1 (.t 90) (.t 88)⟩]
def r130_22 : List AInstr :=
  [⟨(some 91), none, .mv (.t 13)⟩, ⟨(some 4), none, .mv (.t 91)⟩, ⟨(some 5), none, .mv (.c (.int .i64 0))⟩]
def c130 : ACode :=
  .seq (.rg r130_0) (.seq (.seq (.rg r130_1) (.cond (.t 16) (.seq (.rg r130_2) (.ret)) (.skip))) (.seq (.seq (.rg r130_3) (.seq (.rg r130_4) (.cond (.t 20) (.seq (.rg r130_5) (.ret)) (.skip)))) (.seq (.seq (.rg r130_6) (.block 0 (.loop l130_16))) (.seq (.rg r130_16) (.seq (.seq (.rg r130_17) (.cond (.t 72) (.seq (.rg r130_18) (.ret)) (.skip))) (.seq (.rg r130_19) (.seq (.rg r130_20) (.seq (.rg r130_21) (.seq (.rg r130_22) (.ret))))))))))
def a130 : AFunc := { np := 2, nt := 92, res := [.tmp 4, .tmp 5], body := c130 }

/- (*freelist.List).Free -/
def r155_0 : List AInstr :=
  [⟨(some 2), none, .mv (.c (.vs [] .ex))⟩]
def r155_1 : List AInstr :=
  [⟨(some 6), none, .mv (.t 0)⟩, ⟨(some 7), none, .eqv .ptr false (.t 6) (.c (.nilp))⟩]
def r155_2 : List AInstr :=
  [⟨(some 2), none, .mv (.c (.vs [] .ex))⟩]
def r155_3 : List AInstr :=
  [⟨(some 8), none, .mv (.t 0)⟩, ⟨(some 9), none, .nilc (.t 8)⟩, ⟨(some 10), none, .fld 0 (.t 9)⟩, ⟨(some 11), none, .load false 1 (.t 10)⟩, ⟨(some 12), none, .len .l (.t 11)⟩, ⟨(some 13), none, .mksl [.int .i64 0] 8 (.t 12) (.t 12)⟩, ⟨(some 3), none, .mv (.t 13)⟩]
def r155_4 : List AInstr :=
  [⟨(some 14), none, .mv (.t 3)⟩, ⟨(some 15), none, .mv (.t 0)⟩, ⟨(some 16), none, .nilc (.t 15)⟩, ⟨(some 17), none, .fld 0 (.t 16)⟩, ⟨(some 18), none, .load false 1 (.t 17)⟩, ⟨(some 19), none, .copy 1 (.t 14) (.t 18)⟩]
def r155_5 : List AInstr :=
  [⟨(some 20), none, .mv (.t 3)⟩, ⟨(some 21), none, .len .l (.t 20)⟩, ⟨(some 22), none, .bin .sub (.t 21) (.c (.int .i64 1))⟩, ⟨(some 4), none, .mv (.c (.int .i64 0))⟩, ⟨(some 5), none, .mv (.t 22)⟩]
def r155_6 : List AInstr :=
  [⟨(some 23), none, .mv (.t 4)⟩, ⟨(some 24), none, .mv (.t 5)⟩, ⟨(some 25), none, .bin .lss (.t 23) (.t 24)⟩]
def r155_8 : List AInstr :=
  [⟨(some 30), none, .mv (.t 3)⟩, ⟨(some 31), none, .mv (.t 4)⟩, ⟨(some 32), none, .mv (.t 3)⟩, ⟨(some 33), none, .mv (.t 5)⟩, ⟨(some 34), none, .mv (.t 3)⟩, ⟨(some 35), none, .mv (.t 5)⟩, ⟨(some 36), none, .idxA 1 (.t 34) (.t 35)⟩, ⟨(some 37), none, .load false 1 (.t 36)⟩, ⟨(some 38), none, .mv (.t 3)⟩, ⟨(some 39), none, .mv (.t 4)⟩, ⟨(some 40), none, .idxA 1 (.t 38) (.t 39)⟩, ⟨(some 41), none, .load false 1 (.t 40)⟩, ⟨(some 42), none, .idxA 1 (.t 30) (.t 31)⟩, ⟨none, none, .store 1 (.t 42) (.t 37)⟩, ⟨(some 43), none, .idxA 1 (.t 32) (.t 33)⟩, ⟨none, none, .store 1 (.t 43) (.t 41)⟩]
def r155_7 : List AInstr :=
  [⟨(some 26), none, .mv (.t 4)⟩, ⟨(some 27), none, .bin .add (.t 26) (.c (.int .i64 1))⟩, ⟨(some 28), none, .mv (.t 5)⟩, ⟨(some 29), none, .bin .sub (.t 28) (.c (.int .i64 1))⟩, ⟨(some 4), none, .mv (.t 27)⟩, ⟨(some 5), none, .mv (.t 29)⟩]
def l155_9 : ACode :=
  .seq (.seq (.rg r155_6) (.cond (.t 25) (.skip) (.exit 0))) (.seq (.block 1 (.rg r155_8)) (.rg r155_7))
def r155_9 : List AInstr :=
  [⟨(some 44), none, .mv (.t 3)⟩, ⟨(some 2), none, .mv (.t 44)⟩]
def c155 : ACode :=
  .seq (.rg r155_0) (.seq (.seq (.rg r155_1) (.cond (.t 7) (.seq (.rg r155_2) (.ret)) (.skip))) (.seq (.rg r155_3) (.seq (.rg r155_4) (.seq (.seq (.rg r155_5) (.block 0 (.loop l155_9))) (.seq (.rg r155_9) (.ret))))))
def a155 : AFunc := { np := 1, nt := 45, res := [.tmp 2], body := c155 }

/- (*freelist.List).Withdrawn -/
def r156_0 : List AInstr :=
  [⟨(some 2), none, .mv (.c (.vs [] .ex))⟩]
def r156_1 : List AInstr :=
  [⟨(some 3), none, .mv (.t 0)⟩, ⟨(some 4), none, .call 213 [(.t 3), (.c (.int .u8 2))]⟩, ⟨(some 2), none, .mv (.t 4)⟩]
def c156 : ACode :=
  .seq (.rg r156_0) (.seq (.rg r156_1) (.ret))
def a156 : AFunc := { np := 1, nt := 5, res := [.tmp 2], body := c156 }

/- chunk.Chunks -/
def r165_0 : List AInstr :=
  [⟨(some 2), none, .mv (.c (.vs [] .ex))⟩]
def r165_1 : List AInstr :=
  [⟨(some 3), none, .mv (.c (.vs [] .ex))⟩]
def r165_2 : List AInstr :=
  [⟨(some 6), none, .mv (.t 0)⟩, ⟨(some 7), none, .len .s (.t 6)⟩, ⟨(some 8), none, .call 218 [(.t 7), (.c (.int .i64 16))]⟩, ⟨(some 9), none, .len .l (.t 8)⟩, ⟨(some 10), none, .mv (.c (.int .i64 0))⟩]
def r165_3 : List AInstr :=
  [⟨(some 11), none, .bin .lss (.t 10) (.t 9)⟩]
def r165_4 : List AInstr :=
  [⟨(some 12), none, .idxA 1 (.t 8) (.t 10)⟩, ⟨(some 13), none, .load false 1 (.t 12)⟩, ⟨(some 5), none, .mv (.t 13)⟩]
def r165_5 : List AInstr :=
  [⟨(some 14), none, .mv (.t 3)⟩, ⟨(some 15), none, .mv (.t 0)⟩, ⟨(some 16), none, .mv (.t 5)⟩, ⟨(some 17), none, .sslice (.t 15) none (some (.t 16))⟩, ⟨(some 18), none, .lit 1 [(.t 17)]⟩, ⟨(some 19), none, .app false 1 16 (.t 14) (.t 18)⟩, ⟨(some 3), none, .mv (.t 19)⟩]
def r165_6 : List AInstr :=
  [⟨(some 20), none, .mv (.t 0)⟩, ⟨(some 21), none, .mv (.t 5)⟩, ⟨(some 22), none, .sslice (.t 20) (some (.t 21)) none⟩, ⟨(some 0), none, .mv (.t 22)⟩]
def r165_7 : List AInstr :=
  [⟨(some 23), none, .bin .add (.t 10) (.c (.int .i64 1))⟩, ⟨(some 10), none, .mv (.t 23)⟩]
def l165_8 : ACode :=
  .seq (.rg r165_3) (.seq (.cond (.t 11) (.skip) (.exit 0)) (.seq (.block 1 (.seq (.rg r165_4) (.seq (.rg r165_5) (.rg r165_6)))) (.rg r165_7)))
def r165_8 : List AInstr :=
  [⟨(some 24), none, .mv (.t 3)⟩, ⟨(some 2), none, .mv (.t 24)⟩]
def c165 : ACode :=
  .seq (.rg r165_0) (.seq (.rg r165_1) (.seq (.seq (.rg r165_2) (.block 0 (.loop l165_8))) (.seq (.rg r165_8) (.ret))))
def a165 : AFunc := { np := 1, nt := 25, res := [.tmp 2], body := c165 }

/- chunk.Even -/
def r166_0 : List AInstr :=
  [⟨(some 4), none, .mv (.c (.vs [] .ex))⟩, ⟨(some 5), none, .mv (.c (.int .i64 0))⟩]
def r166_1 : List AInstr :=
  [⟨(some 6), none, .mv (.t 0)⟩, ⟨(some 7), none, .bin .lss (.t 6) (.c (.int .i64 0))⟩, ⟨(some 8), none, .mv (.t 7)⟩, ⟨(some 9), (some (8, false)), .mv (.t 1)⟩, ⟨(some 10), (some (8, false)), .bin .lss (.t 9) (.c (.int .i64 1))⟩, ⟨(some 11), none, .pick (.t 8) (.c (.bool true)) (.t 10)⟩]
def r166_2 : List AInstr :=
  [⟨(some 4), none, .mv (.c (.vs [] .ex))⟩, ⟨(some 5), none, .mv (.c (.int .i64 2))⟩]
def r166_3 : List AInstr :=
  [⟨(some 12), none, .mv (.t 0)⟩, ⟨(some 13), none, .bin .gtr (.t 12) (.c (.int .i64 65536))⟩]
def r166_4 : List AInstr :=
  [⟨(some 4), none, .mv (.c (.vs [] .ex))⟩, ⟨(some 5), none, .mv (.c (.int .i64 5))⟩]
def r166_5 : List AInstr :=
  [⟨(some 14), none, .mv (.t 0)⟩, ⟨(some 15), none, .mv (.t 1)⟩, ⟨(some 16), none, .call 218 [(.t 14), (.t 15)]⟩, ⟨(some 4), none, .mv (.t 16)⟩, ⟨(some 5), none, .mv (.c (.int .i64 0))⟩]
def c166 : ACode :=
  .seq (.rg r166_0) (.seq (.seq (.rg r166_1) (.cond (.t 11) (.seq (.rg r166_2) (.ret)) (.skip))) (.seq (.seq (.rg r166_3) (.cond (.t 13) (.seq (.rg r166_4) (.ret)) (.skip))) (.seq (.rg r166_5) (.ret))))
def a166 : AFunc := { np := 2, nt := 17, res := [.tmp 4, .tmp 5], body := c166 }

/- plan.group -/
def r167_0 : List AInstr :=
  [⟨(some 2), none, .alloc [.int .u64 0, .int .i64 0, .int .i64 0, .int .i64 0, .int .i64 0, .str [], .vs [] .ex]⟩]
def r167_1 : List AInstr :=
  [⟨(some 4), none, .mv (.t 0)⟩, ⟨(some 5), none, .len .l (.t 4)⟩, ⟨(some 6), none, .bin .eql (.t 5) (.c (.int .i64 0))⟩, ⟨(some 3), none, .mv (.t 6)⟩]
def r167_2 : List AInstr :=
  [⟨(some 7), none, .build [.int .u64 0, .int .i64 0, .int .i64 0, .int .i64 0, .int .i64 0, .str [], .vs [] .ex] []⟩, ⟨none, none, .store 7 (.t 2) (.t 7)⟩]
def r167_3 : List AInstr :=
  [⟨(some 9), none, .mv (.t 0)⟩, ⟨(some 10), none, .len .l (.t 9)⟩, ⟨(some 11), none, .bin .eql (.t 10) (.c (.int .i64 1))⟩, ⟨(some 8), none, .mv (.t 11)⟩]
def r167_4 : List AInstr :=
  [⟨(some 12), none, .mv (.t 0)⟩, ⟨(some 13), none, .idxA 7 (.t 12) (.c (.int .i64 0))⟩, ⟨(some 14), none, .load true 7 (.t 13)⟩, ⟨none, none, .store 7 (.t 2) (.t 14)⟩]
def r167_5 : List AInstr :=
  [⟨(some 15), none, .mv (.t 0)⟩, ⟨(some 16), none, .idxA 7 (.t 15) (.c (.int .i64 0))⟩, ⟨(some 17), none, .fld 1 (.t 16)⟩, ⟨(some 18), none, .load false 1 (.t 17)⟩, ⟨(some 19), none, .bin .add (.t 18) (.c (.int .i64 1))⟩, ⟨(some 20), none, .lit 7 []⟩, ⟨(some 21), none, .mv (.t 0)⟩, ⟨(some 22), none, .app true 7 80 (.t 20) (.t 21)⟩, ⟨(some 23), none, .build [.int .u64 0, .int .i64 0, .int .i64 0, .int .i64 0, .int .i64 0, .str [], .vs [] .ex] [(1, 1, (.t 19)), (6, 1, (.t 22))]⟩, ⟨none, none, .store 7 (.t 2) (.t 23)⟩]
def c167 : ACode :=
  .seq (.rg r167_0) (.seq (.block 0 (.seq (.rg r167_1) (.cond (.t 3) (.seq (.rg r167_2) (.ret)) (.seq (.rg r167_3) (.cond (.t 8) (.seq (.rg r167_4) (.ret)) (.skip)))))) (.seq (.qrg r167_5 [[], [0], [1], [2], [3], [], [], [5, 6], [4, 7], [8, 7, 0, 1, 2, 3, 4, 5, 6, 7, 8]]) (.ret)))
def a167 : AFunc := { np := 1, nt := 24, res := [.cell 2 true 7], body := c167 }

/- plan.bytes -/
def r168_0 : List AInstr :=
  [⟨(some 1), none, .box 7 (.t 0)⟩, ⟨(some 2), none, .mv (.c (.int .i64 0))⟩]
def r168_1 : List AInstr :=
  [⟨(some 6), none, .fld 2 (.t 1)⟩, ⟨(some 7), none, .fld 0 (.t 6)⟩, ⟨(some 8), none, .load false 1 (.t 7)⟩, ⟨(some 9), none, .fld 5 (.t 1)⟩, ⟨(some 10), none, .load false 1 (.t 9)⟩, ⟨(some 11), none, .len .s (.t 10)⟩, ⟨(some 12), none, .bin .add (.t 8) (.t 11)⟩, ⟨(some 3), none, .mv (.t 12)⟩]
def r168_2 : List AInstr :=
  [⟨(some 13), none, .fld 6 (.t 1)⟩, ⟨(some 14), none, .load false 1 (.t 13)⟩, ⟨(some 15), none, .len .l (.t 14)⟩, ⟨(some 16), none, .mv (.c (.int .i64 0))⟩]
def r168_3 : List AInstr :=
  [⟨(some 17), none, .bin .lss (.t 16) (.t 15)⟩]
def r168_4 : List AInstr :=
  [⟨(some 18), none, .idxA 7 (.t 14) (.t 16)⟩, ⟨(some 19), none, .load true 7 (.t 18)⟩, ⟨(some 5), none, .alloc [.int .u64 0, .int .i64 0, .int .i64 0, .int .i64 0, .int .i64 0, .str [], .vs [] .ex]⟩, ⟨none, none, .store 7 (.t 5) (.t 19)⟩]
def r168_5 : List AInstr :=
  [⟨(some 20), none, .mv (.t 3)⟩, ⟨(some 21), none, .load true 7 (.t 5)⟩, ⟨(some 22), none, .call 168 [(.t 21)]⟩, ⟨(some 23), none, .bin .add (.t 20) (.t 22)⟩, ⟨(some 3), none, .mv (.t 23)⟩]
def r168_6 : List AInstr :=
  [⟨(some 24), none, .bin .add (.t 16) (.c (.int .i64 1))⟩, ⟨(some 16), none, .mv (.t 24)⟩]
def l168_7 : ACode :=
  .seq (.rg r168_3) (.seq (.cond (.t 17) (.skip) (.exit 0)) (.seq (.block 1 (.seq (.rg r168_4) (.rg r168_5))) (.rg r168_6)))
def r168_7 : List AInstr :=
  [⟨(some 25), none, .mv (.t 3)⟩, ⟨(some 2), none, .mv (.t 25)⟩]
def c168 : ACode :=
  .seq (.rg r168_0) (.seq (.rg r168_1) (.seq (.seq (.rg r168_2) (.block 0 (.loop l168_7))) (.seq (.rg r168_7) (.ret))))
def a168 : AFunc := { np := 1, nt := 26, res := [.tmp 2], body := c168 }

/- plan.own -/
def r169_0 : List AInstr :=
  [⟨(some 1), none, .box 7 (.t 0)⟩, ⟨(some 2), none, .alloc [.int .u64 0, .int .i64 0, .int .i64 0, .int .i64 0, .int .i64 0, .str [], .vs [] .ex]⟩]
def r169_1 : List AInstr :=
  [⟨(some 6), none, .fld 6 (.t 1)⟩, ⟨(some 7), none, .load false 1 (.t 6)⟩, ⟨(some 8), none, .len .l (.t 7)⟩, ⟨(some 9), none, .bin .eql (.t 8) (.c (.int .i64 0))⟩]
def r169_2 : List AInstr :=
  [⟨(some 10), none, .fld 6 (.t 1)⟩, ⟨none, none, .store 1 (.t 10) (.c (.vs [] .ex))⟩]
def r169_3 : List AInstr :=
  [⟨(some 11), none, .load true 7 (.t 1)⟩, ⟨none, none, .store 7 (.t 2) (.t 11)⟩]
def r169_4 : List AInstr :=
  [⟨(some 12), none, .fld 6 (.t 1)⟩, ⟨(some 13), none, .load false 1 (.t 12)⟩, ⟨(some 14), none, .len .l (.t 13)⟩, ⟨(some 15), none, .mksl [.int .u64 0, .int .i64 0, .int .i64 0, .int .i64 0, .int .i64 0, .str [], .vs [] .ex] 80 (.t 14) (.t 14)⟩, ⟨(some 3), none, .mv (.t 15)⟩]
def r169_5 : List AInstr :=
  [⟨(some 16), none, .fld 6 (.t 1)⟩, ⟨(some 17), none, .load false 1 (.t 16)⟩, ⟨(some 18), none, .len .l (.t 17)⟩, ⟨(some 19), none, .mv (.c (.int .i64 0))⟩]
def r169_6 : List AInstr :=
  [⟨(some 20), none, .bin .lss (.t 19) (.t 18)⟩]
def r169_7 : List AInstr :=
  [⟨(some 21), none, .mv (.t 19)⟩, ⟨(some 22), none, .idxA 7 (.t 17) (.t 19)⟩, ⟨(some 23), none, .load true 7 (.t 22)⟩, ⟨(some 5), none, .alloc [.int .u64 0, .int .i64 0, .int .i64 0, .int .i64 0, .int .i64 0, .str [], .vs [] .ex]⟩, ⟨(some 4), none, .mv (.t 21)⟩, ⟨none, none, .store 7 (.t 5) (.t 23)⟩]
def r169_8 : List AInstr :=
  [⟨(some 24), none, .mv (.t 3)⟩, ⟨(some 25), none, .mv (.t 4)⟩, ⟨(some 26), none, .load true 7 (.t 5)⟩, ⟨(some 27), none, .call 169 [(.t 26)]⟩, ⟨(some 28), none, .idxA 7 (.t 24) (.t 25)⟩, ⟨none, none, .store 7 (.t 28) (.t 27)⟩]
def r169_9 : List AInstr :=
  [⟨(some 29), none, .bin .add (.t 19) (.c (.int .i64 1))⟩, ⟨(some 19), none, .mv (.t 29)⟩]
def l169_10 : ACode :=
  .seq (.rg r169_6) (.seq (.cond (.t 20) (.skip) (.exit 0)) (.seq (.block 1 (.seq (.rg r169_7) (.rg r169_8))) (.rg r169_9)))
def r169_10 : List AInstr :=
  [⟨(some 30), none, .mv (.t 3)⟩, ⟨(some 31), none, .fld 6 (.t 1)⟩, ⟨none, none, .store 1 (.t 31) (.t 30)⟩]
def r169_11 : List AInstr :=
  [⟨(some 32), none, .load true 7 (.t 1)⟩, ⟨none, none, .store 7 (.t 2) (.t 32)⟩]
def c169 : ACode :=
  .seq (.rg r169_0) (.seq (.seq (.rg r169_1) (.cond (.t 9) (.seq (.rg r169_2) (.seq (.rg r169_3) (.ret))) (.skip))) (.seq (.rg r169_4) (.seq (.seq (.rg r169_5) (.block 0 (.loop l169_10))) (.seq (.rg r169_10) (.seq (.rg r169_11) (.ret))))))
def a169 : AFunc := { np := 1, nt := 33, res := [.cell 2 true 7], body := c169 }

/- plan.cut -/
def r170_0 : List AInstr :=
  [⟨(some 4), none, .box 7 (.t 1)⟩, ⟨(some 6), none, .alloc [.int .u64 0, .int .i64 0, .int .i64 0, .int .i64 0, .int .i64 0, .str [], .vs [] .ex]⟩, ⟨(some 7), none, .alloc [.int .u64 0, .int .i64 0, .int .i64 0, .int .i64 0, .int .i64 0, .str [], .vs [] .ex]⟩, ⟨(some 8), none, .mv (.c (.int .i64 0))⟩]
def r170_1 : List AInstr :=
  [⟨(some 17), none, .mv (.t 2)⟩, ⟨(some 18), none, .bin .eql (.t 17) (.c (.int .i64 0))⟩]
def r170_2 : List AInstr :=
  [⟨(some 19), none, .build [.int .u64 0, .int .i64 0, .int .i64 0, .int .i64 0, .int .i64 0, .str [], .vs [] .ex] []⟩, ⟨(some 20), none, .load true 7 (.t 4)⟩, ⟨none, none, .store 7 (.t 6) (.t 19)⟩, ⟨none, none, .store 7 (.t 7) (.t 20)⟩, ⟨(some 8), none, .mv (.c (.int .i64 0))⟩]
def r170_3 : List AInstr :=
  [⟨(some 21), none, .mv (.t 2)⟩, ⟨(some 22), none, .load true 7 (.t 4)⟩, ⟨(some 23), none, .call 168 [(.t 22)]⟩, ⟨(some 24), none, .bin .eql (.t 21) (.t 23)⟩]
def r170_4 : List AInstr :=
  [⟨(some 25), none, .load true 7 (.t 4)⟩, ⟨(some 26), none, .build [.int .u64 0, .int .i64 0, .int .i64 0, .int .i64 0, .int .i64 0, .str [], .vs [] .ex] []⟩, ⟨none, none, .store 7 (.t 6) (.t 25)⟩, ⟨none, none, .store 7 (.t 7) (.t 26)⟩, ⟨(some 8), none, .mv (.c (.int .i64 0))⟩]
def r170_5 : List AInstr :=
  [⟨(some 27), none, .fld 1 (.t 4)⟩, ⟨(some 28), none, .load false 1 (.t 27)⟩, ⟨(some 29), none, .bin .eql (.t 28) (.c (.int .i64 0))⟩]
def r170_6 : List AInstr :=
  [⟨(some 31), none, .mv (.t 0)⟩, ⟨(some 32), none, .load true 7 (.t 4)⟩, ⟨(some 33), none, .call 95 [(.t 31), (.t 32)]⟩, ⟨(some 30), none, .mv (.t 33)⟩, ⟨(some 34), none, .ext (.t 30) 0⟩, ⟨(some 35), none, .ext (.t 30) 1⟩, ⟨(some 9), none, .mv (.t 34)⟩, ⟨(some 10), none, .mv (.t 35)⟩]
def r170_7 : List AInstr :=
  [⟨(some 36), none, .mv (.t 10)⟩, ⟨(some 37), none, .bin .neq (.t 36) (.c (.int .i64 0))⟩]
def r170_8 : List AInstr :=
  [⟨(some 38), none, .build [.int .u64 0, .int .i64 0, .int .i64 0, .int .i64 0, .int .i64 0, .str [], .vs [] .ex] []⟩, ⟨(some 39), none, .build [.int .u64 0, .int .i64 0, .int .i64 0, .int .i64 0, .int .i64 0, .str [], .vs [] .ex] []⟩, ⟨(some 40), none, .mv (.t 10)⟩, ⟨none, none, .store 7 (.t 6) (.t 38)⟩, ⟨none, none, .store 7 (.t 7) (.t 39)⟩, ⟨(some 8), none, .mv (.t 40)⟩]
def r170_9 : List AInstr :=
  [⟨(some 42), none, .mv (.t 9)⟩, ⟨(some 43), none, .mv (.t 2)⟩, ⟨(some 44), none, .call 219 [(.t 42), (.t 43)]⟩, ⟨(some 41), none, .mv (.t 44)⟩, ⟨(some 45), none, .ext (.t 41) 0⟩, ⟨(some 46), none, .ext (.t 41) 1⟩, ⟨(some 47), none, .ext (.t 41) 2⟩, ⟨(some 11), none, .mv (.t 45)⟩, ⟨(some 12), none, .mv (.t 46)⟩, ⟨(some 10), none, .mv (.t 47)⟩]
def r170_10 : List AInstr :=
  [⟨(some 48), none, .mv (.t 11)⟩, ⟨(some 49), none, .build [.int .u64 0, .int .i64 0, .int .i64 0, .int .i64 0, .int .i64 0, .str [], .vs [] .ex] [(5, 1, (.t 48))]⟩, ⟨(some 50), none, .mv (.t 12)⟩, ⟨(some 51), none, .build [.int .u64 0, .int .i64 0, .int .i64 0, .int .i64 0, .int .i64 0, .str [], .vs [] .ex] [(5, 1, (.t 50))]⟩, ⟨(some 52), none, .mv (.t 10)⟩, ⟨none, none, .store 7 (.t 6) (.t 49)⟩, ⟨none, none, .store 7 (.t 7) (.t 51)⟩, ⟨(some 8), none, .mv (.t 52)⟩]
def r170_11 : List AInstr :=
  [⟨(some 54), none, .mv (.t 0)⟩, ⟨(some 55), none, .load true 7 (.t 4)⟩, ⟨(some 56), none, .call 96 [(.t 54), (.t 55)]⟩, ⟨(some 53), none, .mv (.t 56)⟩, ⟨(some 57), none, .ext (.t 53) 0⟩, ⟨(some 58), none, .ext (.t 53) 1⟩, ⟨(some 13), none, .mv (.t 57)⟩, ⟨(some 8), none, .mv (.t 58)⟩]
def r170_12 : List AInstr :=
  [⟨(some 59), none, .mv (.t 8)⟩, ⟨(some 60), none, .bin .neq (.t 59) (.c (.int .i64 0))⟩]
def r170_13 : List AInstr :=
  [⟨(some 61), none, .build [.int .u64 0, .int .i64 0, .int .i64 0, .int .i64 0, .int .i64 0, .str [], .vs [] .ex] []⟩, ⟨(some 62), none, .build [.int .u64 0, .int .i64 0, .int .i64 0, .int .i64 0, .int .i64 0, .str [], .vs [] .ex] []⟩, ⟨(some 63), none, .mv (.t 8)⟩, ⟨none, none, .store 7 (.t 6) (.t 61)⟩, ⟨none, none, .store 7 (.t 7) (.t 62)⟩, ⟨(some 8), none, .mv (.t 63)⟩]
def r170_14 : List AInstr :=
  [⟨(some 14), none, .mv (.c (.int .i64 0))⟩]
def r170_15 : List AInstr :=
  [⟨(some 64), none, .mv (.t 14)⟩, ⟨(some 65), none, .bin .add (.t 64) (.c (.int .i64 1))⟩, ⟨(some 66), none, .mv (.t 13)⟩, ⟨(some 67), none, .len .l (.t 66)⟩, ⟨(some 68), none, .bin .lss (.t 65) (.t 67)⟩, ⟨(some 69), none, .mv (.t 68)⟩, ⟨(some 70), (some (69, true)), .mv (.t 2)⟩, ⟨(some 71), (some (69, true)), .mv (.t 13)⟩, ⟨(some 72), (some (69, true)), .mv (.t 14)⟩, ⟨(some 73), (some (69, true)), .idxA 7 (.t 71) (.t 72)⟩, ⟨(some 74), (some (69, true)), .load true 7 (.t 73)⟩, ⟨(some 75), (some (69, true)), .call 168 [(.t 74)]⟩, ⟨(some 76), (some (69, true)), .bin .geq (.t 70) (.t 75)⟩, ⟨(some 77), none, .pick (.t 69) (.t 76) (.c (.bool false))⟩]
def r170_16 : List AInstr :=
  [⟨(some 78), none, .mv (.t 2)⟩, ⟨(some 79), none, .mv (.t 13)⟩, ⟨(some 80), none, .mv (.t 14)⟩, ⟨(some 81), none, .idxA 7 (.t 79) (.t 80)⟩, ⟨(some 82), none, .load true 7 (.t 81)⟩, ⟨(some 83), none, .call 168 [(.t 82)]⟩, ⟨(some 84), none, .bin .sub (.t 78) (.t 83)⟩, ⟨(some 2), none, .mv (.t 84)⟩]
def r170_17 : List AInstr :=
  [⟨(some 85), none, .mv (.t 14)⟩, ⟨(some 86), none, .bin .add (.t 85) (.c (.int .i64 1))⟩, ⟨(some 14), none, .mv (.t 86)⟩]
def l170_18 : ACode :=
  .seq (.seq (.rg r170_15) (.cond (.t 77) (.skip) (.exit 0))) (.block 1 (.seq (.rg r170_16) (.rg r170_17)))
def r170_18 : List AInstr :=
  [⟨(some 87), none, .mv (.t 2)⟩, ⟨(some 88), none, .bin .eql (.t 87) (.c (.int .i64 0))⟩]
def r170_19 : List AInstr :=
  [⟨(some 89), none, .mv (.t 13)⟩, ⟨(some 90), none, .mv (.t 14)⟩, ⟨(some 91), none, .slice 7 (.t 89) none (some (.t 90)) none⟩, ⟨(some 92), none, .call 167 [(.t 91)]⟩, ⟨(some 93), none, .mv (.t 13)⟩, ⟨(some 94), none, .mv (.t 14)⟩, ⟨(some 95), none, .slice 7 (.t 93) (some (.t 94)) none none⟩, ⟨(some 96), none, .call 167 [(.t 95)]⟩, ⟨none, none, .store 7 (.t 6) (.t 92)⟩, ⟨none, none, .store 7 (.t 7) (.t 96)⟩, ⟨(some 8), none, .mv (.c (.int .i64 0))⟩]
def r170_20 : List AInstr :=
  [⟨(some 98), none, .mv (.t 0)⟩, ⟨(some 99), none, .mv (.t 13)⟩, ⟨(some 100), none, .mv (.t 14)⟩, ⟨(some 101), none, .idxA 7 (.t 99) (.t 100)⟩, ⟨(some 102), none, .load true 7 (.t 101)⟩, ⟨(some 103), none, .mv (.t 2)⟩, ⟨(some 104), none, .call 170 [(.t 98), (.t 102), (.t 103)]⟩, ⟨(some 97), none, .mv (.t 104)⟩, ⟨(some 105), none, .ext (.t 97) 0⟩, ⟨(some 106), none, .ext (.t 97) 1⟩, ⟨(some 107), none, .ext (.t 97) 2⟩, ⟨(some 15), none, .alloc [.int .u64 0, .int .i64 0, .int .i64 0, .int .i64 0, .int .i64 0, .str [], .vs [] .ex]⟩, ⟨(some 16), none, .alloc [.int .u64 0, .int .i64 0, .int .i64 0, .int .i64 0, .int .i64 0, .str [], .vs [] .ex]⟩, ⟨none, none, .store 7 (.t 15) (.t 105)⟩, ⟨none, none, .store 7 (.t 16) (.t 106)⟩, ⟨(some 8), none, .mv (.t 107)⟩]
def r170_21 : List AInstr :=
  [⟨(some 108), none, .mv (.t 8)⟩, ⟨(some 109), none, .bin .neq (.t 108) (.c (.int .i64 0))⟩]
def r170_22 : List AInstr :=
  [⟨(some 110), none, .build [.int .u64 0, .int .i64 0, .int .i64 0, .int .i64 0, .int .i64 0, .str [], .vs [] .ex] []⟩, ⟨(some 111), none, .build [.int .u64 0, .int .i64 0, .int .i64 0, .int .i64 0, .int .i64 0, .str [], .vs [] .ex] []⟩, ⟨(some 112), none, .mv (.t 8)⟩, ⟨none, none, .store 7 (.t 6) (.t 110)⟩, ⟨none, none, .store 7 (.t 7) (.t 111)⟩, ⟨(some 8), none, .mv (.t 112)⟩]
def r170_23 : List AInstr :=
  [⟨(some 114), none, .mv (.t 0)⟩, ⟨(some 115), none, .mv (.t 13)⟩, ⟨(some 116), none, .mv (.t 14)⟩, ⟨(some 117), none, .slice 7 (.t 115) none (some (.t 116)) none⟩, ⟨(some 118), none, .call 167 [(.t 117)]⟩, ⟨(some 119), none, .load true 7 (.t 15)⟩, ⟨(some 120), none, .call 171 [(.t 114), (.t 118), (.t 119)]⟩, ⟨(some 113), none, .mv (.t 120)⟩, ⟨(some 121), none, .ext (.t 113) 0⟩, ⟨(some 122), none, .ext (.t 113) 1⟩, ⟨none, none, .store 7 (.t 6) (.t 121)⟩, ⟨(some 8), none, .mv (.t 122)⟩]
def r170_24 : List AInstr :=
  [⟨(some 123), none, .mv (.t 8)⟩, ⟨(some 124), none, .bin .neq (.t 123) (.c (.int .i64 0))⟩]
def r170_25 : List AInstr :=
  [⟨(some 125), none, .build [.int .u64 0, .int .i64 0, .int .i64 0, .int .i64 0, .int .i64 0, .str [], .vs [] .ex] []⟩, ⟨(some 126), none, .build [.int .u64 0, .int .i64 0, .int .i64 0, .int .i64 0, .int .i64 0, .str [], .vs [] .ex] []⟩, ⟨(some 127), none, .mv (.t 8)⟩, ⟨none, none, .store 7 (.t 6) (.t 125)⟩, ⟨none, none, .store 7 (.t 7) (.t 126)⟩, ⟨(some 8), none, .mv (.t 127)⟩]
def r170_26 : List AInstr :=
  [⟨(some 129), none, .mv (.t 0)⟩, ⟨(some 130), none, .load true 7 (.t 16)⟩, ⟨(some 131), none, .mv (.t 13)⟩, ⟨(some 132), none, .mv (.t 14)⟩, ⟨(some 133), none, .bin .add (.t 132) (.c (.int .i64 1))⟩, ⟨(some 134), none, .slice 7 (.t 131) (some (.t 133)) none none⟩, ⟨(some 135), none, .call 167 [(.t 134)]⟩, ⟨(some 136), none, .call 171 [(.t 129), (.t 130), (.t 135)]⟩, ⟨(some 128), none, .mv (.t 136)⟩, ⟨(some 137), none, .ext (.t 128) 0⟩, ⟨(some 138), none, .ext (.t 128) 1⟩, ⟨none, none, .store 7 (.t 7) (.t 137)⟩, ⟨(some 8), none, .mv (.t 138)⟩]
def r170_27 : List AInstr :=
  [⟨(some 139), none, .mv (.t 8)⟩, ⟨(some 140), none, .bin .neq (.t 139) (.c (.int .i64 0))⟩]
def r170_28 : List AInstr :=
  [⟨(some 141), none, .build [.int .u64 0, .int .i64 0, .int .i64 0, .int .i64 0, .int .i64 0, .str [], .vs [] .ex] []⟩, ⟨(some 142), none, .build [.int .u64 0, .int .i64 0, .int .i64 0, .int .i64 0, .int .i64 0, .str [], .vs [] .ex] []⟩, ⟨(some 143), none, .mv (.t 8)⟩, ⟨none, none, .store 7 (.t 6) (.t 141)⟩, ⟨none, none, .store 7 (.t 7) (.t 142)⟩, ⟨(some 8), none, .mv (.t 143)⟩]
def r170_29 : List AInstr :=
  [⟨(some 144), none, .load true 7 (.t 6)⟩, ⟨(some 145), none, .load true 7 (.t 7)⟩, ⟨none, none, .store 7 (.t 6) (.t 144)⟩, ⟨none, none, .store 7 (.t 7) (.t 145)⟩, ⟨(some 8), none, .mv (.c (.int .i64 0))⟩]
def c170 : ACode :=
  .seq (.rg r170_0) (.seq (.seq (.rg r170_1) (.cond (.t 18) (.seq (.qrg r170_2 [[], [], [0, 0], [1, 2, 0, 1, 2], [3, 0, 1, 2, 3]]) (.ret)) (.skip))) (.seq (.seq (.rg r170_3) (.cond (.t 24) (.seq (.rg r170_4) (.ret)) (.skip))) (.seq (.seq (.rg r170_5) (.cond (.t 29) (.seq (.rg r170_6) (.seq (.seq (.rg r170_7) (.cond (.t 37) (.seq (.rg r170_8) (.ret)) (.skip))) (.seq (.rg r170_9) (.seq (.rg r170_10) (.ret))))) (.skip))) (.seq (.rg r170_11) (.seq (.seq (.rg r170_12) (.cond (.t 60) (.seq (.rg r170_13) (.ret)) (.skip))) (.seq (.rg r170_14) (.seq (.block 0 (.loop l170_18)) (.seq (.seq (.rg r170_18) (.cond (.t 88) (.seq (.rg r170_19) (.ret)) (.skip))) (.seq (.rg r170_20) (.seq (.seq (.rg r170_21) (.cond (.t 109) (.seq (.rg r170_22) (.ret)) (.skip))) (.seq (.seq (.qrg r170_23 [[], [], [], [1, 2], [3], [], [0, 4, 5, 4], [6], [7], [7], [8, 6, 0, 1, 2, 3, 4, 5, 6, 7, 8], [9, 10, 0, 1, 2, 3, 4, 5, 6, 7, 8, 9, 10]]) (.seq (.rg r170_24) (.cond (.t 124) (.seq (.rg r170_25) (.ret)) (.skip)))) (.seq (.seq (.qrg r170_26 [[], [], [], [], [3], [2, 4], [5], [0, 1, 6, 6], [7], [8], [8], [9, 7, 0, 1, 2, 3, 4, 5, 6, 7, 8, 9], [10, 11, 0, 1, 2, 3, 4, 5, 6, 7, 8, 9, 10, 11]]) (.seq (.rg r170_27) (.cond (.t 140) (.seq (.rg r170_28) (.ret)) (.skip)))) (.seq (.qrg r170_29 [[], [], [0, 0], [1, 2, 0, 1, 2], [3, 0, 1, 2, 3]]) (.ret))))))))))))))
def a170 : AFunc := { np := 3, nt := 146, res := [.cell 6 true 7, .cell 7 true 7, .tmp 8], body := c170 }

/- plan.concat -/
def r171_0 : List AInstr :=
  [⟨(some 4), none, .box 7 (.t 1)⟩, ⟨(some 5), none, .box 7 (.t 2)⟩, ⟨(some 6), none, .alloc [.int .u64 0, .int .i64 0, .int .i64 0, .int .i64 0, .int .i64 0, .str [], .vs [] .ex]⟩, ⟨(some 7), none, .mv (.c (.int .i64 0))⟩]
def r171_1 : List AInstr :=
  [⟨(some 10), none, .load true 7 (.t 4)⟩, ⟨(some 11), none, .call 97 [(.t 10)]⟩, ⟨(some 12), none, .bin .eql (.t 11) (.c (.int .i64 1))⟩]
def r171_2 : List AInstr :=
  [⟨(some 13), none, .load true 7 (.t 5)⟩, ⟨none, none, .store 7 (.t 6) (.t 13)⟩, ⟨(some 7), none, .mv (.c (.int .i64 0))⟩]
def r171_3 : List AInstr :=
  [⟨(some 14), none, .load true 7 (.t 5)⟩, ⟨(some 15), none, .call 97 [(.t 14)]⟩, ⟨(some 16), none, .bin .eql (.t 15) (.c (.int .i64 1))⟩]
def r171_4 : List AInstr :=
  [⟨(some 17), none, .load true 7 (.t 4)⟩, ⟨none, none, .store 7 (.t 6) (.t 17)⟩, ⟨(some 7), none, .mv (.c (.int .i64 0))⟩]
def r171_5 : List AInstr :=
  [⟨(some 19), none, .mv (.t 0)⟩, ⟨(some 20), none, .load true 7 (.t 4)⟩, ⟨(some 21), none, .load true 7 (.t 5)⟩, ⟨(some 22), none, .call 220 [(.t 19), (.t 20), (.t 21)]⟩, ⟨(some 18), none, .mv (.t 22)⟩, ⟨(some 23), none, .ext (.t 18) 0⟩, ⟨(some 24), none, .ext (.t 18) 1⟩, ⟨(some 8), none, .mv (.t 23)⟩, ⟨(some 9), none, .mv (.t 24)⟩]
def r171_6 : List AInstr :=
  [⟨(some 25), none, .mv (.t 9)⟩, ⟨(some 26), none, .bin .neq (.t 25) (.c (.int .i64 0))⟩]
def r171_7 : List AInstr :=
  [⟨(some 27), none, .build [.int .u64 0, .int .i64 0, .int .i64 0, .int .i64 0, .int .i64 0, .str [], .vs [] .ex] []⟩, ⟨(some 28), none, .mv (.t 9)⟩, ⟨none, none, .store 7 (.t 6) (.t 27)⟩, ⟨(some 7), none, .mv (.t 28)⟩]
def r171_8 : List AInstr :=
  [⟨(some 29), none, .mv (.t 8)⟩, ⟨(some 30), none, .call 167 [(.t 29)]⟩, ⟨none, none, .store 7 (.t 6) (.t 30)⟩, ⟨(some 7), none, .mv (.c (.int .i64 0))⟩]
def c171 : ACode :=
  .seq (.rg r171_0) (.seq (.seq (.rg r171_1) (.cond (.t 12) (.seq (.rg r171_2) (.ret)) (.skip))) (.seq (.seq (.rg r171_3) (.cond (.t 16) (.seq (.rg r171_4) (.ret)) (.skip))) (.seq (.rg r171_5) (.seq (.seq (.rg r171_6) (.cond (.t 26) (.seq (.rg r171_7) (.ret)) (.skip))) (.seq (.rg r171_8) (.ret))))))
def a171 : AFunc := { np := 3, nt := 31, res := [.cell 6 true 7, .tmp 7], body := c171 }

/- plan.check -/
def r172_0 : List AInstr :=
  [⟨(some 5), none, .box 7 (.t 1)⟩, ⟨(some 8), none, .mv (.c (.int .i64 0))⟩]
def r172_1 : List AInstr :=
  [⟨(some 14), none, .load true 7 (.t 5)⟩, ⟨(some 15), none, .call 97 [(.t 14)]⟩, ⟨(some 9), none, .mv (.t 15)⟩]
def r172_2 : List AInstr :=
  [⟨(some 16), none, .mv (.t 9)⟩, ⟨(some 17), none, .bin .eql (.t 16) (.c (.int .i64 0))⟩, ⟨(some 18), none, .mv (.t 17)⟩, ⟨(some 19), (some (18, false)), .mv (.t 9)⟩, ⟨(some 20), (some (18, false)), .bin .eql (.t 19) (.c (.int .i64 1))⟩, ⟨(some 21), none, .pick (.t 18) (.c (.bool true)) (.t 20)⟩, ⟨(some 22), none, .mv (.t 21)⟩, ⟨(some 23), (some (22, false)), .mv (.t 2)⟩, ⟨(some 24), (some (22, false)), .mv (.t 23)⟩, ⟨(some 25), (some (24, true)), .fld 1 (.t 5)⟩, ⟨(some 26), (some (24, true)), .load false 1 (.t 25)⟩, ⟨(some 27), (some (24, true)), .mv (.t 3)⟩, ⟨(some 28), (some (24, true)), .bin .neq (.t 26) (.t 27)⟩, ⟨(some 29), (some (22, false)), .pick (.t 24) (.t 28) (.c (.bool false))⟩, ⟨(some 30), none, .pick (.t 22) (.c (.bool true)) (.t 29)⟩]
def r172_3 : List AInstr :=
  [⟨(some 8), none, .mv (.c (.int .i64 23))⟩]
def r172_4 : List AInstr :=
  [⟨(some 31), none, .mv (.t 9)⟩, ⟨(some 32), none, .bin .eql (.t 31) (.c (.int .i64 2))⟩]
def r172_5 : List AInstr :=
  [⟨(some 33), none, .mv (.t 0)⟩, ⟨(some 34), none, .fld 0 (.t 5)⟩, ⟨(some 35), none, .load false 1 (.t 34)⟩, ⟨(some 36), none, .fld 1 (.t 5)⟩, ⟨(some 37), none, .load false 1 (.t 36)⟩, ⟨(some 38), none, .fld 2 (.t 5)⟩, ⟨(some 39), none, .load true 3 (.t 38)⟩, ⟨(some 40), none, .call 110 [(.t 33), (.t 35), (.t 37), (.t 39)]⟩, ⟨(some 10), none, .mv (.t 40)⟩]
def r172_6 : List AInstr :=
  [⟨(some 41), none, .mv (.t 10)⟩, ⟨(some 42), none, .bin .neq (.t 41) (.c (.int .i64 0))⟩]
def r172_7 : List AInstr :=
  [⟨(some 43), none, .mv (.t 10)⟩, ⟨(some 8), none, .mv (.t 43)⟩]
def r172_8 : List AInstr :=
  [⟨(some 44), none, .mv (.t 2)⟩, ⟨(some 45), none, .mv (.t 44)⟩, ⟨(some 46), (some (45, true)), .fld 1 (.t 5)⟩, ⟨(some 47), (some (45, true)), .load false 1 (.t 46)⟩, ⟨(some 48), (some (45, true)), .bin .eql (.t 47) (.c (.int .i64 0))⟩, ⟨(some 49), none, .pick (.t 45) (.t 48) (.c (.bool false))⟩, ⟨(some 50), none, .mv (.t 49)⟩, ⟨(some 51), (some (50, true)), .load true 7 (.t 5)⟩, ⟨(some 52), (some (50, true)), .call 168 [(.t 51)]⟩, ⟨(some 53), (some (50, true)), .bin .lss (.t 52) (.c (.int .i64 8))⟩, ⟨(some 54), none, .pick (.t 50) (.t 53) (.c (.bool false))⟩]
def r172_9 : List AInstr :=
  [⟨(some 8), none, .mv (.c (.int .i64 23))⟩]
def r172_10 : List AInstr :=
  [⟨(some 55), none, .fld 6 (.t 5)⟩, ⟨(some 56), none, .load false 1 (.t 55)⟩, ⟨(some 57), none, .len .l (.t 56)⟩, ⟨(some 58), none, .mv (.c (.int .i64 0))⟩]
def r172_11 : List AInstr :=
  [⟨(some 59), none, .bin .lss (.t 58) (.t 57)⟩]
def r172_12 : List AInstr :=
  [⟨(some 60), none, .idxA 7 (.t 56) (.t 58)⟩, ⟨(some 61), none, .load true 7 (.t 60)⟩, ⟨(some 12), none, .alloc [.int .u64 0, .int .i64 0, .int .i64 0, .int .i64 0, .int .i64 0, .str [], .vs [] .ex]⟩, ⟨none, none, .store 7 (.t 12) (.t 61)⟩]
def r172_13 : List AInstr :=
  [⟨(some 62), none, .mv (.t 0)⟩, ⟨(some 63), none, .load true 7 (.t 12)⟩, ⟨(some 64), none, .fld 1 (.t 5)⟩, ⟨(some 65), none, .load false 1 (.t 64)⟩, ⟨(some 66), none, .bin .sub (.t 65) (.c (.int .i64 1))⟩, ⟨(some 67), none, .call 172 [(.t 62), (.t 63), (.c (.bool true)), (.t 66)]⟩, ⟨(some 13), none, .mv (.t 67)⟩]
def r172_14 : List AInstr :=
  [⟨(some 68), none, .mv (.t 13)⟩, ⟨(some 69), none, .bin .neq (.t 68) (.c (.int .i64 0))⟩]
def r172_15 : List AInstr :=
  [⟨(some 70), none, .mv (.t 13)⟩, ⟨(some 8), none, .mv (.t 70)⟩]
def r172_16 : List AInstr :=
  [⟨(some 71), none, .bin .add (.t 58) (.c (.int .i64 1))⟩, ⟨(some 58), none, .mv (.t 71)⟩]
def l172_17 : ACode :=
  .seq (.rg r172_11) (.seq (.cond (.t 59) (.skip) (.exit 0)) (.seq (.block 1 (.seq (.rg r172_12) (.seq (.rg r172_13) (.seq (.rg r172_14) (.cond (.t 69) (.seq (.rg r172_15) (.ret)) (.skip)))))) (.rg r172_16)))
def r172_17 : List AInstr :=
  [⟨(some 8), none, .mv (.c (.int .i64 0))⟩]
def c172 : ACode :=
  .seq (.rg r172_0) (.seq (.rg r172_1) (.seq (.seq (.rg r172_2) (.cond (.t 30) (.seq (.rg r172_3) (.ret)) (.skip))) (.seq (.seq (.rg r172_4) (.cond (.t 32) (.seq (.rg r172_5) (.seq (.rg r172_6) (.cond (.t 42) (.seq (.rg r172_7) (.ret)) (.skip)))) (.skip))) (.seq (.seq (.rg r172_8) (.cond (.t 54) (.seq (.rg r172_9) (.ret)) (.skip))) (.seq (.seq (.rg r172_10) (.block 0 (.loop l172_17))) (.seq (.rg r172_17) (.ret)))))))
def a172 : AFunc := { np := 4, nt := 72, res := [.tmp 8], body := c172 }

/- (*arena.Arena).Get -/
def r173_0 : List AInstr :=
  [⟨(some 4), none, .alloc [.int .i64 0, .str [], .vs [] .ex]⟩, ⟨(some 5), none, .mv (.c (.int .i64 0))⟩]
def r173_1 : List AInstr :=
  [⟨(some 8), none, .mv (.t 0)⟩, ⟨(some 9), none, .eqv .ptr false (.t 8) (.c (.nilp))⟩]
def r173_2 : List AInstr :=
  [⟨(some 10), none, .build [.int .i64 0, .str [], .vs [] .ex] []⟩, ⟨none, none, .store 3 (.t 4) (.t 10)⟩, ⟨(some 5), none, .mv (.c (.int .i64 1))⟩]
def r173_3 : List AInstr :=
  [⟨(some 12), none, .mv (.t 0)⟩, ⟨(some 13), none, .nilc (.t 12)⟩, ⟨(some 14), none, .fld 2 (.t 13)⟩, ⟨(some 15), none, .load false 1 (.t 14)⟩, ⟨(some 16), none, .mv (.t 1)⟩, ⟨(some 17), none, .lookup .i (.agg [.int .i64 0, .str [], .vs [] .ex]) (.t 15) (.t 16) true⟩, ⟨(some 11), none, .mv (.t 17)⟩, ⟨(some 18), none, .ext (.t 11) 0⟩, ⟨(some 19), none, .ext (.t 11) 1⟩, ⟨(some 6), none, .alloc [.int .i64 0, .str [], .vs [] .ex]⟩, ⟨none, none, .store 3 (.t 6) (.t 18)⟩, ⟨(some 7), none, .mv (.t 19)⟩]
def r173_4 : List AInstr :=
  [⟨(some 20), none, .mv (.t 7)⟩, ⟨(some 21), none, .not (.t 20)⟩]
def r173_5 : List AInstr :=
  [⟨(some 22), none, .mv (.t 0)⟩, ⟨(some 23), none, .nilc (.t 22)⟩, ⟨(some 24), none, .fld 5 (.t 23)⟩, ⟨(some 25), none, .load false 1 (.t 24)⟩, ⟨(some 26), none, .bin .add (.t 25) (.c (.int .i64 1))⟩, ⟨(some 27), none, .nilc (.t 22)⟩, ⟨(some 28), none, .fld 5 (.t 27)⟩, ⟨none, none, .store 1 (.t 28) (.t 26)⟩]
def r173_6 : List AInstr :=
  [⟨(some 29), none, .build [.int .i64 0, .str [], .vs [] .ex] []⟩, ⟨none, none, .store 3 (.t 4) (.t 29)⟩, ⟨(some 5), none, .mv (.c (.int .i64 10))⟩]
def r173_7 : List AInstr :=
  [⟨(some 30), none, .fld 2 (.t 6)⟩, ⟨(some 31), none, .load false 1 (.t 30)⟩, ⟨(some 32), none, .call 191 [(.t 31)]⟩, ⟨(some 33), none, .fld 2 (.t 6)⟩, ⟨none, none, .store 1 (.t 33) (.t 32)⟩]
def r173_8 : List AInstr :=
  [⟨(some 34), none, .load true 3 (.t 6)⟩, ⟨none, none, .store 3 (.t 4) (.t 34)⟩, ⟨(some 5), none, .mv (.c (.int .i64 0))⟩]
def c173 : ACode :=
  .seq (.rg r173_0) (.seq (.seq (.rg r173_1) (.cond (.t 9) (.seq (.rg r173_2) (.ret)) (.skip))) (.seq (.rg r173_3) (.seq (.seq (.rg r173_4) (.cond (.t 21) (.seq (.rg r173_5) (.seq (.rg r173_6) (.ret))) (.skip))) (.seq (.rg r173_7) (.seq (.rg r173_8) (.ret))))))
def a173 : AFunc := { np := 2, nt := 35, res := [.cell 4 true 3, .tmp 5], body := c173 }

/- plan.New -/
def r174_0 : List AInstr :=
  [⟨(some 1), none, .box 7 (.t 0)⟩, ⟨(some 2), none, .mv (.c (.int .i64 0))⟩]
def r174_1 : List AInstr :=
  [⟨(some 3), none, .mv (.c (.int .i64 0))⟩]
def r174_2 : List AInstr :=
  [⟨(some 7), none, .load true 7 (.t 1)⟩, ⟨(some 8), none, .call 97 [(.t 7)]⟩, ⟨(some 4), none, .mv (.t 8)⟩]
def r174_3 : List AInstr :=
  [⟨(some 9), none, .mv (.t 4)⟩, ⟨(some 10), none, .bin .eql (.t 9) (.c (.int .i64 3))⟩, ⟨(some 11), none, .mv (.t 10)⟩, ⟨(some 12), (some (11, false)), .mv (.t 4)⟩, ⟨(some 13), (some (11, false)), .bin .eql (.t 12) (.c (.int .i64 4))⟩, ⟨(some 14), none, .pick (.t 11) (.c (.bool true)) (.t 13)⟩]
def r174_4 : List AInstr :=
  [⟨(some 3), none, .mv (.c (.int .i64 1))⟩]
def r174_5 : List AInstr :=
  [⟨(some 15), none, .fld 6 (.t 1)⟩, ⟨(some 16), none, .load false 1 (.t 15)⟩, ⟨(some 17), none, .len .l (.t 16)⟩, ⟨(some 18), none, .mv (.c (.int .i64 0))⟩]
def r174_6 : List AInstr :=
  [⟨(some 19), none, .bin .lss (.t 18) (.t 17)⟩]
def r174_7 : List AInstr :=
  [⟨(some 20), none, .idxA 7 (.t 16) (.t 18)⟩, ⟨(some 21), none, .load true 7 (.t 20)⟩, ⟨(some 6), none, .alloc [.int .u64 0, .int .i64 0, .int .i64 0, .int .i64 0, .int .i64 0, .str [], .vs [] .ex]⟩, ⟨none, none, .store 7 (.t 6) (.t 21)⟩]
def r174_8 : List AInstr :=
  [⟨(some 22), none, .mv (.t 3)⟩, ⟨(some 23), none, .load true 7 (.t 6)⟩, ⟨(some 24), none, .call 174 [(.t 23)]⟩, ⟨(some 25), none, .bin .add (.t 22) (.t 24)⟩, ⟨(some 3), none, .mv (.t 25)⟩]
def r174_9 : List AInstr :=
  [⟨(some 26), none, .bin .add (.t 18) (.c (.int .i64 1))⟩, ⟨(some 18), none, .mv (.t 26)⟩]
def l174_10 : ACode :=
  .seq (.rg r174_6) (.seq (.cond (.t 19) (.skip) (.exit 0)) (.seq (.block 1 (.seq (.rg r174_7) (.rg r174_8))) (.rg r174_9)))
def r174_10 : List AInstr :=
  [⟨(some 27), none, .mv (.t 3)⟩, ⟨(some 2), none, .mv (.t 27)⟩]
def c174 : ACode :=
  .seq (.rg r174_0) (.seq (.rg r174_1) (.seq (.seq (.rg r174_2) (.seq (.rg r174_3) (.cond (.t 14) (.rg r174_4) (.skip)))) (.seq (.seq (.rg r174_5) (.block 0 (.loop l174_10))) (.seq (.rg r174_10) (.ret)))))
def a174 : AFunc := { np := 1, nt := 28, res := [.tmp 2], body := c174 }

/- (*rope.Pen).add -/
def r175_0 : List AInstr :=
  [⟨(some 3), none, .box 7 (.t 1)⟩, ⟨(some 4), none, .mv (.c (.nilp))⟩]
def r175_1 : List AInstr :=
  [⟨(some 11), none, .fld 1 (.t 3)⟩, ⟨(some 12), none, .load false 1 (.t 11)⟩, ⟨(some 13), none, .fld 2 (.t 3)⟩, ⟨(some 14), none, .load true 3 (.t 13)⟩, ⟨(some 15), none, .fld 0 (.t 3)⟩, ⟨(some 16), none, .load false 1 (.t 15)⟩, ⟨(some 17), none, .build [.int .u64 0, .int .i64 0, .int .i64 0, .int .i64 0, .int .i64 0] [(1, 1, (.t 12)), (2, 3, (.t 14)), (0, 1, (.t 16))]⟩, ⟨(some 18), none, .box 5 (.t 17)⟩, ⟨(some 5), none, .mv (.t 18)⟩]
def r175_13 : List AInstr :=
  [⟨(some 81), none, .fld 0 (.t 3)⟩, ⟨(some 82), none, .load false 1 (.t 81)⟩, ⟨(some 83), none, .bin .neq (.t 82) (.c (.int .u64 0))⟩, ⟨(some 84), none, .mv (.t 83)⟩, ⟨(some 85), (some (84, false)), .fld 5 (.t 3)⟩, ⟨(some 86), (some (84, false)), .load false 1 (.t 85)⟩, ⟨(some 87), (some (84, false)), .bin .eql (.t 86) (.c (.str []))⟩, ⟨(some 88), (some (84, false)), .mv (.t 87)⟩, ⟨(some 89), (some (88, true)), .fld 6 (.t 3)⟩, ⟨(some 90), (some (88, true)), .load false 1 (.t 89)⟩, ⟨(some 91), (some (88, true)), .len .l (.t 90)⟩, ⟨(some 92), (some (88, true)), .bin .eql (.t 91) (.c (.int .i64 0))⟩, ⟨(some 93), (some (84, false)), .pick (.t 88) (.t 92) (.c (.bool false))⟩, ⟨(some 94), none, .pick (.t 84) (.c (.bool true)) (.t 93)⟩, ⟨(some 80), none, .mv (.t 94)⟩]
def r175_14 : List AInstr :=
  [⟨(some 96), none, .fld 1 (.t 3)⟩, ⟨(some 97), none, .load false 1 (.t 96)⟩, ⟨(some 98), none, .bin .eql (.t 97) (.c (.int .i64 0))⟩, ⟨(some 95), none, .mv (.t 98)⟩]
def r175_15 : List AInstr :=
  [⟨(some 99), none, .fld 5 (.t 3)⟩, ⟨(some 100), none, .load false 1 (.t 99)⟩, ⟨(some 101), none, .build [.int .i64 0, .str [], .vs [] .ex] [(1, 1, (.t 100))]⟩, ⟨(some 6), none, .alloc [.int .i64 0, .str [], .vs [] .ex]⟩, ⟨none, none, .store 3 (.t 6) (.t 101)⟩]
def r175_16 : List AInstr :=
  [⟨(some 103), none, .mv (.t 5)⟩, ⟨(some 104), none, .load true 3 (.t 6)⟩, ⟨(some 105), none, .call 177 [(.t 104)]⟩, ⟨(some 102), none, .mv (.t 105)⟩, ⟨(some 106), none, .ext (.t 102) 0⟩, ⟨(some 107), none, .ext (.t 102) 1⟩, ⟨(some 108), none, .nilc (.t 103)⟩, ⟨(some 109), none, .fld 2 (.t 108)⟩, ⟨none, none, .store 3 (.t 109) (.t 106)⟩]
def r175_17 : List AInstr :=
  [⟨(some 110), none, .mv (.t 0)⟩, ⟨(some 111), none, .mv (.t 5)⟩, ⟨(some 112), none, .mkfn 222 [(.t 6)]⟩, ⟨(some 113), none, .call 221 [(.t 110), (.t 111), (.t 112)]⟩]
def r175_2 : List AInstr :=
  [⟨(some 7), none, .alloc [.vs [] .ex]⟩]
def r175_3 : List AInstr :=
  [⟨(some 19), none, .fld 6 (.t 3)⟩, ⟨(some 20), none, .load false 1 (.t 19)⟩, ⟨(some 21), none, .len .l (.t 20)⟩, ⟨(some 22), none, .mv (.c (.int .i64 0))⟩]
def r175_4 : List AInstr :=
  [⟨(some 23), none, .bin .lss (.t 22) (.t 21)⟩]
def r175_5 : List AInstr :=
  [⟨(some 24), none, .idxA 7 (.t 20) (.t 22)⟩, ⟨(some 25), none, .load true 7 (.t 24)⟩, ⟨(some 9), none, .alloc [.int .u64 0, .int .i64 0, .int .i64 0, .int .i64 0, .int .i64 0, .str [], .vs [] .ex]⟩, ⟨none, none, .store 7 (.t 9) (.t 25)⟩]
def r175_6 : List AInstr :=
  [⟨(some 26), none, .mv (.t 0)⟩, ⟨(some 27), none, .load true 7 (.t 9)⟩, ⟨(some 28), none, .call 175 [(.t 26), (.t 27)]⟩, ⟨(some 10), none, .mv (.t 28)⟩]
def r175_7 : List AInstr :=
  [⟨(some 29), none, .load false 1 (.t 7)⟩, ⟨(some 30), none, .mv (.t 10)⟩, ⟨(some 31), none, .lit 1 [(.t 30)]⟩, ⟨(some 32), none, .app false 1 8 (.t 29) (.t 31)⟩, ⟨none, none, .store 1 (.t 7) (.t 32)⟩]
def r175_8 : List AInstr :=
  [⟨(some 33), none, .mv (.t 5)⟩, ⟨(some 34), none, .nilc (.t 33)⟩, ⟨(some 35), none, .fld 2 (.t 34)⟩, ⟨(some 36), none, .fld 0 (.t 35)⟩, ⟨(some 37), none, .load false 1 (.t 36)⟩, ⟨(some 38), none, .mv (.t 10)⟩, ⟨(some 39), none, .nilc (.t 38)⟩, ⟨(some 40), none, .fld 2 (.t 39)⟩, ⟨(some 41), none, .fld 0 (.t 40)⟩, ⟨(some 42), none, .load false 1 (.t 41)⟩, ⟨(some 43), none, .bin .add (.t 37) (.t 42)⟩, ⟨(some 44), none, .nilc (.t 33)⟩, ⟨(some 45), none, .fld 2 (.t 44)⟩, ⟨(some 46), none, .fld 0 (.t 45)⟩, ⟨none, none, .store 1 (.t 46) (.t 43)⟩]
def r175_9 : List AInstr :=
  [⟨(some 47), none, .mv (.t 5)⟩, ⟨(some 48), none, .nilc (.t 47)⟩, ⟨(some 49), none, .fld 2 (.t 48)⟩, ⟨(some 50), none, .fld 1 (.t 49)⟩, ⟨(some 51), none, .load false 1 (.t 50)⟩, ⟨(some 52), none, .mv (.t 10)⟩, ⟨(some 53), none, .nilc (.t 52)⟩, ⟨(some 54), none, .fld 2 (.t 53)⟩, ⟨(some 55), none, .fld 1 (.t 54)⟩, ⟨(some 56), none, .load false 1 (.t 55)⟩, ⟨(some 57), none, .bin .add (.t 51) (.t 56)⟩, ⟨(some 58), none, .nilc (.t 47)⟩, ⟨(some 59), none, .fld 2 (.t 58)⟩, ⟨(some 60), none, .fld 1 (.t 59)⟩, ⟨none, none, .store 1 (.t 60) (.t 57)⟩]
def r175_10 : List AInstr :=
  [⟨(some 61), none, .mv (.t 5)⟩, ⟨(some 62), none, .nilc (.t 61)⟩, ⟨(some 63), none, .fld 2 (.t 62)⟩, ⟨(some 64), none, .fld 2 (.t 63)⟩, ⟨(some 65), none, .load false 1 (.t 64)⟩, ⟨(some 66), none, .mv (.t 10)⟩, ⟨(some 67), none, .nilc (.t 66)⟩, ⟨(some 68), none, .fld 2 (.t 67)⟩, ⟨(some 69), none, .fld 2 (.t 68)⟩, ⟨(some 70), none, .load false 1 (.t 69)⟩, ⟨(some 71), none, .bin .add (.t 65) (.t 70)⟩, ⟨(some 72), none, .nilc (.t 61)⟩, ⟨(some 73), none, .fld 2 (.t 72)⟩, ⟨(some 74), none, .fld 2 (.t 73)⟩, ⟨none, none, .store 1 (.t 74) (.t 71)⟩]
def r175_11 : List AInstr :=
  [⟨(some 75), none, .bin .add (.t 22) (.c (.int .i64 1))⟩, ⟨(some 22), none, .mv (.t 75)⟩]
def l175_17 : ACode :=
  .seq (.rg r175_4) (.seq (.cond (.t 23) (.skip) (.exit 1)) (.seq (.block 2 (.seq (.rg r175_5) (.seq (.rg r175_6) (.seq (.rg r175_7) (.seq (.rg r175_8) (.seq (.rg r175_9) (.rg r175_10))))))) (.rg r175_11)))
def r175_12 : List AInstr :=
  [⟨(some 76), none, .mv (.t 0)⟩, ⟨(some 77), none, .mv (.t 5)⟩, ⟨(some 78), none, .mkfn 223 [(.t 3), (.t 7)]⟩, ⟨(some 79), none, .call 221 [(.t 76), (.t 77), (.t 78)]⟩]
def r175_18 : List AInstr :=
  [⟨(some 114), none, .mv (.t 5)⟩, ⟨(some 4), none, .mv (.t 114)⟩]
def c175 : ACode :=
  .seq (.rg r175_0) (.seq (.rg r175_1) (.seq (.block 0 (.seq (.rg r175_13) (.cond (.t 80) (.skip) (.seq (.rg r175_14) (.cond (.t 95) (.seq (.rg r175_15) (.seq (.rg r175_16) (.rg r175_17))) (.seq (.rg r175_2) (.seq (.seq (.rg r175_3) (.block 1 (.loop l175_17))) (.rg r175_12)))))))) (.seq (.rg r175_18) (.ret))))
def a175 : AFunc := { np := 2, nt := 115, res := [.tmp 4], body := c175 }

/- patch.leaves$1 -/
def r176_0 : List AInstr :=
  [⟨(some 5), none, .mv (.c (.int .i64 0))⟩]
def r176_1 : List AInstr :=
  [⟨(some 12), none, .load false 1 (.t 1)⟩, ⟨(some 13), none, .mv (.t 0)⟩, ⟨(some 14), none, .call 173 [(.t 12), (.t 13)]⟩, ⟨(some 11), none, .mv (.t 14)⟩, ⟨(some 15), none, .ext (.t 11) 0⟩, ⟨(some 16), none, .ext (.t 11) 1⟩, ⟨(some 6), none, .alloc [.int .i64 0, .str [], .vs [] .ex]⟩, ⟨none, none, .store 3 (.t 6) (.t 15)⟩, ⟨(some 7), none, .mv (.t 16)⟩]
def r176_2 : List AInstr :=
  [⟨(some 17), none, .mv (.t 7)⟩, ⟨(some 18), none, .bin .neq (.t 17) (.c (.int .i64 0))⟩]
def r176_3 : List AInstr :=
  [⟨(some 19), none, .mv (.t 7)⟩, ⟨(some 5), none, .mv (.t 19)⟩]
def r176_4 : List AInstr :=
  [⟨(some 20), none, .fld 0 (.t 6)⟩, ⟨(some 21), none, .load false 1 (.t 20)⟩, ⟨(some 22), none, .bin .eql (.t 21) (.c (.int .i64 0))⟩]
def r176_5 : List AInstr :=
  [⟨(some 23), none, .load false 1 (.t 2)⟩, ⟨(some 24), none, .mv (.t 0)⟩, ⟨(some 25), none, .fld 1 (.t 6)⟩, ⟨(some 26), none, .load false 1 (.t 25)⟩, ⟨(some 27), none, .build [.int .u64 0, .str []] [(0, 1, (.t 24)), (1, 1, (.t 26))]⟩, ⟨(some 28), none, .lit 2 [(.t 27)]⟩, ⟨(some 29), none, .app true 2 24 (.t 23) (.t 28)⟩, ⟨none, none, .store 1 (.t 2) (.t 29)⟩]
def r176_6 : List AInstr :=
  [⟨(some 30), none, .fld 2 (.t 6)⟩, ⟨(some 31), none, .load false 1 (.t 30)⟩, ⟨(some 32), none, .len .l (.t 31)⟩, ⟨(some 33), none, .mv (.c (.int .i64 0))⟩]
def r176_7 : List AInstr :=
  [⟨(some 34), none, .bin .lss (.t 33) (.t 32)⟩]
def r176_8 : List AInstr :=
  [⟨(some 35), none, .idxA 4 (.t 31) (.t 33)⟩, ⟨(some 36), none, .load true 4 (.t 35)⟩, ⟨(some 9), none, .alloc [.int .u64 0, .int .i64 0, .int .i64 0, .int .i64 0]⟩, ⟨none, none, .store 4 (.t 9) (.t 36)⟩]
def r176_9 : List AInstr :=
  [⟨(some 37), none, .load false 1 (.t 3)⟩, ⟨(some 38), none, .fld 0 (.t 9)⟩, ⟨(some 39), none, .load false 1 (.t 38)⟩, ⟨(some 40), none, .callv (.t 37) [(.t 39)]⟩, ⟨(some 10), none, .mv (.t 40)⟩]
def r176_10 : List AInstr :=
  [⟨(some 41), none, .mv (.t 10)⟩, ⟨(some 42), none, .bin .neq (.t 41) (.c (.int .i64 0))⟩]
def r176_11 : List AInstr :=
  [⟨(some 43), none, .mv (.t 10)⟩, ⟨(some 5), none, .mv (.t 43)⟩]
def r176_12 : List AInstr :=
  [⟨(some 44), none, .bin .add (.t 33) (.c (.int .i64 1))⟩, ⟨(some 33), none, .mv (.t 44)⟩]
def l176_13 : ACode :=
  .seq (.rg r176_7) (.seq (.cond (.t 34) (.skip) (.exit 0)) (.seq (.block 1 (.seq (.rg r176_8) (.seq (.rg r176_9) (.seq (.rg r176_10) (.cond (.t 42) (.seq (.rg r176_11) (.ret)) (.skip)))))) (.rg r176_12)))
def r176_13 : List AInstr :=
  [⟨(some 5), none, .mv (.c (.int .i64 0))⟩]
def c176 : ACode :=
  .seq (.rg r176_0) (.seq (.rg r176_1) (.seq (.seq (.rg r176_2) (.cond (.t 18) (.seq (.rg r176_3) (.ret)) (.skip))) (.seq (.seq (.rg r176_4) (.cond (.t 22) (.rg r176_5) (.skip))) (.seq (.seq (.rg r176_6) (.block 0 (.loop l176_13))) (.seq (.rg r176_13) (.ret))))))
def a176 : AFunc := { np := 4, nt := 45, res := [.tmp 5], body := c176 }

/- node.Measure -/
def r177_0 : List AInstr :=
  [⟨(some 1), none, .box 3 (.t 0)⟩, ⟨(some 2), none, .alloc [.int .i64 0, .int .i64 0, .int .i64 0]⟩, ⟨(some 3), none, .mv (.c (.int .i64 0))⟩]
def r177_1 : List AInstr :=
  [⟨(some 5), none, .load true 3 (.t 1)⟩, ⟨(some 6), none, .call 189 [(.t 5)]⟩, ⟨(some 4), none, .mv (.t 6)⟩]
def r177_2 : List AInstr :=
  [⟨(some 7), none, .mv (.t 4)⟩, ⟨(some 8), none, .bin .neq (.t 7) (.c (.int .i64 0))⟩]
def r177_3 : List AInstr :=
  [⟨(some 9), none, .build [.int .i64 0, .int .i64 0, .int .i64 0] []⟩, ⟨(some 10), none, .mv (.t 4)⟩, ⟨none, none, .store 3 (.t 2) (.t 9)⟩, ⟨(some 3), none, .mv (.t 10)⟩]
def r177_4 : List AInstr :=
  [⟨(some 11), none, .load true 3 (.t 1)⟩, ⟨(some 12), none, .call 224 [(.t 11)]⟩, ⟨none, none, .store 3 (.t 2) (.t 12)⟩, ⟨(some 3), none, .mv (.c (.int .i64 0))⟩]
def c177 : ACode :=
  .seq (.rg r177_0) (.seq (.seq (.rg r177_1) (.seq (.rg r177_2) (.cond (.t 8) (.seq (.rg r177_3) (.ret)) (.skip)))) (.seq (.rg r177_4) (.ret)))
def a177 : AFunc := { np := 1, nt := 13, res := [.cell 2 true 3, .tmp 3], body := c177 }

/- plan.both -/
def r178_0 : List AInstr :=
  [⟨(some 5), none, .box 7 (.t 1)⟩, ⟨(some 6), none, .box 7 (.t 2)⟩, ⟨(some 8), none, .mv (.c (.int .i64 0))⟩]
def r178_1 : List AInstr :=
  [⟨(some 12), none, .load true 7 (.t 5)⟩, ⟨(some 13), none, .load true 7 (.t 6)⟩, ⟨(some 14), none, .lit 7 [(.t 12), (.t 13)]⟩, ⟨(some 15), none, .len .l (.t 14)⟩, ⟨(some 16), none, .mv (.c (.int .i64 0))⟩]
def r178_2 : List AInstr :=
  [⟨(some 17), none, .bin .lss (.t 16) (.t 15)⟩]
def r178_3 : List AInstr :=
  [⟨(some 18), none, .idxA 7 (.t 14) (.t 16)⟩, ⟨(some 19), none, .load true 7 (.t 18)⟩, ⟨(some 10), none, .alloc [.int .u64 0, .int .i64 0, .int .i64 0, .int .i64 0, .int .i64 0, .str [], .vs [] .ex]⟩, ⟨none, none, .store 7 (.t 10) (.t 19)⟩]
def r178_4 : List AInstr :=
  [⟨(some 20), none, .mv (.t 0)⟩, ⟨(some 21), none, .load true 7 (.t 10)⟩, ⟨(some 22), none, .call 93 [(.t 20), (.t 21)]⟩, ⟨(some 11), none, .mv (.t 22)⟩]
def r178_5 : List AInstr :=
  [⟨(some 23), none, .mv (.t 11)⟩, ⟨(some 24), none, .bin .neq (.t 23) (.c (.int .i64 0))⟩]
def r178_6 : List AInstr :=
  [⟨(some 25), none, .mv (.t 11)⟩, ⟨(some 8), none, .mv (.t 25)⟩]
def r178_7 : List AInstr :=
  [⟨(some 26), none, .bin .add (.t 16) (.c (.int .i64 1))⟩, ⟨(some 16), none, .mv (.t 26)⟩]
def l178_8 : ACode :=
  .seq (.rg r178_2) (.seq (.cond (.t 17) (.skip) (.exit 0)) (.seq (.block 1 (.seq (.rg r178_3) (.seq (.rg r178_4) (.seq (.rg r178_5) (.cond (.t 24) (.seq (.rg r178_6) (.ret)) (.skip)))))) (.rg r178_7)))
def r178_8 : List AInstr :=
  [⟨(some 27), none, .mv (.t 3)⟩, ⟨(some 28), none, .not (.t 27)⟩, ⟨(some 29), none, .mv (.t 28)⟩, ⟨(some 30), (some (29, true)), .load true 7 (.t 5)⟩, ⟨(some 31), (some (29, true)), .call 97 [(.t 30)]⟩, ⟨(some 32), (some (29, true)), .bin .eql (.t 31) (.c (.int .i64 1))⟩, ⟨(some 33), (some (29, true)), .mv (.t 32)⟩, ⟨(some 34), (some (33, false)), .load true 7 (.t 6)⟩, ⟨(some 35), (some (33, false)), .call 97 [(.t 34)]⟩, ⟨(some 36), (some (33, false)), .bin .eql (.t 35) (.c (.int .i64 1))⟩, ⟨(some 37), (some (29, true)), .pick (.t 33) (.c (.bool true)) (.t 36)⟩, ⟨(some 38), none, .pick (.t 29) (.t 37) (.c (.bool false))⟩]
def r178_9 : List AInstr :=
  [⟨(some 8), none, .mv (.c (.int .i64 2))⟩]
def r178_10 : List AInstr :=
  [⟨(some 39), none, .load true 7 (.t 5)⟩, ⟨(some 40), none, .call 168 [(.t 39)]⟩, ⟨(some 41), none, .load true 7 (.t 6)⟩, ⟨(some 42), none, .call 168 [(.t 41)]⟩, ⟨(some 43), none, .bin .add (.t 40) (.t 42)⟩, ⟨(some 44), none, .bin .gtr (.t 43) (.c (.int .i64 65536))⟩]
def r178_11 : List AInstr :=
  [⟨(some 8), none, .mv (.c (.int .i64 5))⟩]
def r178_12 : List AInstr :=
  [⟨(some 8), none, .mv (.c (.int .i64 0))⟩]
def c178 : ACode :=
  .seq (.rg r178_0) (.seq (.seq (.rg r178_1) (.block 0 (.loop l178_8))) (.seq (.seq (.rg r178_8) (.cond (.t 38) (.seq (.rg r178_9) (.ret)) (.skip))) (.seq (.seq (.qrg r178_10 [[], [0], [], [2, 1], [1, 3], [4]]) (.cond (.t 44) (.seq (.rg r178_11) (.ret)) (.skip))) (.seq (.rg r178_12) (.ret)))))
def a178 : AFunc := { np := 4, nt := 45, res := [.tmp 8], body := c178 }

/- plan.Kept$1 -/
def r179_0 : List AInstr :=
  [⟨(some 4), none, .box 7 (.t 0)⟩]
def r179_1 : List AInstr :=
  [⟨(some 7), none, .fld 0 (.t 4)⟩, ⟨(some 8), none, .load false 1 (.t 7)⟩, ⟨(some 9), none, .bin .neq (.t 8) (.c (.int .u64 0))⟩, ⟨(some 10), none, .mv (.t 9)⟩, ⟨(some 11), (some (10, true)), .load false 1 (.t 1)⟩, ⟨(some 12), (some (10, true)), .fld 0 (.t 4)⟩, ⟨(some 13), (some (10, true)), .load false 1 (.t 12)⟩, ⟨(some 14), (some (10, true)), .lookup .i (.bool false) (.t 11) (.t 13) false⟩, ⟨(some 15), (some (10, true)), .not (.t 14)⟩, ⟨(some 16), none, .pick (.t 10) (.t 15) (.c (.bool false))⟩]
def r179_2 : List AInstr :=
  [⟨(some 17), none, .load false 1 (.t 1)⟩, ⟨(some 18), none, .fld 0 (.t 4)⟩, ⟨(some 19), none, .load false 1 (.t 18)⟩, ⟨none, none, .mapup .i (.t 17) (.t 19) (.c (.bool true))⟩]
def r179_3 : List AInstr :=
  [⟨(some 20), none, .load false 1 (.t 2)⟩, ⟨(some 21), none, .fld 0 (.t 4)⟩, ⟨(some 22), none, .load false 1 (.t 21)⟩, ⟨(some 23), none, .lit 1 [(.t 22)]⟩, ⟨(some 24), none, .app false 1 8 (.t 20) (.t 23)⟩, ⟨none, none, .store 1 (.t 2) (.t 24)⟩]
def r179_4 : List AInstr :=
  [⟨(some 25), none, .fld 6 (.t 4)⟩, ⟨(some 26), none, .load false 1 (.t 25)⟩, ⟨(some 27), none, .len .l (.t 26)⟩, ⟨(some 28), none, .mv (.c (.int .i64 0))⟩]
def r179_5 : List AInstr :=
  [⟨(some 29), none, .bin .lss (.t 28) (.t 27)⟩]
def r179_6 : List AInstr :=
  [⟨(some 30), none, .idxA 7 (.t 26) (.t 28)⟩, ⟨(some 31), none, .load true 7 (.t 30)⟩, ⟨(some 6), none, .alloc [.int .u64 0, .int .i64 0, .int .i64 0, .int .i64 0, .int .i64 0, .str [], .vs [] .ex]⟩, ⟨none, none, .store 7 (.t 6) (.t 31)⟩]
def r179_7 : List AInstr :=
  [⟨(some 32), none, .load false 1 (.t 3)⟩, ⟨(some 33), none, .load true 7 (.t 6)⟩, ⟨(some 34), none, .callv (.t 32) [(.t 33)]⟩]
def r179_8 : List AInstr :=
  [⟨(some 35), none, .bin .add (.t 28) (.c (.int .i64 1))⟩, ⟨(some 28), none, .mv (.t 35)⟩]
def l179_9 : ACode :=
  .seq (.rg r179_5) (.seq (.cond (.t 29) (.skip) (.exit 0)) (.seq (.block 1 (.seq (.rg r179_6) (.rg r179_7))) (.rg r179_8)))
def c179 : ACode :=
  .seq (.rg r179_0) (.seq (.seq (.rg r179_1) (.cond (.t 16) (.seq (.rg r179_2) (.rg r179_3)) (.skip))) (.seq (.rg r179_4) (.block 0 (.loop l179_9))))
def a179 : AFunc := { np := 4, nt := 36, res := [], body := c179 }

/- rope.nodes$1 -/
def r180_0 : List AInstr :=
  [⟨(some 3), none, .box 1 (.t 0)⟩]
def r180_1 : List AInstr :=
  [⟨(some 4), none, .alloc [.nilfn]⟩]
def r180_2 : List AInstr :=
  [⟨(some 5), none, .mkfn 181 [(.t 1), (.t 3), (.t 4)]⟩, ⟨none, none, .store 1 (.t 4) (.t 5)⟩]
def r180_3 : List AInstr :=
  [⟨(some 6), none, .fld 0 (.t 2)⟩, ⟨(some 7), none, .load false 1 (.t 6)⟩, ⟨(some 8), none, .bin .neq (.t 7) (.c (.int .u64 0))⟩]
def r180_4 : List AInstr :=
  [⟨(some 9), none, .load false 1 (.t 4)⟩, ⟨(some 10), none, .fld 0 (.t 2)⟩, ⟨(some 11), none, .load false 1 (.t 10)⟩, ⟨(some 12), none, .callv (.t 9) [(.t 11)]⟩]
def c180 : ACode :=
  .seq (.rg r180_0) (.seq (.rg r180_1) (.seq (.rg r180_2) (.seq (.rg r180_3) (.cond (.t 8) (.rg r180_4) (.skip)))))
def a180 : AFunc := { np := 3, nt := 13, res := [], body := c180 }

/- rope.nodes$1$1 -/
def r181_0 : List AInstr :=
  [⟨(some 5), none, .mv (.c (.bool false))⟩]
def r181_1 : List AInstr :=
  [⟨(some 11), none, .load false 1 (.t 1)⟩, ⟨(some 12), none, .mv (.t 0)⟩, ⟨(some 13), none, .call 173 [(.t 11), (.t 12)]⟩, ⟨(some 10), none, .mv (.t 13)⟩, ⟨(some 14), none, .ext (.t 10) 0⟩, ⟨(some 15), none, .ext (.t 10) 1⟩, ⟨(some 6), none, .alloc [.int .i64 0, .str [], .vs [] .ex]⟩, ⟨none, none, .store 3 (.t 6) (.t 14)⟩, ⟨(some 7), none, .mv (.t 15)⟩]
def r181_2 : List AInstr :=
  [⟨(some 16), none, .load false 1 (.t 2)⟩, ⟨(some 17), none, .mv (.t 0)⟩, ⟨(some 18), none, .load true 3 (.t 6)⟩, ⟨(some 19), none, .mv (.t 7)⟩, ⟨(some 20), none, .build [.int .i64 0, .str [], .vs [] .ex, .int .i64 0] [(0, 3, (.t 18)), (3, 1, (.t 19))]⟩, ⟨(some 21), none, .callv (.t 16) [(.t 17), (.t 20)]⟩, ⟨(some 22), none, .not (.t 21)⟩, ⟨(some 23), none, .mv (.t 22)⟩, ⟨(some 24), (some (23, false)), .mv (.t 7)⟩, ⟨(some 25), (some (23, false)), .bin .neq (.t 24) (.c (.int .i64 0))⟩, ⟨(some 26), none, .pick (.t 23) (.c (.bool true)) (.t 25)⟩]
def r181_3 : List AInstr :=
  [⟨(some 5), none, .mv (.c (.bool false))⟩]
def r181_4 : List AInstr :=
  [⟨(some 27), none, .fld 2 (.t 6)⟩, ⟨(some 28), none, .load false 1 (.t 27)⟩, ⟨(some 29), none, .len .l (.t 28)⟩, ⟨(some 30), none, .mv (.c (.int .i64 0))⟩]
def r181_5 : List AInstr :=
  [⟨(some 31), none, .bin .lss (.t 30) (.t 29)⟩]
def r181_6 : List AInstr :=
  [⟨(some 32), none, .idxA 4 (.t 28) (.t 30)⟩, ⟨(some 33), none, .load true 4 (.t 32)⟩, ⟨(some 9), none, .alloc [.int .u64 0, .int .i64 0, .int .i64 0, .int .i64 0]⟩, ⟨none, none, .store 4 (.t 9) (.t 33)⟩]
def r181_7 : List AInstr :=
  [⟨(some 34), none, .load false 1 (.t 3)⟩, ⟨(some 35), none, .fld 0 (.t 9)⟩, ⟨(some 36), none, .load false 1 (.t 35)⟩, ⟨(some 37), none, .callv (.t 34) [(.t 36)]⟩, ⟨(some 38), none, .not (.t 37)⟩]
def r181_8 : List AInstr :=
  [⟨(some 5), none, .mv (.c (.bool false))⟩]
def r181_9 : List AInstr :=
  [⟨(some 39), none, .bin .add (.t 30) (.c (.int .i64 1))⟩, ⟨(some 30), none, .mv (.t 39)⟩]
def l181_10 : ACode :=
  .seq (.rg r181_5) (.seq (.cond (.t 31) (.skip) (.exit 0)) (.seq (.block 1 (.seq (.rg r181_6) (.seq (.rg r181_7) (.cond (.t 38) (.seq (.rg r181_8) (.ret)) (.skip))))) (.rg r181_9)))
def r181_10 : List AInstr :=
  [⟨(some 5), none, .mv (.c (.bool true))⟩]
def c181 : ACode :=
  .seq (.rg r181_0) (.seq (.rg r181_1) (.seq (.seq (.rg r181_2) (.cond (.t 26) (.seq (.rg r181_3) (.ret)) (.skip))) (.seq (.seq (.rg r181_4) (.block 0 (.loop l181_10))) (.seq (.rg r181_10) (.ret)))))
def a181 : AFunc := { np := 4, nt := 40, res := [.tmp 5], body := c181 }

/- node.Check -/
def r189_0 : List AInstr :=
  [⟨(some 1), none, .box 3 (.t 0)⟩, ⟨(some 2), none, .mv (.c (.int .i64 0))⟩]
def r189_1 : List AInstr :=
  [⟨(some 3), none, .load true 3 (.t 1)⟩, ⟨(some 4), none, .call 235 [(.t 3)]⟩, ⟨(some 5), none, .not (.t 4)⟩]
def r189_2 : List AInstr :=
  [⟨(some 2), none, .mv (.c (.int .i64 23))⟩]
def r189_3 : List AInstr :=
  [⟨(some 6), none, .load true 3 (.t 1)⟩, ⟨(some 7), none, .call 224 [(.t 6)]⟩, ⟨(some 8), none, .field false 0 1 (.t 7)⟩, ⟨(some 9), none, .bin .gtr (.t 8) (.c (.int .i64 65536))⟩]
def r189_4 : List AInstr :=
  [⟨(some 2), none, .mv (.c (.int .i64 5))⟩]
def r189_5 : List AInstr :=
  [⟨(some 2), none, .mv (.c (.int .i64 0))⟩]
def c189 : ACode :=
  .seq (.rg r189_0) (.seq (.seq (.rg r189_1) (.cond (.t 5) (.seq (.rg r189_2) (.ret)) (.skip))) (.seq (.seq (.rg r189_3) (.cond (.t 9) (.seq (.rg r189_4) (.ret)) (.skip))) (.seq (.rg r189_5) (.ret))))
def a189 : AFunc := { np := 1, nt := 10, res := [.tmp 2], body := c189 }

/- (*freelist.List).Take -/
def r190_0 : List AInstr :=
  [⟨(some 2), none, .mv (.c (.int .u64 0))⟩, ⟨(some 3), none, .mv (.c (.int .i64 0))⟩]
def r190_1 : List AInstr :=
  [⟨(some 5), none, .mv (.t 0)⟩, ⟨(some 6), none, .eqv .ptr false (.t 5) (.c (.nilp))⟩]
def r190_2 : List AInstr :=
  [⟨(some 2), none, .mv (.c (.int .u64 0))⟩, ⟨(some 3), none, .mv (.c (.int .i64 1))⟩]
def r190_3 : List AInstr :=
  [⟨(some 7), none, .mv (.t 0)⟩, ⟨(some 8), none, .nilc (.t 7)⟩, ⟨(some 9), none, .fld 0 (.t 8)⟩, ⟨(some 10), none, .load false 1 (.t 9)⟩, ⟨(some 11), none, .len .l (.t 10)⟩, ⟨(some 12), none, .bin .eql (.t 11) (.c (.int .i64 0))⟩]
def r190_4 : List AInstr :=
  [⟨(some 2), none, .mv (.c (.int .u64 0))⟩, ⟨(some 3), none, .mv (.c (.int .i64 6))⟩]
def r190_5 : List AInstr :=
  [⟨(some 13), none, .mv (.t 0)⟩, ⟨(some 14), none, .nilc (.t 13)⟩, ⟨(some 15), none, .fld 0 (.t 14)⟩, ⟨(some 16), none, .load false 1 (.t 15)⟩, ⟨(some 17), none, .mv (.t 0)⟩, ⟨(some 18), none, .nilc (.t 17)⟩, ⟨(some 19), none, .fld 0 (.t 18)⟩, ⟨(some 20), none, .load false 1 (.t 19)⟩, ⟨(some 21), none, .len .l (.t 20)⟩, ⟨(some 22), none, .bin .sub (.t 21) (.c (.int .i64 1))⟩, ⟨(some 23), none, .idxA 1 (.t 16) (.t 22)⟩, ⟨(some 24), none, .load false 1 (.t 23)⟩, ⟨(some 4), none, .mv (.t 24)⟩]
def r190_6 : List AInstr :=
  [⟨(some 25), none, .mv (.t 0)⟩, ⟨(some 26), none, .mv (.t 0)⟩, ⟨(some 27), none, .nilc (.t 26)⟩, ⟨(some 28), none, .fld 0 (.t 27)⟩, ⟨(some 29), none, .load false 1 (.t 28)⟩, ⟨(some 30), none, .mv (.t 0)⟩, ⟨(some 31), none, .nilc (.t 30)⟩, ⟨(some 32), none, .fld 0 (.t 31)⟩, ⟨(some 33), none, .load false 1 (.t 32)⟩, ⟨(some 34), none, .len .l (.t 33)⟩, ⟨(some 35), none, .bin .sub (.t 34) (.c (.int .i64 1))⟩, ⟨(some 36), none, .slice 1 (.t 29) none (some (.t 35)) none⟩, ⟨(some 37), none, .nilc (.t 25)⟩, ⟨(some 38), none, .fld 0 (.t 37)⟩, ⟨none, none, .store 1 (.t 38) (.t 36)⟩]
def r190_7 : List AInstr :=
  [⟨(some 39), none, .mv (.t 0)⟩, ⟨(some 40), none, .nilc (.t 39)⟩, ⟨(some 41), none, .fld 1 (.t 40)⟩, ⟨(some 42), none, .load false 1 (.t 41)⟩, ⟨(some 43), none, .mv (.t 4)⟩, ⟨(some 44), none, .idxA 1 (.t 42) (.t 43)⟩, ⟨none, none, .store 1 (.t 44) (.c (.int .u8 1))⟩]
def r190_8 : List AInstr :=
  [⟨(some 45), none, .mv (.t 4)⟩, ⟨(some 46), none, .mv (.t 0)⟩, ⟨(some 47), none, .nilc (.t 46)⟩, ⟨(some 48), none, .fld 2 (.t 47)⟩, ⟨(some 49), none, .load false 1 (.t 48)⟩, ⟨(some 50), none, .mv (.t 4)⟩, ⟨(some 51), none, .idxA 1 (.t 49) (.t 50)⟩, ⟨(some 52), none, .load false 1 (.t 51)⟩, ⟨(some 53), none, .call 236 [(.t 45), (.t 52)]⟩, ⟨(some 54), none, .ext (.t 53) 0⟩, ⟨(some 55), none, .ext (.t 53) 1⟩, ⟨(some 2), none, .mv (.t 54)⟩, ⟨(some 3), none, .mv (.t 55)⟩]
def c190 : ACode :=
  .seq (.rg r190_0) (.seq (.seq (.rg r190_1) (.cond (.t 6) (.seq (.rg r190_2) (.ret)) (.skip))) (.seq (.seq (.rg r190_3) (.cond (.t 12) (.seq (.rg r190_4) (.ret)) (.skip))) (.seq (.rg r190_5) (.seq (.rg r190_6) (.seq (.rg r190_7) (.seq (.rg r190_8) (.ret)))))))
def a190 : AFunc := { np := 1, nt := 56, res := [.tmp 2, .tmp 3], body := c190 }

/- slices.Clone[[]api.Kid,api.Kid] -/
def r191_0 : List AInstr :=
  [⟨(some 2), none, .mv (.c (.vs [] .ex))⟩]
def r191_1 : List AInstr :=
  [⟨(some 3), none, .mv (.t 0)⟩, ⟨(some 4), none, .eqnil false (.t 3)⟩]
def r191_2 : List AInstr :=
  [⟨(some 2), none, .mv (.c (.vs [] .ex))⟩]
def r191_3 : List AInstr :=
  [⟨(some 5), none, .lit 4 []⟩, ⟨(some 6), none, .mv (.t 0)⟩, ⟨(some 7), none, .app true 4 32 (.t 5) (.t 6)⟩, ⟨(some 2), none, .mv (.t 7)⟩]
def c191 : ACode :=
  .seq (.rg r191_0) (.seq (.seq (.rg r191_1) (.cond (.t 4) (.seq (.rg r191_2) (.ret)) (.skip))) (.seq (.rg r191_3) (.ret)))
def a191 : AFunc := { np := 1, nt := 8, res := [.tmp 2], body := c191 }

/- (*freelist.List).slots -/
def r213_0 : List AInstr :=
  [⟨(some 4), none, .mv (.c (.vs [] .ex))⟩]
def r213_1 : List AInstr :=
  [⟨(some 5), none, .mv (.c (.vs [] .ex))⟩]
def r213_2 : List AInstr :=
  [⟨(some 8), none, .mv (.t 0)⟩, ⟨(some 9), none, .eqv .ptr false (.t 8) (.c (.nilp))⟩]
def r213_3 : List AInstr :=
  [⟨(some 10), none, .mv (.t 5)⟩, ⟨(some 4), none, .mv (.t 10)⟩]
def r213_4 : List AInstr :=
  [⟨(some 11), none, .mv (.t 0)⟩, ⟨(some 12), none, .nilc (.t 11)⟩, ⟨(some 13), none, .fld 1 (.t 12)⟩, ⟨(some 14), none, .load false 1 (.t 13)⟩, ⟨(some 15), none, .len .l (.t 14)⟩, ⟨(some 16), none, .mv (.c (.int .i64 0))⟩]
def r213_5 : List AInstr :=
  [⟨(some 17), none, .bin .lss (.t 16) (.t 15)⟩]
def r213_6 : List AInstr :=
  [⟨(some 18), none, .mv (.t 16)⟩, ⟨(some 19), none, .idxA 1 (.t 14) (.t 16)⟩, ⟨(some 20), none, .load false 1 (.t 19)⟩, ⟨(some 6), none, .mv (.t 18)⟩, ⟨(some 7), none, .mv (.t 20)⟩]
def r213_7 : List AInstr :=
  [⟨(some 21), none, .mv (.t 7)⟩, ⟨(some 22), none, .mv (.t 1)⟩, ⟨(some 23), none, .bin .eql (.t 21) (.t 22)⟩]
def r213_8 : List AInstr :=
  [⟨(some 24), none, .mv (.t 5)⟩, ⟨(some 25), none, .mv (.t 6)⟩, ⟨(some 26), none, .lit 1 [(.t 25)]⟩, ⟨(some 27), none, .app false 1 8 (.t 24) (.t 26)⟩, ⟨(some 5), none, .mv (.t 27)⟩]
def r213_9 : List AInstr :=
  [⟨(some 28), none, .bin .add (.t 16) (.c (.int .i64 1))⟩, ⟨(some 16), none, .mv (.t 28)⟩]
def l213_10 : ACode :=
  .seq (.rg r213_5) (.seq (.cond (.t 17) (.skip) (.exit 0)) (.seq (.block 1 (.seq (.rg r213_6) (.seq (.rg r213_7) (.cond (.t 23) (.rg r213_8) (.skip))))) (.rg r213_9)))
def r213_10 : List AInstr :=
  [⟨(some 29), none, .mv (.t 5)⟩, ⟨(some 4), none, .mv (.t 29)⟩]
def c213 : ACode :=
  .seq (.rg r213_0) (.seq (.rg r213_1) (.seq (.seq (.rg r213_2) (.cond (.t 9) (.seq (.rg r213_3) (.ret)) (.skip))) (.seq (.seq (.rg r213_4) (.block 0 (.loop l213_10))) (.seq (.rg r213_10) (.ret)))))
def a213 : AFunc := { np := 2, nt := 30, res := [.tmp 4], body := c213 }

/- chunk.sizes -/
def r218_0 : List AInstr :=
  [⟨(some 2), none, .box 1 (.t 0)⟩, ⟨(some 4), none, .mv (.c (.vs [] .ex))⟩]
def r218_1 : List AInstr :=
  [⟨(some 9), none, .load false 1 (.t 2)⟩, ⟨(some 10), none, .bin .eql (.t 9) (.c (.int .i64 0))⟩]
def r218_2 : List AInstr :=
  [⟨(some 4), none, .mv (.c (.vs [] .ex))⟩]
def r218_3 : List AInstr :=
  [⟨(some 11), none, .load false 1 (.t 2)⟩, ⟨(some 12), none, .mv (.t 1)⟩, ⟨(some 13), none, .bin .quo (.t 11) (.t 12)⟩, ⟨(some 5), none, .alloc [.int .i64 0]⟩, ⟨none, none, .store 1 (.t 5) (.t 13)⟩]
def r218_4 : List AInstr :=
  [⟨(some 14), none, .load false 1 (.t 2)⟩, ⟨(some 15), none, .mv (.t 1)⟩, ⟨(some 16), none, .bin .rem (.t 14) (.t 15)⟩, ⟨(some 17), none, .bin .gtr (.t 16) (.c (.int .i64 0))⟩]
def r218_5 : List AInstr :=
  [⟨(some 18), none, .load false 1 (.t 5)⟩, ⟨(some 19), none, .bin .add (.t 18) (.c (.int .i64 1))⟩, ⟨none, none, .store 1 (.t 5) (.t 19)⟩]
def r218_6 : List AInstr :=
  [⟨(some 20), none, .mkfn 251 [(.t 2), (.t 5)]⟩, ⟨(some 6), none, .mv (.t 20)⟩]
def r218_7 : List AInstr :=
  [⟨(some 21), none, .load false 1 (.t 5)⟩, ⟨(some 22), none, .mksl [.int .i64 0] 8 (.t 21) (.t 21)⟩, ⟨(some 7), none, .mv (.t 22)⟩]
def r218_8 : List AInstr :=
  [⟨(some 23), none, .load false 1 (.t 5)⟩, ⟨(some 24), none, .mv (.c (.int .i64 0))⟩]
def r218_9 : List AInstr :=
  [⟨(some 25), none, .bin .lss (.t 24) (.t 23)⟩]
def r218_10 : List AInstr :=
  [⟨(some 26), none, .mv (.t 24)⟩, ⟨(some 8), none, .mv (.t 26)⟩]
def r218_11 : List AInstr :=
  [⟨(some 27), none, .mv (.t 7)⟩, ⟨(some 28), none, .mv (.t 8)⟩, ⟨(some 29), none, .mv (.t 6)⟩, ⟨(some 30), none, .mv (.t 8)⟩, ⟨(some 31), none, .callv (.t 29) [(.t 30)]⟩, ⟨(some 32), none, .idxA 1 (.t 27) (.t 28)⟩, ⟨none, none, .store 1 (.t 32) (.t 31)⟩]
def r218_12 : List AInstr :=
  [⟨(some 33), none, .bin .add (.t 24) (.c (.int .i64 1))⟩, ⟨(some 24), none, .mv (.t 33)⟩]
def l218_13 : ACode :=
  .seq (.rg r218_9) (.seq (.cond (.t 25) (.skip) (.exit 0)) (.seq (.block 1 (.seq (.rg r218_10) (.rg r218_11))) (.rg r218_12)))
def r218_13 : List AInstr :=
  [⟨(some 34), none, .mv (.t 7)⟩, ⟨(some 4), none, .mv (.t 34)⟩]
def c218 : ACode :=
  .seq (.rg r218_0) (.seq (.seq (.rg r218_1) (.cond (.t 10) (.seq (.rg r218_2) (.ret)) (.skip))) (.seq (.rg r218_3) (.seq (.seq (.rg r218_4) (.cond (.t 17) (.rg r218_5) (.skip))) (.seq (.rg r218_6) (.seq (.rg r218_7) (.seq (.seq (.rg r218_8) (.block 0 (.loop l218_13))) (.seq (.rg r218_13) (.ret))))))))
def a218 : AFunc := { np := 2, nt := 35, res := [.tmp 4], body := c218 }

/- chunk.Cut -/
def r219_0 : List AInstr :=
  [⟨(some 4), none, .mv (.c (.str []))⟩, ⟨(some 5), none, .mv (.c (.str []))⟩, ⟨(some 6), none, .mv (.c (.int .i64 0))⟩]
def r219_1 : List AInstr :=
  [⟨(some 7), none, .mv (.t 0)⟩, ⟨(some 8), none, .call 252 [(.t 7)]⟩, ⟨(some 9), none, .not (.t 8)⟩]
def r219_2 : List AInstr :=
  [⟨(some 4), none, .mv (.c (.str []))⟩, ⟨(some 5), none, .mv (.c (.str []))⟩, ⟨(some 6), none, .mv (.c (.int .i64 2))⟩]
def r219_3 : List AInstr :=
  [⟨(some 10), none, .mv (.t 1)⟩, ⟨(some 11), none, .bin .lss (.t 10) (.c (.int .i64 0))⟩, ⟨(some 12), none, .mv (.t 11)⟩, ⟨(some 13), (some (12, false)), .mv (.t 1)⟩, ⟨(some 14), (some (12, false)), .mv (.t 0)⟩, ⟨(some 15), (some (12, false)), .len .s (.t 14)⟩, ⟨(some 16), (some (12, false)), .bin .gtr (.t 13) (.t 15)⟩, ⟨(some 17), none, .pick (.t 12) (.c (.bool true)) (.t 16)⟩]
def r219_4 : List AInstr :=
  [⟨(some 4), none, .mv (.c (.str []))⟩, ⟨(some 5), none, .mv (.c (.str []))⟩, ⟨(some 6), none, .mv (.c (.int .i64 3))⟩]
def r219_5 : List AInstr :=
  [⟨(some 18), none, .mv (.t 0)⟩, ⟨(some 19), none, .mv (.t 1)⟩, ⟨(some 20), none, .sslice (.t 18) none (some (.t 19))⟩, ⟨(some 21), none, .mv (.t 0)⟩, ⟨(some 22), none, .mv (.t 1)⟩, ⟨(some 23), none, .sslice (.t 21) (some (.t 22)) none⟩, ⟨(some 4), none, .mv (.t 20)⟩, ⟨(some 5), none, .mv (.t 23)⟩, ⟨(some 6), none, .mv (.c (.int .i64 0))⟩]
def c219 : ACode :=
  .seq (.rg r219_0) (.seq (.seq (.rg r219_1) (.cond (.t 9) (.seq (.rg r219_2) (.ret)) (.skip))) (.seq (.seq (.rg r219_3) (.cond (.t 17) (.seq (.rg r219_4) (.ret)) (.skip))) (.seq (.rg r219_5) (.ret))))
def a219 : AFunc := { np := 2, nt := 24, res := [.tmp 4, .tmp 5, .tmp 6], body := c219 }

/- plan.merge -/
def r220_0 : List AInstr :=
  [⟨(some 4), none, .box 7 (.t 1)⟩, ⟨(some 5), none, .box 7 (.t 2)⟩, ⟨(some 6), none, .mv (.c (.vs [] .ex))⟩, ⟨(some 7), none, .mv (.c (.int .i64 0))⟩]
def r220_1 : List AInstr :=
  [⟨(some 15), none, .fld 1 (.t 4)⟩, ⟨(some 16), none, .load false 1 (.t 15)⟩, ⟨(some 17), none, .bin .eql (.t 16) (.c (.int .i64 0))⟩, ⟨(some 18), none, .mv (.t 17)⟩, ⟨(some 19), (some (18, true)), .fld 1 (.t 5)⟩, ⟨(some 20), (some (18, true)), .load false 1 (.t 19)⟩, ⟨(some 21), (some (18, true)), .bin .eql (.t 20) (.c (.int .i64 0))⟩, ⟨(some 22), none, .pick (.t 18) (.t 21) (.c (.bool false))⟩]
def r220_2 : List AInstr :=
  [⟨(some 23), none, .mv (.t 0)⟩, ⟨(some 24), none, .load true 7 (.t 4)⟩, ⟨(some 25), none, .load true 7 (.t 5)⟩, ⟨(some 26), none, .call 253 [(.t 23), (.t 24), (.t 25)]⟩, ⟨(some 27), none, .ext (.t 26) 0⟩, ⟨(some 28), none, .ext (.t 26) 1⟩, ⟨(some 6), none, .mv (.t 27)⟩, ⟨(some 7), none, .mv (.t 28)⟩]
def r220_3 : List AInstr :=
  [⟨(some 8), none, .mv (.c (.vs [] .ex))⟩, ⟨(some 9), none, .mv (.c (.vs [] .ex))⟩]
def r220_4 : List AInstr :=
  [⟨(some 10), none, .mv (.c (.int .i64 0))⟩]
def r220_5 : List AInstr :=
  [⟨(some 29), none, .fld 1 (.t 4)⟩, ⟨(some 30), none, .load false 1 (.t 29)⟩, ⟨(some 31), none, .fld 1 (.t 5)⟩, ⟨(some 32), none, .load false 1 (.t 31)⟩, ⟨(some 33), none, .bin .geq (.t 30) (.t 32)⟩]
def r220_6 : List AInstr :=
  [⟨(some 35), none, .mv (.t 0)⟩, ⟨(some 36), none, .load true 7 (.t 4)⟩, ⟨(some 37), none, .call 96 [(.t 35), (.t 36)]⟩, ⟨(some 34), none, .mv (.t 37)⟩, ⟨(some 38), none, .ext (.t 34) 0⟩, ⟨(some 39), none, .ext (.t 34) 1⟩, ⟨(some 8), none, .mv (.t 38)⟩, ⟨(some 10), none, .mv (.t 39)⟩]
def r220_7 : List AInstr :=
  [⟨(some 40), none, .mv (.t 10)⟩, ⟨(some 41), none, .bin .neq (.t 40) (.c (.int .i64 0))⟩]
def r220_8 : List AInstr :=
  [⟨(some 42), none, .mv (.t 10)⟩, ⟨(some 6), none, .mv (.c (.vs [] .ex))⟩, ⟨(some 7), none, .mv (.t 42)⟩]
def r220_9 : List AInstr :=
  [⟨(some 43), none, .fld 1 (.t 5)⟩, ⟨(some 44), none, .load false 1 (.t 43)⟩, ⟨(some 45), none, .fld 1 (.t 4)⟩, ⟨(some 46), none, .load false 1 (.t 45)⟩, ⟨(some 47), none, .bin .geq (.t 44) (.t 46)⟩]
def r220_10 : List AInstr :=
  [⟨(some 49), none, .mv (.t 0)⟩, ⟨(some 50), none, .load true 7 (.t 5)⟩, ⟨(some 51), none, .call 96 [(.t 49), (.t 50)]⟩, ⟨(some 48), none, .mv (.t 51)⟩, ⟨(some 52), none, .ext (.t 48) 0⟩, ⟨(some 53), none, .ext (.t 48) 1⟩, ⟨(some 9), none, .mv (.t 52)⟩, ⟨(some 10), none, .mv (.t 53)⟩]
def r220_11 : List AInstr :=
  [⟨(some 54), none, .mv (.t 10)⟩, ⟨(some 55), none, .bin .neq (.t 54) (.c (.int .i64 0))⟩]
def r220_12 : List AInstr :=
  [⟨(some 56), none, .mv (.t 10)⟩, ⟨(some 6), none, .mv (.c (.vs [] .ex))⟩, ⟨(some 7), none, .mv (.t 56)⟩]
def r220_13 : List AInstr :=
  [⟨(some 58), none, .fld 1 (.t 4)⟩, ⟨(some 59), none, .load false 1 (.t 58)⟩, ⟨(some 60), none, .fld 1 (.t 5)⟩, ⟨(some 61), none, .load false 1 (.t 60)⟩, ⟨(some 62), none, .bin .eql (.t 59) (.t 61)⟩, ⟨(some 63), none, .mv (.t 62)⟩, ⟨(some 64), (some (63, true)), .mv (.t 8)⟩, ⟨(some 65), (some (63, true)), .len .l (.t 64)⟩, ⟨(some 66), (some (63, true)), .mv (.t 9)⟩, ⟨(some 67), (some (63, true)), .len .l (.t 66)⟩, ⟨(some 68), (some (63, true)), .bin .add (.t 65) (.t 67)⟩, ⟨(some 69), (some (63, true)), .bin .leq (.t 68) (.c (.int .i64 4))⟩, ⟨(some 70), none, .pick (.t 63) (.t 69) (.c (.bool false))⟩, ⟨(some 57), none, .mv (.t 70)⟩]
def r220_14 : List AInstr :=
  [⟨(some 71), none, .lit 7 []⟩, ⟨(some 72), none, .mv (.t 8)⟩, ⟨(some 73), none, .app true 7 80 (.t 71) (.t 72)⟩, ⟨(some 74), none, .mv (.t 9)⟩, ⟨(some 75), none, .app true 7 80 (.t 73) (.t 74)⟩, ⟨(some 76), none, .call 167 [(.t 75)]⟩, ⟨(some 77), none, .lit 7 [(.t 76)]⟩, ⟨(some 6), none, .mv (.t 77)⟩, ⟨(some 7), none, .mv (.c (.int .i64 0))⟩]
def r220_15 : List AInstr :=
  [⟨(some 79), none, .fld 1 (.t 4)⟩, ⟨(some 80), none, .load false 1 (.t 79)⟩, ⟨(some 81), none, .fld 1 (.t 5)⟩, ⟨(some 82), none, .load false 1 (.t 81)⟩, ⟨(some 83), none, .bin .eql (.t 80) (.t 82)⟩, ⟨(some 78), none, .mv (.t 83)⟩]
def r220_16 : List AInstr :=
  [⟨(some 84), none, .load true 7 (.t 4)⟩, ⟨(some 85), none, .load true 7 (.t 5)⟩, ⟨(some 86), none, .lit 7 [(.t 84), (.t 85)]⟩, ⟨(some 6), none, .mv (.t 86)⟩, ⟨(some 7), none, .mv (.c (.int .i64 0))⟩]
def r220_17 : List AInstr :=
  [⟨(some 88), none, .fld 1 (.t 4)⟩, ⟨(some 89), none, .load false 1 (.t 88)⟩, ⟨(some 90), none, .fld 1 (.t 5)⟩, ⟨(some 91), none, .load false 1 (.t 90)⟩, ⟨(some 92), none, .bin .gtr (.t 89) (.t 91)⟩, ⟨(some 87), none, .mv (.t 92)⟩]
def r220_18 : List AInstr :=
  [⟨(some 93), none, .mv (.t 8)⟩, ⟨(some 94), none, .len .l (.t 93)⟩, ⟨(some 95), none, .bin .sub (.t 94) (.c (.int .i64 1))⟩, ⟨(some 11), none, .mv (.t 95)⟩]
def r220_19 : List AInstr :=
  [⟨(some 97), none, .mv (.t 0)⟩, ⟨(some 98), none, .mv (.t 8)⟩, ⟨(some 99), none, .mv (.t 11)⟩, ⟨(some 100), none, .idxA 7 (.t 98) (.t 99)⟩, ⟨(some 101), none, .load true 7 (.t 100)⟩, ⟨(some 102), none, .load true 7 (.t 5)⟩, ⟨(some 103), none, .call 220 [(.t 97), (.t 101), (.t 102)]⟩, ⟨(some 96), none, .mv (.t 103)⟩, ⟨(some 104), none, .ext (.t 96) 0⟩, ⟨(some 105), none, .ext (.t 96) 1⟩, ⟨(some 12), none, .mv (.t 104)⟩, ⟨(some 13), none, .mv (.t 105)⟩]
def r220_20 : List AInstr :=
  [⟨(some 106), none, .mv (.t 13)⟩, ⟨(some 107), none, .bin .neq (.t 106) (.c (.int .i64 0))⟩]
def r220_21 : List AInstr :=
  [⟨(some 108), none, .mv (.t 13)⟩, ⟨(some 6), none, .mv (.c (.vs [] .ex))⟩, ⟨(some 7), none, .mv (.t 108)⟩]
def r220_22 : List AInstr :=
  [⟨(some 109), none, .lit 7 []⟩, ⟨(some 110), none, .mv (.t 8)⟩, ⟨(some 111), none, .mv (.t 11)⟩, ⟨(some 112), none, .slice 7 (.t 110) none (some (.t 111)) none⟩, ⟨(some 113), none, .app true 7 80 (.t 109) (.t 112)⟩, ⟨(some 114), none, .mv (.t 12)⟩, ⟨(some 115), none, .app true 7 80 (.t 113) (.t 114)⟩, ⟨(some 116), none, .call 254 [(.t 115)]⟩, ⟨(some 6), none, .mv (.t 116)⟩, ⟨(some 7), none, .mv (.c (.int .i64 0))⟩]
def r220_23 : List AInstr :=
  [⟨(some 118), none, .mv (.t 0)⟩, ⟨(some 119), none, .load true 7 (.t 4)⟩, ⟨(some 120), none, .mv (.t 9)⟩, ⟨(some 121), none, .idxA 7 (.t 120) (.c (.int .i64 0))⟩, ⟨(some 122), none, .load true 7 (.t 121)⟩, ⟨(some 123), none, .call 220 [(.t 118), (.t 119), (.t 122)]⟩, ⟨(some 117), none, .mv (.t 123)⟩, ⟨(some 124), none, .ext (.t 117) 0⟩, ⟨(some 125), none, .ext (.t 117) 1⟩, ⟨(some 14), none, .mv (.t 124)⟩, ⟨(some 10), none, .mv (.t 125)⟩]
def r220_24 : List AInstr :=
  [⟨(some 126), none, .mv (.t 10)⟩, ⟨(some 127), none, .bin .neq (.t 126) (.c (.int .i64 0))⟩]
def r220_25 : List AInstr :=
  [⟨(some 128), none, .mv (.t 10)⟩, ⟨(some 6), none, .mv (.c (.vs [] .ex))⟩, ⟨(some 7), none, .mv (.t 128)⟩]
def r220_26 : List AInstr :=
  [⟨(some 129), none, .lit 7 []⟩, ⟨(some 130), none, .mv (.t 14)⟩, ⟨(some 131), none, .app true 7 80 (.t 129) (.t 130)⟩, ⟨(some 132), none, .mv (.t 9)⟩, ⟨(some 133), none, .slice 7 (.t 132) (some (.c (.int .i64 1))) none none⟩, ⟨(some 134), none, .app true 7 80 (.t 131) (.t 133)⟩, ⟨(some 135), none, .call 254 [(.t 134)]⟩, ⟨(some 6), none, .mv (.t 135)⟩, ⟨(some 7), none, .mv (.c (.int .i64 0))⟩]
def c220 : ACode :=
  .seq (.rg r220_0) (.seq (.seq (.rg r220_1) (.cond (.t 22) (.seq (.rg r220_2) (.ret)) (.skip))) (.seq (.rg r220_3) (.seq (.rg r220_4) (.seq (.seq (.rg r220_5) (.cond (.t 33) (.seq (.rg r220_6) (.seq (.rg r220_7) (.cond (.t 41) (.seq (.rg r220_8) (.ret)) (.skip)))) (.skip))) (.seq (.seq (.rg r220_9) (.cond (.t 47) (.seq (.rg r220_10) (.seq (.rg r220_11) (.cond (.t 55) (.seq (.rg r220_12) (.ret)) (.skip)))) (.skip))) (.seq (.block 0 (.seq (.rg r220_13) (.cond (.t 57) (.seq (.rg r220_14) (.ret)) (.seq (.rg r220_15) (.cond (.t 78) (.seq (.rg r220_16) (.ret)) (.seq (.rg r220_17) (.cond (.t 87) (.seq (.rg r220_18) (.seq (.rg r220_19) (.seq (.seq (.rg r220_20) (.cond (.t 107) (.seq (.rg r220_21) (.ret)) (.skip))) (.seq (.rg r220_22) (.ret))))) (.skip)))))))) (.seq (.rg r220_23) (.seq (.seq (.rg r220_24) (.cond (.t 127) (.seq (.rg r220_25) (.ret)) (.skip))) (.seq (.rg r220_26) (.ret))))))))))
def a220 : AFunc := { np := 3, nt := 136, res := [.tmp 6, .tmp 7], body := c220 }

/- (*rope.Pen).put -/
def r221_0 : List AInstr :=
  [⟨(some 3), none, .box 1 (.t 0)⟩, ⟨(some 4), none, .box 1 (.t 1)⟩, ⟨(some 5), none, .box 1 (.t 2)⟩]
def r221_1 : List AInstr :=
  [⟨(some 6), none, .load false 1 (.t 3)⟩, ⟨(some 7), none, .load false 1 (.t 3)⟩, ⟨(some 8), none, .nilc (.t 7)⟩, ⟨(some 9), none, .fld 1 (.t 8)⟩, ⟨(some 10), none, .load false 1 (.t 9)⟩, ⟨(some 11), none, .mkfn 255 [(.t 3), (.t 5), (.t 4)]⟩, ⟨(some 12), none, .lit 1 [(.t 11)]⟩, ⟨(some 13), none, .app false 1 8 (.t 10) (.t 12)⟩, ⟨(some 14), none, .nilc (.t 6)⟩, ⟨(some 15), none, .fld 1 (.t 14)⟩, ⟨none, none, .store 1 (.t 15) (.t 13)⟩]
def c221 : ACode :=
  .seq (.rg r221_0) (.qrg r221_1 [[], [], [1], [2], [3], [], [5], [4, 6], [0, 0, 1, 2, 3, 4, 5, 6, 7], [8, 0, 1, 2, 3, 4, 5, 6, 7], [9, 7, 7, 0, 1, 2, 3, 4, 5, 6, 7]])
def a221 : AFunc := { np := 3, nt := 16, res := [], body := c221 }

/- (*rope.Pen).add$1 -/
def r222_0 : List AInstr :=
  [⟨(some 1), none, .alloc [.int .i64 0, .str [], .vs [] .ex]⟩]
def r222_1 : List AInstr :=
  [⟨(some 2), none, .load true 3 (.t 0)⟩, ⟨none, none, .store 3 (.t 1) (.t 2)⟩]
def c222 : ACode :=
  .seq (.rg r222_0) (.seq (.rg r222_1) (.ret))
def a222 : AFunc := { np := 1, nt := 3, res := [.cell 1 true 3], body := c222 }

/- (*rope.Pen).add$2 -/
def r223_0 : List AInstr :=
  [⟨(some 2), none, .alloc [.int .i64 0, .str [], .vs [] .ex]⟩]
def r223_1 : List AInstr :=
  [⟨(some 6), none, .fld 1 (.t 0)⟩, ⟨(some 7), none, .load false 1 (.t 6)⟩, ⟨(some 8), none, .build [.int .i64 0, .str [], .vs [] .ex] [(0, 1, (.t 7))]⟩, ⟨(some 3), none, .alloc [.int .i64 0, .str [], .vs [] .ex]⟩, ⟨none, none, .store 3 (.t 3) (.t 8)⟩]
def r223_2 : List AInstr :=
  [⟨(some 9), none, .load false 1 (.t 1)⟩, ⟨(some 10), none, .len .l (.t 9)⟩, ⟨(some 11), none, .mv (.c (.int .i64 0))⟩]
def r223_3 : List AInstr :=
  [⟨(some 12), none, .bin .lss (.t 11) (.t 10)⟩]
def r223_4 : List AInstr :=
  [⟨(some 13), none, .idxA 1 (.t 9) (.t 11)⟩, ⟨(some 14), none, .load false 1 (.t 13)⟩, ⟨(some 5), none, .mv (.t 14)⟩]
def r223_5 : List AInstr :=
  [⟨(some 15), none, .fld 2 (.t 3)⟩, ⟨(some 16), none, .load false 1 (.t 15)⟩, ⟨(some 17), none, .mv (.t 5)⟩, ⟨(some 18), none, .nilc (.t 17)⟩, ⟨(some 19), none, .fld 0 (.t 18)⟩, ⟨(some 20), none, .load false 1 (.t 19)⟩, ⟨(some 21), none, .mv (.t 5)⟩, ⟨(some 22), none, .nilc (.t 21)⟩, ⟨(some 23), none, .fld 2 (.t 22)⟩, ⟨(some 24), none, .load true 3 (.t 23)⟩, ⟨(some 25), none, .build [.int .u64 0, .int .i64 0, .int .i64 0, .int .i64 0] [(0, 1, (.t 20)), (1, 3, (.t 24))]⟩, ⟨(some 26), none, .lit 4 [(.t 25)]⟩, ⟨(some 27), none, .app true 4 32 (.t 16) (.t 26)⟩, ⟨(some 28), none, .fld 2 (.t 3)⟩, ⟨none, none, .store 1 (.t 28) (.t 27)⟩]
def r223_6 : List AInstr :=
  [⟨(some 29), none, .bin .add (.t 11) (.c (.int .i64 1))⟩, ⟨(some 11), none, .mv (.t 29)⟩]
def l223_7 : ACode :=
  .seq (.rg r223_3) (.seq (.cond (.t 12) (.skip) (.exit 0)) (.seq (.block 1 (.seq (.rg r223_4) (.rg r223_5))) (.rg r223_6)))
def r223_7 : List AInstr :=
  [⟨(some 30), none, .load true 3 (.t 3)⟩, ⟨none, none, .store 3 (.t 2) (.t 30)⟩]
def c223 : ACode :=
  .seq (.rg r223_0) (.seq (.rg r223_1) (.seq (.seq (.rg r223_2) (.block 0 (.loop l223_7))) (.seq (.rg r223_7) (.ret))))
def a223 : AFunc := { np := 2, nt := 31, res := [.cell 2 true 3], body := c223 }

/- node.sum -/
def r224_0 : List AInstr :=
  [⟨(some 1), none, .box 3 (.t 0)⟩, ⟨(some 2), none, .alloc [.int .i64 0, .int .i64 0, .int .i64 0]⟩]
def r224_1 : List AInstr :=
  [⟨(some 6), none, .fld 0 (.t 1)⟩, ⟨(some 7), none, .load false 1 (.t 6)⟩, ⟨(some 8), none, .bin .eql (.t 7) (.c (.int .i64 0))⟩]
def r224_2 : List AInstr :=
  [⟨(some 9), none, .fld 1 (.t 1)⟩, ⟨(some 10), none, .load false 1 (.t 9)⟩, ⟨(some 11), none, .call 256 [(.t 10)]⟩, ⟨none, none, .store 3 (.t 2) (.t 11)⟩]
def r224_3 : List AInstr :=
  [⟨(some 3), none, .mv (.c (.vs [] .ex))⟩]
def r224_4 : List AInstr :=
  [⟨(some 12), none, .fld 2 (.t 1)⟩, ⟨(some 13), none, .load false 1 (.t 12)⟩, ⟨(some 14), none, .len .l (.t 13)⟩, ⟨(some 15), none, .mv (.c (.int .i64 0))⟩]
def r224_5 : List AInstr :=
  [⟨(some 16), none, .bin .lss (.t 15) (.t 14)⟩]
def r224_6 : List AInstr :=
  [⟨(some 17), none, .idxA 4 (.t 13) (.t 15)⟩, ⟨(some 18), none, .load true 4 (.t 17)⟩, ⟨(some 5), none, .alloc [.int .u64 0, .int .i64 0, .int .i64 0, .int .i64 0]⟩, ⟨none, none, .store 4 (.t 5) (.t 18)⟩]
def r224_7 : List AInstr :=
  [⟨(some 19), none, .mv (.t 3)⟩, ⟨(some 20), none, .fld 1 (.t 5)⟩, ⟨(some 21), none, .load true 3 (.t 20)⟩, ⟨(some 22), none, .lit 3 [(.t 21)]⟩, ⟨(some 23), none, .app true 3 24 (.t 19) (.t 22)⟩, ⟨(some 3), none, .mv (.t 23)⟩]
def r224_8 : List AInstr :=
  [⟨(some 24), none, .bin .add (.t 15) (.c (.int .i64 1))⟩, ⟨(some 15), none, .mv (.t 24)⟩]
def l224_9 : ACode :=
  .seq (.rg r224_5) (.seq (.cond (.t 16) (.skip) (.exit 0)) (.seq (.block 1 (.seq (.rg r224_6) (.rg r224_7))) (.rg r224_8)))
def r224_9 : List AInstr :=
  [⟨(some 25), none, .mv (.t 3)⟩, ⟨(some 26), none, .call 257 [(.t 25)]⟩, ⟨none, none, .store 3 (.t 2) (.t 26)⟩]
def c224 : ACode :=
  .seq (.rg r224_0) (.seq (.seq (.rg r224_1) (.cond (.t 8) (.seq (.rg r224_2) (.ret)) (.skip))) (.seq (.rg r224_3) (.seq (.seq (.rg r224_4) (.block 0 (.loop l224_9))) (.seq (.rg r224_9) (.ret)))))
def a224 : AFunc := { np := 1, nt := 27, res := [.cell 2 true 3], body := c224 }

/- node.formed -/
def r235_0 : List AInstr :=
  [⟨(some 1), none, .box 3 (.t 0)⟩, ⟨(some 2), none, .mv (.c (.bool false))⟩]
def r235_1 : List AInstr :=
  [⟨(some 7), none, .fld 0 (.t 1)⟩, ⟨(some 8), none, .load false 1 (.t 7)⟩, ⟨(some 9), none, .bin .eql (.t 8) (.c (.int .i64 0))⟩]
def r235_2 : List AInstr :=
  [⟨(some 10), none, .fld 1 (.t 1)⟩, ⟨(some 11), none, .load false 1 (.t 10)⟩, ⟨(some 12), none, .len .s (.t 11)⟩, ⟨(some 13), none, .bin .geq (.t 12) (.c (.int .i64 1))⟩, ⟨(some 14), none, .mv (.t 13)⟩, ⟨(some 15), (some (14, true)), .fld 1 (.t 1)⟩, ⟨(some 16), (some (14, true)), .load false 1 (.t 15)⟩, ⟨(some 17), (some (14, true)), .len .s (.t 16)⟩, ⟨(some 18), (some (14, true)), .bin .leq (.t 17) (.c (.int .i64 16))⟩, ⟨(some 19), none, .pick (.t 14) (.t 18) (.c (.bool false))⟩, ⟨(some 20), none, .mv (.t 19)⟩, ⟨(some 21), (some (20, true)), .fld 2 (.t 1)⟩, ⟨(some 22), (some (20, true)), .load false 1 (.t 21)⟩, ⟨(some 23), (some (20, true)), .len .l (.t 22)⟩, ⟨(some 24), (some (20, true)), .bin .eql (.t 23) (.c (.int .i64 0))⟩, ⟨(some 25), none, .pick (.t 20) (.t 24) (.c (.bool false))⟩, ⟨(some 2), none, .mv (.t 25)⟩]
def r235_3 : List AInstr :=
  [⟨(some 26), none, .fld 0 (.t 1)⟩, ⟨(some 27), none, .load false 1 (.t 26)⟩, ⟨(some 28), none, .bin .lss (.t 27) (.c (.int .i64 1))⟩, ⟨(some 29), none, .mv (.t 28)⟩, ⟨(some 30), (some (29, false)), .fld 0 (.t 1)⟩, ⟨(some 31), (some (29, false)), .load false 1 (.t 30)⟩, ⟨(some 32), (some (29, false)), .bin .gtr (.t 31) (.c (.int .i64 16))⟩, ⟨(some 33), none, .pick (.t 29) (.c (.bool true)) (.t 32)⟩, ⟨(some 34), none, .mv (.t 33)⟩, ⟨(some 35), (some (34, false)), .fld 1 (.t 1)⟩, ⟨(some 36), (some (34, false)), .load false 1 (.t 35)⟩, ⟨(some 37), (some (34, false)), .bin .neq (.t 36) (.c (.str []))⟩, ⟨(some 38), none, .pick (.t 34) (.c (.bool true)) (.t 37)⟩, ⟨(some 39), none, .mv (.t 38)⟩, ⟨(some 40), (some (39, false)), .fld 2 (.t 1)⟩, ⟨(some 41), (some (39, false)), .load false 1 (.t 40)⟩, ⟨(some 42), (some (39, false)), .len .l (.t 41)⟩, ⟨(some 43), (some (39, false)), .bin .lss (.t 42) (.c (.int .i64 2))⟩, ⟨(some 44), none, .pick (.t 39) (.c (.bool true)) (.t 43)⟩, ⟨(some 45), none, .mv (.t 44)⟩, ⟨(some 46), (some (45, false)), .fld 2 (.t 1)⟩, ⟨(some 47), (some (45, false)), .load false 1 (.t 46)⟩, ⟨(some 48), (some (45, false)), .len .l (.t 47)⟩, ⟨(some 49), (some (45, false)), .bin .gtr (.t 48) (.c (.int .i64 4))⟩, ⟨(some 50), none, .pick (.t 45) (.c (.bool true)) (.t 49)⟩]
def r235_4 : List AInstr :=
  [⟨(some 2), none, .mv (.c (.bool false))⟩]
def r235_5 : List AInstr :=
  [⟨(some 52), none, .fld 0 (.t 1)⟩, ⟨(some 53), none, .load false 1 (.t 52)⟩, ⟨(some 54), none, .bin .sub (.t 53) (.c (.int .i64 1))⟩, ⟨(some 55), none, .call 263 [(.t 54)]⟩, ⟨(some 51), none, .mv (.t 55)⟩, ⟨(some 56), none, .ext (.t 51) 0⟩, ⟨(some 57), none, .ext (.t 51) 1⟩, ⟨(some 3), none, .mv (.t 56)⟩, ⟨(some 4), none, .mv (.t 57)⟩]
def r235_6 : List AInstr :=
  [⟨(some 58), none, .fld 2 (.t 1)⟩, ⟨(some 59), none, .load false 1 (.t 58)⟩, ⟨(some 60), none, .len .l (.t 59)⟩, ⟨(some 61), none, .mv (.c (.int .i64 0))⟩]
def r235_7 : List AInstr :=
  [⟨(some 62), none, .bin .lss (.t 61) (.t 60)⟩]
def r235_8 : List AInstr :=
  [⟨(some 63), none, .idxA 4 (.t 59) (.t 61)⟩, ⟨(some 64), none, .load true 4 (.t 63)⟩, ⟨(some 6), none, .alloc [.int .u64 0, .int .i64 0, .int .i64 0, .int .i64 0]⟩, ⟨none, none, .store 4 (.t 6) (.t 64)⟩]
def r235_9 : List AInstr :=
  [⟨(some 65), none, .fld 0 (.t 6)⟩, ⟨(some 66), none, .load false 1 (.t 65)⟩, ⟨(some 67), none, .call 264 [(.t 66)]⟩, ⟨(some 68), none, .bin .neq (.t 67) (.c (.int .i64 0))⟩, ⟨(some 69), none, .mv (.t 68)⟩, ⟨(some 70), (some (69, false)), .fld 1 (.t 6)⟩, ⟨(some 71), (some (69, false)), .fld 0 (.t 70)⟩, ⟨(some 72), (some (69, false)), .load false 1 (.t 71)⟩, ⟨(some 73), (some (69, false)), .mv (.t 3)⟩, ⟨(some 74), (some (69, false)), .bin .lss (.t 72) (.t 73)⟩, ⟨(some 75), none, .pick (.t 69) (.c (.bool true)) (.t 74)⟩, ⟨(some 76), none, .mv (.t 75)⟩, ⟨(some 77), (some (76, false)), .fld 1 (.t 6)⟩, ⟨(some 78), (some (76, false)), .fld 0 (.t 77)⟩, ⟨(some 79), (some (76, false)), .load false 1 (.t 78)⟩, ⟨(some 80), (some (76, false)), .mv (.t 4)⟩, ⟨(some 81), (some (76, false)), .bin .gtr (.t 79) (.t 80)⟩, ⟨(some 82), none, .pick (.t 76) (.c (.bool true)) (.t 81)⟩, ⟨(some 83), none, .mv (.t 82)⟩, ⟨(some 84), (some (83, false)), .fld 1 (.t 6)⟩, ⟨(some 85), (some (83, false)), .fld 1 (.t 84)⟩, ⟨(some 86), (some (83, false)), .load false 1 (.t 85)⟩, ⟨(some 87), (some (83, false)), .bin .lss (.t 86) (.c (.int .i64 0))⟩, ⟨(some 88), none, .pick (.t 83) (.c (.bool true)) (.t 87)⟩, ⟨(some 89), none, .mv (.t 88)⟩, ⟨(some 90), (some (89, false)), .fld 1 (.t 6)⟩, ⟨(some 91), (some (89, false)), .fld 1 (.t 90)⟩, ⟨(some 92), (some (89, false)), .load false 1 (.t 91)⟩, ⟨(some 93), (some (89, false)), .fld 1 (.t 6)⟩, ⟨(some 94), (some (89, false)), .fld 0 (.t 93)⟩, ⟨(some 95), (some (89, false)), .load false 1 (.t 94)⟩, ⟨(some 96), (some (89, false)), .bin .gtr (.t 92) (.t 95)⟩, ⟨(some 97), none, .pick (.t 89) (.c (.bool true)) (.t 96)⟩, ⟨(some 98), none, .mv (.t 97)⟩, ⟨(some 99), (some (98, false)), .fld 1 (.t 6)⟩, ⟨(some 100), (some (98, false)), .fld 2 (.t 99)⟩, ⟨(some 101), (some (98, false)), .load false 1 (.t 100)⟩, ⟨(some 102), (some (98, false)), .bin .lss (.t 101) (.c (.int .i64 0))⟩, ⟨(some 103), none, .pick (.t 98) (.c (.bool true)) (.t 102)⟩, ⟨(some 104), none, .mv (.t 103)⟩, ⟨(some 105), (some (104, false)), .fld 1 (.t 6)⟩, ⟨(some 106), (some (104, false)), .fld 2 (.t 105)⟩, ⟨(some 107), (some (104, false)), .load false 1 (.t 106)⟩, ⟨(some 108), (some (104, false)), .fld 1 (.t 6)⟩, ⟨(some 109), (some (104, false)), .fld 1 (.t 108)⟩, ⟨(some 110), (some (104, false)), .load false 1 (.t 109)⟩, ⟨(some 111), (some (104, false)), .bin .gtr (.t 107) (.t 110)⟩, ⟨(some 112), none, .pick (.t 104) (.c (.bool true)) (.t 111)⟩]
def r235_10 : List AInstr :=
  [⟨(some 2), none, .mv (.c (.bool false))⟩]
def r235_11 : List AInstr :=
  [⟨(some 113), none, .bin .add (.t 61) (.c (.int .i64 1))⟩, ⟨(some 61), none, .mv (.t 113)⟩]
def l235_12 : ACode :=
  .seq (.rg r235_7) (.seq (.cond (.t 62) (.skip) (.exit 0)) (.seq (.block 1 (.seq (.rg r235_8) (.seq (.rg r235_9) (.cond (.t 112) (.seq (.rg r235_10) (.ret)) (.skip))))) (.rg r235_11)))
def r235_12 : List AInstr :=
  [⟨(some 2), none, .mv (.c (.bool true))⟩]
def c235 : ACode :=
  .seq (.rg r235_0) (.seq (.seq (.rg r235_1) (.cond (.t 9) (.seq (.rg r235_2) (.ret)) (.skip))) (.seq (.seq (.rg r235_3) (.cond (.t 50) (.seq (.rg r235_4) (.ret)) (.skip))) (.seq (.rg r235_5) (.seq (.seq (.rg r235_6) (.block 0 (.loop l235_12))) (.seq (.rg r235_12) (.ret))))))
def a235 : AFunc := { np := 1, nt := 114, res := [.tmp 2], body := c235 }

/- handle.Make -/
def r236_0 : List AInstr :=
  [⟨(some 4), none, .mv (.c (.int .u64 0))⟩, ⟨(some 5), none, .mv (.c (.int .i64 0))⟩]
def r236_1 : List AInstr :=
  [⟨(some 6), none, .mv (.t 0)⟩, ⟨(some 7), none, .bin .lss (.t 6) (.c (.int .i64 0))⟩, ⟨(some 8), none, .mv (.t 7)⟩, ⟨(some 9), (some (8, false)), .mv (.t 0)⟩, ⟨(some 10), (some (8, false)), .bin .geq (.t 9) (.c (.int .i64 16384))⟩, ⟨(some 11), none, .pick (.t 8) (.c (.bool true)) (.t 10)⟩, ⟨(some 12), none, .mv (.t 11)⟩, ⟨(some 13), (some (12, false)), .mv (.t 1)⟩, ⟨(some 14), (some (12, false)), .bin .lss (.t 13) (.c (.int .u64 1))⟩, ⟨(some 15), none, .pick (.t 12) (.c (.bool true)) (.t 14)⟩, ⟨(some 16), none, .mv (.t 15)⟩, ⟨(some 17), (some (16, false)), .mv (.t 1)⟩, ⟨(some 18), (some (16, false)), .bin .gtr (.t 17) (.c (.int .u64 4294967295))⟩, ⟨(some 19), none, .pick (.t 16) (.c (.bool true)) (.t 18)⟩]
def r236_2 : List AInstr :=
  [⟨(some 4), none, .mv (.c (.int .u64 0))⟩, ⟨(some 5), none, .mv (.c (.int .i64 3))⟩]
def r236_3 : List AInstr :=
  [⟨(some 20), none, .mv (.t 1)⟩, ⟨(some 21), none, .bin .shl (.t 20) (.c (.int .u64 16))⟩, ⟨(some 22), none, .mv (.t 0)⟩, ⟨(some 23), none, .conv .u64 (.t 22)⟩, ⟨(some 24), none, .bin .or (.t 21) (.t 23)⟩, ⟨(some 4), none, .mv (.t 24)⟩, ⟨(some 5), none, .mv (.c (.int .i64 0))⟩]
def c236 : ACode :=
  .seq (.rg r236_0) (.seq (.seq (.rg r236_1) (.cond (.t 19) (.seq (.rg r236_2) (.ret)) (.skip))) (.seq (.rg r236_3) (.ret)))
def a236 : AFunc := { np := 2, nt := 25, res := [.tmp 4, .tmp 5], body := c236 }

/- chunk.sizes$1 -/
def r251_0 : List AInstr :=
  [⟨(some 4), none, .mv (.c (.int .i64 0))⟩]
def r251_1 : List AInstr :=
  [⟨(some 5), none, .mv (.t 0)⟩, ⟨(some 6), none, .load false 1 (.t 1)⟩, ⟨(some 7), none, .load false 1 (.t 2)⟩, ⟨(some 8), none, .bin .rem (.t 6) (.t 7)⟩, ⟨(some 9), none, .bin .lss (.t 5) (.t 8)⟩]
def r251_2 : List AInstr :=
  [⟨(some 10), none, .load false 1 (.t 1)⟩, ⟨(some 11), none, .load false 1 (.t 2)⟩, ⟨(some 12), none, .bin .quo (.t 10) (.t 11)⟩, ⟨(some 13), none, .bin .add (.t 12) (.c (.int .i64 1))⟩, ⟨(some 4), none, .mv (.t 13)⟩]
def r251_3 : List AInstr :=
  [⟨(some 14), none, .load false 1 (.t 1)⟩, ⟨(some 15), none, .load false 1 (.t 2)⟩, ⟨(some 16), none, .bin .quo (.t 14) (.t 15)⟩, ⟨(some 4), none, .mv (.t 16)⟩]
def c251 : ACode :=
  .seq (.rg r251_0) (.seq (.seq (.rg r251_1) (.cond (.t 9) (.seq (.rg r251_2) (.ret)) (.skip))) (.seq (.rg r251_3) (.ret)))
def a251 : AFunc := { np := 3, nt := 17, res := [.tmp 4], body := c251 }

/- chunk.leaf -/
def r252_0 : List AInstr :=
  [⟨(some 2), none, .mv (.c (.bool false))⟩]
def r252_1 : List AInstr :=
  [⟨(some 3), none, .mv (.t 0)⟩, ⟨(some 4), none, .len .s (.t 3)⟩, ⟨(some 5), none, .bin .geq (.t 4) (.c (.int .i64 1))⟩, ⟨(some 6), none, .mv (.t 5)⟩, ⟨(some 7), (some (6, true)), .mv (.t 0)⟩, ⟨(some 8), (some (6, true)), .len .s (.t 7)⟩, ⟨(some 9), (some (6, true)), .bin .leq (.t 8) (.c (.int .i64 16))⟩, ⟨(some 10), none, .pick (.t 6) (.t 9) (.c (.bool false))⟩, ⟨(some 2), none, .mv (.t 10)⟩]
def c252 : ACode :=
  .seq (.rg r252_0) (.seq (.rg r252_1) (.ret))
def a252 : AFunc := { np := 1, nt := 11, res := [.tmp 2], body := c252 }

/- plan.leaves -/
def r253_0 : List AInstr :=
  [⟨(some 4), none, .box 7 (.t 1)⟩, ⟨(some 5), none, .box 7 (.t 2)⟩, ⟨(some 6), none, .mv (.c (.vs [] .ex))⟩, ⟨(some 7), none, .mv (.c (.int .i64 0))⟩]
def r253_1 : List AInstr :=
  [⟨(some 17), none, .load true 7 (.t 4)⟩, ⟨(some 18), none, .call 168 [(.t 17)]⟩, ⟨(some 19), none, .load true 7 (.t 5)⟩, ⟨(some 20), none, .call 168 [(.t 19)]⟩, ⟨(some 8), none, .mv (.t 18)⟩, ⟨(some 9), none, .mv (.t 20)⟩]
def r253_2 : List AInstr :=
  [⟨(some 21), none, .mv (.t 8)⟩, ⟨(some 22), none, .mv (.t 9)⟩, ⟨(some 23), none, .bin .add (.t 21) (.t 22)⟩, ⟨(some 24), none, .bin .gtr (.t 23) (.c (.int .i64 16))⟩, ⟨(some 25), none, .mv (.t 24)⟩, ⟨(some 26), (some (25, true)), .mv (.t 8)⟩, ⟨(some 27), (some (25, true)), .bin .geq (.t 26) (.c (.int .i64 8))⟩, ⟨(some 28), none, .pick (.t 25) (.t 27) (.c (.bool false))⟩, ⟨(some 29), none, .mv (.t 28)⟩, ⟨(some 30), (some (29, true)), .mv (.t 9)⟩, ⟨(some 31), (some (29, true)), .bin .geq (.t 30) (.c (.int .i64 8))⟩, ⟨(some 32), none, .pick (.t 29) (.t 31) (.c (.bool false))⟩]
def r253_3 : List AInstr :=
  [⟨(some 33), none, .load true 7 (.t 4)⟩, ⟨(some 34), none, .load true 7 (.t 5)⟩, ⟨(some 35), none, .lit 7 [(.t 33), (.t 34)]⟩, ⟨(some 6), none, .mv (.t 35)⟩, ⟨(some 7), none, .mv (.c (.int .i64 0))⟩]
def r253_4 : List AInstr :=
  [⟨(some 37), none, .mv (.t 0)⟩, ⟨(some 38), none, .load true 7 (.t 4)⟩, ⟨(some 39), none, .call 95 [(.t 37), (.t 38)]⟩, ⟨(some 36), none, .mv (.t 39)⟩, ⟨(some 40), none, .ext (.t 36) 0⟩, ⟨(some 41), none, .ext (.t 36) 1⟩, ⟨(some 10), none, .mv (.t 40)⟩, ⟨(some 11), none, .mv (.t 41)⟩]
def r253_5 : List AInstr :=
  [⟨(some 42), none, .mv (.t 11)⟩, ⟨(some 43), none, .bin .neq (.t 42) (.c (.int .i64 0))⟩]
def r253_6 : List AInstr :=
  [⟨(some 44), none, .mv (.t 11)⟩, ⟨(some 6), none, .mv (.c (.vs [] .ex))⟩, ⟨(some 7), none, .mv (.t 44)⟩]
def r253_7 : List AInstr :=
  [⟨(some 46), none, .mv (.t 0)⟩, ⟨(some 47), none, .load true 7 (.t 5)⟩, ⟨(some 48), none, .call 95 [(.t 46), (.t 47)]⟩, ⟨(some 45), none, .mv (.t 48)⟩, ⟨(some 49), none, .ext (.t 45) 0⟩, ⟨(some 50), none, .ext (.t 45) 1⟩, ⟨(some 12), none, .mv (.t 49)⟩, ⟨(some 11), none, .mv (.t 50)⟩]
def r253_8 : List AInstr :=
  [⟨(some 51), none, .mv (.t 11)⟩, ⟨(some 52), none, .bin .neq (.t 51) (.c (.int .i64 0))⟩]
def r253_9 : List AInstr :=
  [⟨(some 53), none, .mv (.t 11)⟩, ⟨(some 6), none, .mv (.c (.vs [] .ex))⟩, ⟨(some 7), none, .mv (.t 53)⟩]
def r253_10 : List AInstr :=
  [⟨(some 55), none, .mv (.t 10)⟩, ⟨(some 56), none, .mv (.t 12)⟩, ⟨(some 57), none, .call 274 [(.t 55), (.t 56)]⟩, ⟨(some 54), none, .mv (.t 57)⟩, ⟨(some 58), none, .ext (.t 54) 0⟩, ⟨(some 59), none, .ext (.t 54) 1⟩, ⟨(some 13), none, .mv (.t 58)⟩, ⟨(some 11), none, .mv (.t 59)⟩]
def r253_11 : List AInstr :=
  [⟨(some 60), none, .mv (.t 11)⟩, ⟨(some 61), none, .bin .neq (.t 60) (.c (.int .i64 0))⟩]
def r253_12 : List AInstr :=
  [⟨(some 62), none, .mv (.t 11)⟩, ⟨(some 6), none, .mv (.c (.vs [] .ex))⟩, ⟨(some 7), none, .mv (.t 62)⟩]
def r253_13 : List AInstr :=
  [⟨(some 14), none, .mv (.c (.vs [] .ex))⟩]
def r253_14 : List AInstr :=
  [⟨(some 63), none, .mv (.t 13)⟩, ⟨(some 64), none, .len .l (.t 63)⟩, ⟨(some 65), none, .mv (.c (.int .i64 0))⟩]
def r253_15 : List AInstr :=
  [⟨(some 66), none, .bin .lss (.t 65) (.t 64)⟩]
def r253_16 : List AInstr :=
  [⟨(some 67), none, .idxA 1 (.t 63) (.t 65)⟩, ⟨(some 68), none, .load false 1 (.t 67)⟩, ⟨(some 16), none, .mv (.t 68)⟩]
def r253_17 : List AInstr :=
  [⟨(some 69), none, .mv (.t 14)⟩, ⟨(some 70), none, .mv (.t 16)⟩, ⟨(some 71), none, .build [.int .u64 0, .int .i64 0, .int .i64 0, .int .i64 0, .int .i64 0, .str [], .vs [] .ex] [(5, 1, (.t 70))]⟩, ⟨(some 72), none, .lit 7 [(.t 71)]⟩, ⟨(some 73), none, .app true 7 80 (.t 69) (.t 72)⟩, ⟨(some 14), none, .mv (.t 73)⟩]
def r253_18 : List AInstr :=
  [⟨(some 74), none, .bin .add (.t 65) (.c (.int .i64 1))⟩, ⟨(some 65), none, .mv (.t 74)⟩]
def l253_19 : ACode :=
  .seq (.rg r253_15) (.seq (.cond (.t 66) (.skip) (.exit 0)) (.seq (.block 1 (.seq (.rg r253_16) (.rg r253_17))) (.rg r253_18)))
def r253_19 : List AInstr :=
  [⟨(some 75), none, .mv (.t 14)⟩, ⟨(some 6), none, .mv (.t 75)⟩, ⟨(some 7), none, .mv (.c (.int .i64 0))⟩]
def c253 : ACode :=
  .seq (.rg r253_0) (.seq (.qrg r253_1 [[], [0], [], [2, 1], [1, 3, 0, 1], [3, 4, 0, 1, 2, 3, 4]]) (.seq (.seq (.rg r253_2) (.cond (.t 32) (.seq (.rg r253_3) (.ret)) (.skip))) (.seq (.rg r253_4) (.seq (.seq (.rg r253_5) (.cond (.t 43) (.seq (.rg r253_6) (.ret)) (.skip))) (.seq (.rg r253_7) (.seq (.seq (.rg r253_8) (.cond (.t 52) (.seq (.rg r253_9) (.ret)) (.skip))) (.seq (.rg r253_10) (.seq (.seq (.rg r253_11) (.cond (.t 61) (.seq (.rg r253_12) (.ret)) (.skip))) (.seq (.rg r253_13) (.seq (.seq (.rg r253_14) (.block 0 (.loop l253_19))) (.seq (.rg r253_19) (.ret))))))))))))
def a253 : AFunc := { np := 3, nt := 76, res := [.tmp 6, .tmp 7], body := c253 }

/- plan.fold -/
def r254_0 : List AInstr :=
  [⟨(some 2), none, .mv (.c (.vs [] .ex))⟩]
def r254_1 : List AInstr :=
  [⟨(some 4), none, .mv (.t 0)⟩, ⟨(some 5), none, .len .l (.t 4)⟩, ⟨(some 6), none, .bin .leq (.t 5) (.c (.int .i64 4))⟩]
def r254_2 : List AInstr :=
  [⟨(some 7), none, .mv (.t 0)⟩, ⟨(some 8), none, .call 167 [(.t 7)]⟩, ⟨(some 9), none, .lit 7 [(.t 8)]⟩, ⟨(some 2), none, .mv (.t 9)⟩]
def r254_3 : List AInstr :=
  [⟨(some 10), none, .mv (.t 0)⟩, ⟨(some 11), none, .len .l (.t 10)⟩, ⟨(some 12), none, .bin .add (.t 11) (.c (.int .i64 1))⟩, ⟨(some 13), none, .bin .quo (.t 12) (.c (.int .i64 2))⟩, ⟨(some 3), none, .mv (.t 13)⟩]
def r254_4 : List AInstr :=
  [⟨(some 14), none, .mv (.t 0)⟩, ⟨(some 15), none, .mv (.t 3)⟩, ⟨(some 16), none, .slice 7 (.t 14) none (some (.t 15)) none⟩, ⟨(some 17), none, .call 167 [(.t 16)]⟩, ⟨(some 18), none, .mv (.t 0)⟩, ⟨(some 19), none, .mv (.t 3)⟩, ⟨(some 20), none, .slice 7 (.t 18) (some (.t 19)) none none⟩, ⟨(some 21), none, .call 167 [(.t 20)]⟩, ⟨(some 22), none, .lit 7 [(.t 17), (.t 21)]⟩, ⟨(some 2), none, .mv (.t 22)⟩]
def c254 : ACode :=
  .seq (.rg r254_0) (.seq (.seq (.rg r254_1) (.cond (.t 6) (.seq (.rg r254_2) (.ret)) (.skip))) (.seq (.rg r254_3) (.seq (.rg r254_4) (.ret))))
def a254 : AFunc := { np := 1, nt := 23, res := [.tmp 2], body := c254 }

/- (*rope.Pen).put$1 -/
def r255_0 : List AInstr :=
  [⟨(some 3), none, .mv (.c (.int .u64 0))⟩, ⟨(some 4), none, .mv (.c (.int .i64 0))⟩]
def r255_1 : List AInstr :=
  [⟨(some 8), none, .load false 1 (.t 0)⟩, ⟨(some 9), none, .nilc (.t 8)⟩, ⟨(some 10), none, .fld 0 (.t 9)⟩, ⟨(some 11), none, .load false 1 (.t 10)⟩, ⟨(some 12), none, .load false 1 (.t 1)⟩, ⟨(some 13), none, .callv (.t 12) []⟩, ⟨(some 14), none, .call 130 [(.t 11), (.t 13)]⟩, ⟨(some 7), none, .mv (.t 14)⟩, ⟨(some 15), none, .ext (.t 7) 0⟩, ⟨(some 16), none, .ext (.t 7) 1⟩, ⟨(some 5), none, .mv (.t 15)⟩, ⟨(some 6), none, .mv (.t 16)⟩]
def r255_2 : List AInstr :=
  [⟨(some 17), none, .mv (.t 6)⟩, ⟨(some 18), none, .bin .eql (.t 17) (.c (.int .i64 0))⟩]
def r255_3 : List AInstr :=
  [⟨(some 19), none, .load false 1 (.t 2)⟩, ⟨(some 20), none, .mv (.t 5)⟩, ⟨(some 21), none, .nilc (.t 19)⟩, ⟨(some 22), none, .fld 0 (.t 21)⟩, ⟨none, none, .store 1 (.t 22) (.t 20)⟩]
def r255_4 : List AInstr :=
  [⟨(some 23), none, .mv (.t 5)⟩, ⟨(some 24), none, .mv (.t 6)⟩, ⟨(some 3), none, .mv (.t 23)⟩, ⟨(some 4), none, .mv (.t 24)⟩]
def c255 : ACode :=
  .seq (.rg r255_0) (.seq (.qrg r255_1 [[], [0], [1], [2], [], [4], [3, 5, 5], [6], [7], [7], [8, 6, 0, 1, 2, 3, 4, 5, 6, 7, 8], [9, 10, 0, 1, 2, 3, 4, 5, 6, 7, 8, 9, 10]]) (.seq (.seq (.rg r255_2) (.cond (.t 18) (.rg r255_3) (.skip))) (.seq (.rg r255_4) (.ret))))
def a255 : AFunc := { np := 3, nt := 25, res := [.tmp 3, .tmp 4], body := c255 }

/- measure.Of -/
def r256_0 : List AInstr :=
  [⟨(some 2), none, .alloc [.int .i64 0, .int .i64 0, .int .i64 0]⟩]
def r256_1 : List AInstr :=
  [⟨(some 3), none, .alloc [.int .i64 0, .int .i64 0, .int .i64 0]⟩]
def r256_2 : List AInstr :=
  [⟨(some 6), none, .build [.nilfn, .nilfn, .nilfn] [(0, 1, (.c (.fn 275 []))), (1, 1, (.c (.fn 276 []))), (2, 1, (.c (.fn 277 [])))]⟩, ⟨(some 7), none, .mv (.c (.int .i64 0))⟩]
def r256_3 : List AInstr :=
  [⟨(some 8), none, .bin .lss (.t 7) (.c (.int .i64 3))⟩]
def r256_4 : List AInstr :=
  [⟨(some 9), none, .mv (.t 7)⟩, ⟨(some 10), none, .idx false 1 3 (.t 6) (.t 7)⟩, ⟨(some 4), none, .mv (.t 9)⟩, ⟨(some 5), none, .mv (.t 10)⟩]
def r256_5 : List AInstr :=
  [⟨(some 11), none, .mv (.t 4)⟩, ⟨(some 12), none, .mv (.t 0)⟩, ⟨(some 13), none, .mv (.t 5)⟩, ⟨(some 14), none, .call 278 [(.t 12), (.t 13)]⟩, ⟨(some 15), none, .idxP 1 3 (.t 3) (.t 11)⟩, ⟨none, none, .store 1 (.t 15) (.t 14)⟩]
def r256_6 : List AInstr :=
  [⟨(some 16), none, .bin .add (.t 7) (.c (.int .i64 1))⟩, ⟨(some 7), none, .mv (.t 16)⟩]
def l256_7 : ACode :=
  .seq (.rg r256_3) (.seq (.cond (.t 8) (.skip) (.exit 0)) (.seq (.block 1 (.seq (.rg r256_4) (.rg r256_5))) (.rg r256_6)))
def r256_7 : List AInstr :=
  [⟨(some 17), none, .load true 3 (.t 3)⟩, ⟨(some 18), none, .call 279 [(.t 17)]⟩, ⟨none, none, .store 3 (.t 2) (.t 18)⟩]
def c256 : ACode :=
  .seq (.rg r256_0) (.seq (.rg r256_1) (.seq (.seq (.rg r256_2) (.block 0 (.loop l256_7))) (.seq (.rg r256_7) (.ret))))
def a256 : AFunc := { np := 1, nt := 19, res := [.cell 2 true 3], body := c256 }

/- measure.Add -/
def r257_0 : List AInstr :=
  [⟨(some 2), none, .alloc [.int .i64 0, .int .i64 0, .int .i64 0]⟩]
def r257_1 : List AInstr :=
  [⟨(some 3), none, .alloc [.int .i64 0, .int .i64 0, .int .i64 0]⟩]
def r257_2 : List AInstr :=
  [⟨(some 8), none, .mv (.t 0)⟩, ⟨(some 9), none, .len .l (.t 8)⟩, ⟨(some 10), none, .mv (.c (.int .i64 0))⟩]
def r257_3 : List AInstr :=
  [⟨(some 11), none, .bin .lss (.t 10) (.t 9)⟩]
def r257_4 : List AInstr :=
  [⟨(some 12), none, .idxA 3 (.t 8) (.t 10)⟩, ⟨(some 13), none, .load true 3 (.t 12)⟩, ⟨(some 5), none, .alloc [.int .i64 0, .int .i64 0, .int .i64 0]⟩, ⟨none, none, .store 3 (.t 5) (.t 13)⟩]
def r257_5 : List AInstr :=
  [⟨(some 14), none, .fld 0 (.t 5)⟩, ⟨(some 15), none, .load false 1 (.t 14)⟩, ⟨(some 16), none, .fld 1 (.t 5)⟩, ⟨(some 17), none, .load false 1 (.t 16)⟩, ⟨(some 18), none, .fld 2 (.t 5)⟩, ⟨(some 19), none, .load false 1 (.t 18)⟩, ⟨(some 20), none, .build [.int .i64 0, .int .i64 0, .int .i64 0] [(0, 1, (.t 15)), (1, 1, (.t 17)), (2, 1, (.t 19))]⟩, ⟨(some 21), none, .mv (.c (.int .i64 0))⟩]
def r257_6 : List AInstr :=
  [⟨(some 22), none, .bin .lss (.t 21) (.c (.int .i64 3))⟩]
def r257_7 : List AInstr :=
  [⟨(some 23), none, .mv (.t 21)⟩, ⟨(some 24), none, .idx false 1 3 (.t 20) (.t 21)⟩, ⟨(some 6), none, .mv (.t 23)⟩, ⟨(some 7), none, .mv (.t 24)⟩]
def r257_8 : List AInstr :=
  [⟨(some 25), none, .mv (.t 6)⟩, ⟨(some 26), none, .idxP 1 3 (.t 3) (.t 25)⟩, ⟨(some 27), none, .load false 1 (.t 26)⟩, ⟨(some 28), none, .mv (.t 7)⟩, ⟨(some 29), none, .bin .add (.t 27) (.t 28)⟩, ⟨(some 30), none, .idxP 1 3 (.t 3) (.t 25)⟩, ⟨none, none, .store 1 (.t 30) (.t 29)⟩]
def r257_9 : List AInstr :=
  [⟨(some 31), none, .bin .add (.t 21) (.c (.int .i64 1))⟩, ⟨(some 21), none, .mv (.t 31)⟩]
def l257_10 : ACode :=
  .seq (.rg r257_6) (.seq (.cond (.t 22) (.skip) (.exit 2)) (.seq (.block 3 (.seq (.rg r257_7) (.rg r257_8))) (.rg r257_9)))
def r257_10 : List AInstr :=
  [⟨(some 32), none, .bin .add (.t 10) (.c (.int .i64 1))⟩, ⟨(some 10), none, .mv (.t 32)⟩]
def l257_12 : ACode :=
  .seq (.rg r257_3) (.seq (.cond (.t 11) (.skip) (.exit 0)) (.seq (.block 1 (.seq (.rg r257_4) (.seq (.rg r257_5) (.block 2 (.loop l257_10))))) (.rg r257_10)))
def r257_11 : List AInstr :=
  [⟨(some 33), none, .load true 3 (.t 3)⟩, ⟨(some 34), none, .call 279 [(.t 33)]⟩, ⟨none, none, .store 3 (.t 2) (.t 34)⟩]
def c257 : ACode :=
  .seq (.rg r257_0) (.seq (.rg r257_1) (.seq (.seq (.rg r257_2) (.block 0 (.loop l257_12))) (.seq (.rg r257_11) (.ret))))
def a257 : AFunc := { np := 1, nt := 35, res := [.cell 2 true 3], body := c257 }

/- node.bounds -/
def r263_0 : List AInstr :=
  [⟨(some 2), none, .mv (.c (.int .i64 0))⟩, ⟨(some 3), none, .mv (.c (.int .i64 0))⟩]
def r263_1 : List AInstr :=
  [⟨(some 2), none, .mv (.c (.int .i64 8))⟩, ⟨(some 3), none, .mv (.c (.int .i64 16))⟩]
def r263_2 : List AInstr :=
  [⟨(some 4), none, .mv (.t 0)⟩, ⟨(some 5), none, .mv (.c (.int .i64 0))⟩]
def r263_3 : List AInstr :=
  [⟨(some 6), none, .bin .lss (.t 5) (.t 4)⟩]
def r263_4 : List AInstr :=
  [⟨(some 7), none, .mv (.t 2)⟩, ⟨(some 8), none, .bin .mul (.t 7) (.c (.int .i64 2))⟩, ⟨(some 2), none, .mv (.t 8)⟩]
def r263_5 : List AInstr :=
  [⟨(some 9), none, .mv (.t 3)⟩, ⟨(some 10), none, .bin .mul (.t 9) (.c (.int .i64 4))⟩, ⟨(some 11), none, .min (.t 10) (.c (.int .i64 65536))⟩, ⟨(some 3), none, .mv (.t 11)⟩]
def r263_6 : List AInstr :=
  [⟨(some 12), none, .bin .add (.t 5) (.c (.int .i64 1))⟩, ⟨(some 5), none, .mv (.t 12)⟩]
def l263_7 : ACode :=
  .seq (.rg r263_3) (.seq (.cond (.t 6) (.skip) (.exit 0)) (.seq (.block 1 (.seq (.rg r263_4) (.rg r263_5))) (.rg r263_6)))
def r263_7 : List AInstr :=
  [⟨(some 13), none, .mv (.t 2)⟩, ⟨(some 14), none, .mv (.t 3)⟩, ⟨(some 15), none, .min (.t 14) (.c (.int .i64 65536))⟩, ⟨(some 2), none, .mv (.t 13)⟩, ⟨(some 3), none, .mv (.t 15)⟩]
def c263 : ACode :=
  .seq (.rg r263_0) (.seq (.rg r263_1) (.seq (.seq (.rg r263_2) (.block 0 (.loop l263_7))) (.seq (.rg r263_7) (.ret))))
def a263 : AFunc := { np := 1, nt := 16, res := [.tmp 2, .tmp 3], body := c263 }

/- handle.Check -/
def r264_0 : List AInstr :=
  [⟨(some 2), none, .mv (.c (.int .i64 0))⟩]
def r264_1 : List AInstr :=
  [⟨(some 6), none, .mv (.t 0)⟩, ⟨(some 7), none, .call 273 [(.t 6)]⟩, ⟨(some 5), none, .mv (.t 7)⟩, ⟨(some 8), none, .ext (.t 5) 0⟩, ⟨(some 9), none, .ext (.t 5) 1⟩, ⟨(some 3), none, .mv (.t 8)⟩, ⟨(some 4), none, .mv (.t 9)⟩]
def r264_2 : List AInstr :=
  [⟨(some 10), none, .mv (.t 3)⟩, ⟨(some 11), none, .bin .geq (.t 10) (.c (.int .i64 16384))⟩, ⟨(some 12), none, .mv (.t 11)⟩, ⟨(some 13), (some (12, false)), .mv (.t 4)⟩, ⟨(some 14), (some (12, false)), .bin .lss (.t 13) (.c (.int .u64 1))⟩, ⟨(some 15), none, .pick (.t 12) (.c (.bool true)) (.t 14)⟩, ⟨(some 16), none, .mv (.t 15)⟩, ⟨(some 17), (some (16, false)), .mv (.t 4)⟩, ⟨(some 18), (some (16, false)), .bin .gtr (.t 17) (.c (.int .u64 4294967295))⟩, ⟨(some 19), none, .pick (.t 16) (.c (.bool true)) (.t 18)⟩]
def r264_3 : List AInstr :=
  [⟨(some 2), none, .mv (.c (.int .i64 2))⟩]
def r264_4 : List AInstr :=
  [⟨(some 2), none, .mv (.c (.int .i64 0))⟩]
def c264 : ACode :=
  .seq (.rg r264_0) (.seq (.seq (.rg r264_1) (.seq (.rg r264_2) (.cond (.t 19) (.seq (.rg r264_3) (.ret)) (.skip)))) (.seq (.rg r264_4) (.ret)))
def a264 : AFunc := { np := 1, nt := 20, res := [.tmp 2], body := c264 }

/- handle.parts -/
def r273_0 : List AInstr :=
  [⟨(some 2), none, .mv (.c (.int .i64 0))⟩, ⟨(some 3), none, .mv (.c (.int .u64 0))⟩]
def r273_1 : List AInstr :=
  [⟨(some 4), none, .mv (.t 0)⟩, ⟨(some 5), none, .bin .and (.t 4) (.c (.int .u64 65535))⟩, ⟨(some 6), none, .conv .i64 (.t 5)⟩, ⟨(some 7), none, .mv (.t 0)⟩, ⟨(some 8), none, .bin .shr (.t 7) (.c (.int .u64 16))⟩, ⟨(some 2), none, .mv (.t 6)⟩, ⟨(some 3), none, .mv (.t 8)⟩]
def c273 : ACode :=
  .seq (.rg r273_0) (.seq (.rg r273_1) (.ret))
def a273 : AFunc := { np := 1, nt := 9, res := [.tmp 2, .tmp 3], body := c273 }

/- chunk.Join -/
def r274_0 : List AInstr :=
  [⟨(some 4), none, .mv (.c (.vs [] .ex))⟩, ⟨(some 5), none, .mv (.c (.int .i64 0))⟩]
def r274_1 : List AInstr :=
  [⟨(some 8), none, .mv (.t 0)⟩, ⟨(some 9), none, .call 252 [(.t 8)]⟩, ⟨(some 10), none, .not (.t 9)⟩, ⟨(some 11), none, .mv (.t 10)⟩, ⟨(some 12), (some (11, false)), .mv (.t 1)⟩, ⟨(some 13), (some (11, false)), .call 252 [(.t 12)]⟩, ⟨(some 14), (some (11, false)), .not (.t 13)⟩, ⟨(some 15), none, .pick (.t 11) (.c (.bool true)) (.t 14)⟩]
def r274_2 : List AInstr :=
  [⟨(some 4), none, .mv (.c (.vs [] .ex))⟩, ⟨(some 5), none, .mv (.c (.int .i64 2))⟩]
def r274_3 : List AInstr :=
  [⟨(some 16), none, .mv (.t 0)⟩, ⟨(some 17), none, .mv (.t 1)⟩, ⟨(some 18), none, .bin .add (.t 16) (.t 17)⟩, ⟨(some 6), none, .mv (.t 18)⟩]
def r274_4 : List AInstr :=
  [⟨(some 19), none, .mv (.t 6)⟩, ⟨(some 20), none, .len .s (.t 19)⟩, ⟨(some 21), none, .bin .leq (.t 20) (.c (.int .i64 16))⟩]
def r274_5 : List AInstr :=
  [⟨(some 22), none, .mv (.t 6)⟩, ⟨(some 23), none, .lit 1 [(.t 22)]⟩, ⟨(some 4), none, .mv (.t 23)⟩, ⟨(some 5), none, .mv (.c (.int .i64 0))⟩]
def r274_6 : List AInstr :=
  [⟨(some 24), none, .mv (.t 0)⟩, ⟨(some 25), none, .len .s (.t 24)⟩, ⟨(some 26), none, .bin .geq (.t 25) (.c (.int .i64 8))⟩, ⟨(some 27), none, .mv (.t 26)⟩, ⟨(some 28), (some (27, true)), .mv (.t 1)⟩, ⟨(some 29), (some (27, true)), .len .s (.t 28)⟩, ⟨(some 30), (some (27, true)), .bin .geq (.t 29) (.c (.int .i64 8))⟩, ⟨(some 31), none, .pick (.t 27) (.t 30) (.c (.bool false))⟩]
def r274_7 : List AInstr :=
  [⟨(some 32), none, .mv (.t 0)⟩, ⟨(some 33), none, .mv (.t 1)⟩, ⟨(some 34), none, .lit 1 [(.t 32), (.t 33)]⟩, ⟨(some 4), none, .mv (.t 34)⟩, ⟨(some 5), none, .mv (.c (.int .i64 0))⟩]
def r274_8 : List AInstr :=
  [⟨(some 35), none, .mv (.t 6)⟩, ⟨(some 36), none, .len .s (.t 35)⟩, ⟨(some 37), none, .bin .add (.t 36) (.c (.int .i64 1))⟩, ⟨(some 38), none, .bin .quo (.t 37) (.c (.int .i64 2))⟩, ⟨(some 7), none, .mv (.t 38)⟩]
def r274_9 : List AInstr :=
  [⟨(some 39), none, .mv (.t 6)⟩, ⟨(some 40), none, .mv (.t 7)⟩, ⟨(some 41), none, .sslice (.t 39) none (some (.t 40))⟩, ⟨(some 42), none, .mv (.t 6)⟩, ⟨(some 43), none, .mv (.t 7)⟩, ⟨(some 44), none, .sslice (.t 42) (some (.t 43)) none⟩, ⟨(some 45), none, .lit 1 [(.t 41), (.t 44)]⟩, ⟨(some 4), none, .mv (.t 45)⟩, ⟨(some 5), none, .mv (.c (.int .i64 0))⟩]
def c274 : ACode :=
  .seq (.rg r274_0) (.seq (.seq (.rg r274_1) (.cond (.t 15) (.seq (.rg r274_2) (.ret)) (.skip))) (.seq (.rg r274_3) (.seq (.seq (.rg r274_4) (.cond (.t 21) (.seq (.rg r274_5) (.ret)) (.skip))) (.seq (.seq (.rg r274_6) (.cond (.t 31) (.seq (.rg r274_7) (.ret)) (.skip))) (.seq (.rg r274_8) (.seq (.rg r274_9) (.ret)))))))
def a274 : AFunc := { np := 2, nt := 46, res := [.tmp 4, .tmp 5], body := c274 }

/- measure.every -/
def r275_0 : List AInstr :=
  [⟨(some 2), none, .mv (.c (.bool false))⟩]
def r275_1 : List AInstr :=
  [⟨(some 2), none, .mv (.c (.bool true))⟩]
def c275 : ACode :=
  .seq (.rg r275_0) (.seq (.rg r275_1) (.ret))
def a275 : AFunc := { np := 1, nt := 3, res := [.tmp 2], body := c275 }

/- measure.begins -/
def r276_0 : List AInstr :=
  [⟨(some 2), none, .mv (.c (.bool false))⟩]
def r276_1 : List AInstr :=
  [⟨(some 3), none, .mv (.t 0)⟩, ⟨(some 4), none, .bin .lss (.t 3) (.c (.int .u8 128))⟩, ⟨(some 5), none, .mv (.t 4)⟩, ⟨(some 6), (some (5, false)), .mv (.t 0)⟩, ⟨(some 7), (some (5, false)), .bin .gtr (.t 6) (.c (.int .u8 191))⟩, ⟨(some 8), none, .pick (.t 5) (.c (.bool true)) (.t 7)⟩, ⟨(some 2), none, .mv (.t 8)⟩]
def c276 : ACode :=
  .seq (.rg r276_0) (.seq (.rg r276_1) (.ret))
def a276 : AFunc := { np := 1, nt := 9, res := [.tmp 2], body := c276 }

/- measure.feeds -/
def r277_0 : List AInstr :=
  [⟨(some 2), none, .mv (.c (.bool false))⟩]
def r277_1 : List AInstr :=
  [⟨(some 3), none, .mv (.t 0)⟩, ⟨(some 4), none, .bin .eql (.t 3) (.c (.int .u8 10))⟩, ⟨(some 2), none, .mv (.t 4)⟩]
def c277 : ACode :=
  .seq (.rg r277_0) (.seq (.rg r277_1) (.ret))
def a277 : AFunc := { np := 1, nt := 5, res := [.tmp 2], body := c277 }

/- measure.count -/
def r278_0 : List AInstr :=
  [⟨(some 4), none, .mv (.c (.int .i64 0))⟩]
def r278_1 : List AInstr :=
  [⟨(some 5), none, .mv (.c (.int .i64 0))⟩]
def r278_2 : List AInstr :=
  [⟨(some 7), none, .mv (.t 0)⟩, ⟨(some 8), none, .len .s (.t 7)⟩, ⟨(some 9), none, .mv (.c (.int .i64 0))⟩]
def r278_3 : List AInstr :=
  [⟨(some 10), none, .bin .lss (.t 9) (.t 8)⟩]
def r278_4 : List AInstr :=
  [⟨(some 11), none, .mv (.t 9)⟩, ⟨(some 6), none, .mv (.t 11)⟩]
def r278_5 : List AInstr :=
  [⟨(some 12), none, .mv (.t 1)⟩, ⟨(some 13), none, .mv (.t 0)⟩, ⟨(some 14), none, .mv (.t 6)⟩, ⟨(some 15), none, .idxS (.t 13) (.t 14)⟩, ⟨(some 16), none, .callv (.t 12) [(.t 15)]⟩]
def r278_6 : List AInstr :=
  [⟨(some 17), none, .mv (.t 5)⟩, ⟨(some 18), none, .bin .add (.t 17) (.c (.int .i64 1))⟩, ⟨(some 5), none, .mv (.t 18)⟩]
def r278_7 : List AInstr :=
  [⟨(some 19), none, .bin .add (.t 9) (.c (.int .i64 1))⟩, ⟨(some 9), none, .mv (.t 19)⟩]
def l278_8 : ACode :=
  .seq (.rg r278_3) (.seq (.cond (.t 10) (.skip) (.exit 0)) (.seq (.block 1 (.seq (.rg r278_4) (.seq (.rg r278_5) (.cond (.t 16) (.rg r278_6) (.skip))))) (.rg r278_7)))
def r278_8 : List AInstr :=
  [⟨(some 20), none, .mv (.t 5)⟩, ⟨(some 4), none, .mv (.t 20)⟩]
def c278 : ACode :=
  .seq (.rg r278_0) (.seq (.rg r278_1) (.seq (.seq (.rg r278_2) (.block 0 (.loop l278_8))) (.seq (.rg r278_8) (.ret))))
def a278 : AFunc := { np := 2, nt := 21, res := [.tmp 4], body := c278 }

/- measure.measured -/
def r279_0 : List AInstr :=
  [⟨(some 1), none, .box 3 (.t 0)⟩, ⟨(some 2), none, .alloc [.int .i64 0, .int .i64 0, .int .i64 0]⟩]
def r279_1 : List AInstr :=
  [⟨(some 3), none, .load true 3 (.t 1)⟩, ⟨(some 4), none, .build [.int .i64 0, .int .i64 0, .int .i64 0] []⟩, ⟨(some 5), none, .eqagg false [.i, .i, .i] (.t 3) (.t 4)⟩]
def r279_2 : List AInstr :=
  [⟨(some 6), none, .build [.int .i64 0, .int .i64 0, .int .i64 0] []⟩, ⟨none, none, .store 3 (.t 2) (.t 6)⟩]
def r279_3 : List AInstr :=
  [⟨(some 7), none, .idxP 1 3 (.t 1) (.c (.int .i64 0))⟩, ⟨(some 8), none, .load false 1 (.t 7)⟩, ⟨(some 9), none, .idxP 1 3 (.t 1) (.c (.int .i64 1))⟩, ⟨(some 10), none, .load false 1 (.t 9)⟩, ⟨(some 11), none, .idxP 1 3 (.t 1) (.c (.int .i64 2))⟩, ⟨(some 12), none, .load false 1 (.t 11)⟩, ⟨(some 13), none, .build [.int .i64 0, .int .i64 0, .int .i64 0] [(0, 1, (.t 8)), (1, 1, (.t 10)), (2, 1, (.t 12))]⟩, ⟨none, none, .store 3 (.t 2) (.t 13)⟩]
def c279 : ACode :=
  .seq (.rg r279_0) (.seq (.seq (.rg r279_1) (.cond (.t 5) (.seq (.rg r279_2) (.ret)) (.skip))) (.seq (.rg r279_3) (.ret)))
def a279 : AFunc := { np := 1, nt := 14, res := [.cell 2 true 3], body := c279 }

theorem ok93 : FOk Tryz.prog 93 a93 := ⟨Tryz.f93, Tryz.func93, by kernel_rfl, by kernel_rfl⟩
theorem ok94 : FOk Tryz.prog 94 a94 := ⟨Tryz.f94, Tryz.func94, by kernel_rfl, by kernel_rfl⟩
theorem ok95 : FOk Tryz.prog 95 a95 := ⟨Tryz.f95, Tryz.func95, by kernel_rfl, by kernel_rfl⟩
theorem ok96 : FOk Tryz.prog 96 a96 := ⟨Tryz.f96, Tryz.func96, by kernel_rfl, by kernel_rfl⟩
theorem ok97 : FOk Tryz.prog 97 a97 := ⟨Tryz.f97, Tryz.func97, by kernel_rfl, by kernel_rfl⟩
theorem ok98 : FOk Tryz.prog 98 a98 := ⟨Tryz.f98, Tryz.func98, by kernel_rfl, by kernel_rfl⟩
theorem ok99 : FOk Tryz.prog 99 a99 := ⟨Tryz.f99, Tryz.func99, by kernel_rfl, by kernel_rfl⟩
theorem ok100 : FOk Tryz.prog 100 a100 := ⟨Tryz.f100, Tryz.func100, by kernel_rfl, by kernel_rfl⟩
theorem ok101 : FOk Tryz.prog 101 a101 := ⟨Tryz.f101, Tryz.func101, by kernel_rfl, by kernel_rfl⟩
theorem ok102 : FOk Tryz.prog 102 a102 := ⟨Tryz.f102, Tryz.func102, by kernel_rfl, by kernel_rfl⟩
theorem ok103 : FOk Tryz.prog 103 a103 := ⟨Tryz.f103, Tryz.func103, by kernel_rfl, by kernel_rfl⟩
theorem ok104 : FOk Tryz.prog 104 a104 := ⟨Tryz.f104, Tryz.func104, by kernel_rfl, by kernel_rfl⟩
theorem ok105 : FOk Tryz.prog 105 a105 := ⟨Tryz.f105, Tryz.func105, by kernel_rfl, by kernel_rfl⟩
theorem ok106 : FOk Tryz.prog 106 a106 := ⟨Tryz.f106, Tryz.func106, by kernel_rfl, by kernel_rfl⟩
theorem ok107 : FOk Tryz.prog 107 a107 := ⟨Tryz.f107, Tryz.func107, by kernel_rfl, by kernel_rfl⟩
theorem ok108 : FOk Tryz.prog 108 a108 := ⟨Tryz.f108, Tryz.func108, by kernel_rfl, by kernel_rfl⟩
theorem ok109 : FOk Tryz.prog 109 a109 := ⟨Tryz.f109, Tryz.func109, by kernel_rfl, by kernel_rfl⟩
theorem ok110 : FOk Tryz.prog 110 a110 := ⟨Tryz.f110, Tryz.func110, by kernel_rfl, by kernel_rfl⟩
theorem ok111 : FOk Tryz.prog 111 a111 := ⟨Tryz.f111, Tryz.func111, by kernel_rfl, by kernel_rfl⟩
theorem ok112 : FOk Tryz.prog 112 a112 := ⟨Tryz.f112, Tryz.func112, by kernel_rfl, by kernel_rfl⟩
theorem ok113 : FOk Tryz.prog 113 a113 := ⟨Tryz.f113, Tryz.func113, by kernel_rfl, by kernel_rfl⟩
theorem ok114 : FOk Tryz.prog 114 a114 := ⟨Tryz.f114, Tryz.func114, by kernel_rfl, by kernel_rfl⟩
theorem ok115 : FOk Tryz.prog 115 a115 := ⟨Tryz.f115, Tryz.func115, by kernel_rfl, by kernel_rfl⟩
theorem ok116 : FOk Tryz.prog 116 a116 := ⟨Tryz.f116, Tryz.func116, by kernel_rfl, by kernel_rfl⟩
theorem ok117 : FOk Tryz.prog 117 a117 := ⟨Tryz.f117, Tryz.func117, by kernel_rfl, by kernel_rfl⟩
theorem ok118 : FOk Tryz.prog 118 a118 := ⟨Tryz.f118, Tryz.func118, by kernel_rfl, by kernel_rfl⟩
theorem ok126 : FOk Tryz.prog 126 a126 := ⟨Tryz.f126, Tryz.func126, by kernel_rfl, by kernel_rfl⟩
theorem ok130 : FOk Tryz.prog 130 a130 := ⟨Tryz.f130, Tryz.func130, by kernel_rfl, by kernel_rfl⟩
theorem ok155 : FOk Tryz.prog 155 a155 := ⟨Tryz.f155, Tryz.func155, by kernel_rfl, by kernel_rfl⟩
theorem ok156 : FOk Tryz.prog 156 a156 := ⟨Tryz.f156, Tryz.func156, by kernel_rfl, by kernel_rfl⟩
theorem ok165 : FOk Tryz.prog 165 a165 := ⟨Tryz.f165, Tryz.func165, by kernel_rfl, by kernel_rfl⟩
theorem ok166 : FOk Tryz.prog 166 a166 := ⟨Tryz.f166, Tryz.func166, by kernel_rfl, by kernel_rfl⟩
theorem ok167 : FOk Tryz.prog 167 a167 := ⟨Tryz.f167, Tryz.func167, by kernel_rfl, by kernel_rfl⟩
theorem ok168 : FOk Tryz.prog 168 a168 := ⟨Tryz.f168, Tryz.func168, by kernel_rfl, by kernel_rfl⟩
theorem ok169 : FOk Tryz.prog 169 a169 := ⟨Tryz.f169, Tryz.func169, by kernel_rfl, by kernel_rfl⟩
theorem ok170 : FOk Tryz.prog 170 a170 := ⟨Tryz.f170, Tryz.func170, by kernel_rfl, by kernel_rfl⟩
theorem ok171 : FOk Tryz.prog 171 a171 := ⟨Tryz.f171, Tryz.func171, by kernel_rfl, by kernel_rfl⟩
theorem ok172 : FOk Tryz.prog 172 a172 := ⟨Tryz.f172, Tryz.func172, by kernel_rfl, by kernel_rfl⟩
theorem ok173 : FOk Tryz.prog 173 a173 := ⟨Tryz.f173, Tryz.func173, by kernel_rfl, by kernel_rfl⟩
theorem ok174 : FOk Tryz.prog 174 a174 := ⟨Tryz.f174, Tryz.func174, by kernel_rfl, by kernel_rfl⟩
theorem ok175 : FOk Tryz.prog 175 a175 := ⟨Tryz.f175, Tryz.func175, by kernel_rfl, by kernel_rfl⟩
theorem ok176 : FOk Tryz.prog 176 a176 := ⟨Tryz.f176, Tryz.func176, by kernel_rfl, by kernel_rfl⟩
theorem ok177 : FOk Tryz.prog 177 a177 := ⟨Tryz.f177, Tryz.func177, by kernel_rfl, by kernel_rfl⟩
theorem ok178 : FOk Tryz.prog 178 a178 := ⟨Tryz.f178, Tryz.func178, by kernel_rfl, by kernel_rfl⟩
theorem ok179 : FOk Tryz.prog 179 a179 := ⟨Tryz.f179, Tryz.func179, by kernel_rfl, by kernel_rfl⟩
theorem ok180 : FOk Tryz.prog 180 a180 := ⟨Tryz.f180, Tryz.func180, by kernel_rfl, by kernel_rfl⟩
theorem ok181 : FOk Tryz.prog 181 a181 := ⟨Tryz.f181, Tryz.func181, by kernel_rfl, by kernel_rfl⟩
theorem ok189 : FOk Tryz.prog 189 a189 := ⟨Tryz.f189, Tryz.func189, by kernel_rfl, by kernel_rfl⟩
theorem ok190 : FOk Tryz.prog 190 a190 := ⟨Tryz.f190, Tryz.func190, by kernel_rfl, by kernel_rfl⟩
theorem ok191 : FOk Tryz.prog 191 a191 := ⟨Tryz.f191, Tryz.func191, by kernel_rfl, by kernel_rfl⟩
theorem ok213 : FOk Tryz.prog 213 a213 := ⟨Tryz.f213, Tryz.func213, by kernel_rfl, by kernel_rfl⟩
theorem ok218 : FOk Tryz.prog 218 a218 := ⟨Tryz.f218, Tryz.func218, by kernel_rfl, by kernel_rfl⟩
theorem ok219 : FOk Tryz.prog 219 a219 := ⟨Tryz.f219, Tryz.func219, by kernel_rfl, by kernel_rfl⟩
theorem ok220 : FOk Tryz.prog 220 a220 := ⟨Tryz.f220, Tryz.func220, by kernel_rfl, by kernel_rfl⟩
theorem ok221 : FOk Tryz.prog 221 a221 := ⟨Tryz.f221, Tryz.func221, by kernel_rfl, by kernel_rfl⟩
theorem ok222 : FOk Tryz.prog 222 a222 := ⟨Tryz.f222, Tryz.func222, by kernel_rfl, by kernel_rfl⟩
theorem ok223 : FOk Tryz.prog 223 a223 := ⟨Tryz.f223, Tryz.func223, by kernel_rfl, by kernel_rfl⟩
theorem ok224 : FOk Tryz.prog 224 a224 := ⟨Tryz.f224, Tryz.func224, by kernel_rfl, by kernel_rfl⟩
theorem ok235 : FOk Tryz.prog 235 a235 := ⟨Tryz.f235, Tryz.func235, by kernel_rfl, by kernel_rfl⟩
theorem ok236 : FOk Tryz.prog 236 a236 := ⟨Tryz.f236, Tryz.func236, by kernel_rfl, by kernel_rfl⟩
theorem ok251 : FOk Tryz.prog 251 a251 := ⟨Tryz.f251, Tryz.func251, by kernel_rfl, by kernel_rfl⟩
theorem ok252 : FOk Tryz.prog 252 a252 := ⟨Tryz.f252, Tryz.func252, by kernel_rfl, by kernel_rfl⟩
theorem ok253 : FOk Tryz.prog 253 a253 := ⟨Tryz.f253, Tryz.func253, by kernel_rfl, by kernel_rfl⟩
theorem ok254 : FOk Tryz.prog 254 a254 := ⟨Tryz.f254, Tryz.func254, by kernel_rfl, by kernel_rfl⟩
theorem ok255 : FOk Tryz.prog 255 a255 := ⟨Tryz.f255, Tryz.func255, by kernel_rfl, by kernel_rfl⟩
theorem ok256 : FOk Tryz.prog 256 a256 := ⟨Tryz.f256, Tryz.func256, by kernel_rfl, by kernel_rfl⟩
theorem ok257 : FOk Tryz.prog 257 a257 := ⟨Tryz.f257, Tryz.func257, by kernel_rfl, by kernel_rfl⟩
theorem ok263 : FOk Tryz.prog 263 a263 := ⟨Tryz.f263, Tryz.func263, by kernel_rfl, by kernel_rfl⟩
theorem ok264 : FOk Tryz.prog 264 a264 := ⟨Tryz.f264, Tryz.func264, by kernel_rfl, by kernel_rfl⟩
theorem ok273 : FOk Tryz.prog 273 a273 := ⟨Tryz.f273, Tryz.func273, by kernel_rfl, by kernel_rfl⟩
theorem ok274 : FOk Tryz.prog 274 a274 := ⟨Tryz.f274, Tryz.func274, by kernel_rfl, by kernel_rfl⟩
theorem ok275 : FOk Tryz.prog 275 a275 := ⟨Tryz.f275, Tryz.func275, by kernel_rfl, by kernel_rfl⟩
theorem ok276 : FOk Tryz.prog 276 a276 := ⟨Tryz.f276, Tryz.func276, by kernel_rfl, by kernel_rfl⟩
theorem ok277 : FOk Tryz.prog 277 a277 := ⟨Tryz.f277, Tryz.func277, by kernel_rfl, by kernel_rfl⟩
theorem ok278 : FOk Tryz.prog 278 a278 := ⟨Tryz.f278, Tryz.func278, by kernel_rfl, by kernel_rfl⟩
theorem ok279 : FOk Tryz.prog 279 a279 := ⟨Tryz.f279, Tryz.func279, by kernel_rfl, by kernel_rfl⟩

end Go.Proofs.YtekhblefchceaaaGreat.AM
