/- Layer 17's reference: what it answers. -/
import Derived.Test.YtcpcklafkddpaaaGreatDoorClSch
namespace Go.Cl
open Go
set_option linter.unusedSimpArgs false
set_option linter.unusedVariables false
set_option maxRecDepth 4000
variable {E : Env} {I : CallF → CallF} {N : Nat}

/-! ### the code -/
/-- isinglass/isinglassref17.name -/
def rNameF : CFun := ⟨40,
  (.seq (.rg false [⟨(some 2), none, .p (.mv (.const (.bool false)))⟩]) (.seq (.seq (.rg false [⟨(some 3), none, .p (.mv (.const (.int .i64 0)))⟩]) (.block 0 (.loop (.seq (.seq (.rg false [⟨(some 5), none, .p (.mv (.tmp 3))⟩,
  ⟨(some 6), none, .p (.mv (.tmp 0))⟩,
  ⟨(some 7), none, .p (.lenS (.tmp 6))⟩,
  ⟨(some 8), none, .p (.bin .lss (.tmp 5) (.tmp 7))⟩]) (.cond (.tmp 8) .skip (.exit 0))) (.seq (.block 1 (.seq (.rg false [⟨(some 11), none, .p (.mv (.tmp 0))⟩,
  ⟨(some 12), none, .p (.mv (.tmp 3))⟩,
  ⟨(some 13), none, .p (.idxS (.tmp 11) (.tmp 12))⟩,
  ⟨(some 4), none, .p (.mv (.tmp 13))⟩]) (.seq (.rg false [⟨(some 14), none, .p (.mv (.tmp 4))⟩,
  ⟨(some 15), none, .p (.bin .lss (.tmp 14) (.const (.int .u8 97)))⟩,
  ⟨(some 16), none, .p (.mv (.tmp 15))⟩,
  ⟨(some 17), (some (16, false)), .p (.mv (.tmp 4))⟩,
  ⟨(some 18), (some (16, false)), .p (.bin .gtr (.tmp 17) (.const (.int .u8 122)))⟩,
  ⟨(some 19), none, .p (.pick (.tmp 16) (.const (.bool true)) (.tmp 18))⟩,
  ⟨(some 20), none, .p (.mv (.tmp 19))⟩,
  ⟨(some 21), (some (20, true)), .p (.mv (.tmp 4))⟩,
  ⟨(some 22), (some (20, true)), .p (.bin .lss (.tmp 21) (.const (.int .u8 48)))⟩,
  ⟨(some 23), (some (20, true)), .p (.mv (.tmp 22))⟩,
  ⟨(some 24), (some (23, false)), .p (.mv (.tmp 4))⟩,
  ⟨(some 25), (some (23, false)), .p (.bin .gtr (.tmp 24) (.const (.int .u8 57)))⟩,
  ⟨(some 26), (some (20, true)), .p (.pick (.tmp 23) (.const (.bool true)) (.tmp 25))⟩,
  ⟨(some 27), none, .p (.pick (.tmp 20) (.tmp 26) (.const (.bool false)))⟩,
  ⟨(some 28), none, .p (.mv (.tmp 27))⟩,
  ⟨(some 29), (some (28, true)), .p (.mv (.tmp 4))⟩,
  ⟨(some 30), (some (28, true)), .p (.bin .neq (.tmp 29) (.const (.int .u8 95)))⟩,
  ⟨(some 31), none, .p (.pick (.tmp 28) (.tmp 30) (.const (.bool false)))⟩]) (.cond (.tmp 31) (.seq (.rg false [⟨(some 2), none, .p (.mv (.const (.bool false)))⟩]) .ret) .skip)))) (.rg false [⟨(some 9), none, .p (.mv (.tmp 3))⟩,
  ⟨(some 10), none, .p (.bin .add (.tmp 9) (.const (.int .i64 1)))⟩,
  ⟨(some 3), none, .p (.mv (.tmp 10))⟩])))))) (.seq (.rg false [⟨(some 32), none, .p (.mv (.tmp 0))⟩,
  ⟨(some 33), none, .p (.lenS (.tmp 32))⟩,
  ⟨(some 34), none, .p (.bin .gtr (.tmp 33) (.const (.int .i64 0)))⟩,
  ⟨(some 35), none, .p (.mv (.tmp 34))⟩,
  ⟨(some 36), (some (35, true)), .p (.mv (.tmp 0))⟩,
  ⟨(some 37), (some (35, true)), .p (.lenS (.tmp 36))⟩,
  ⟨(some 38), (some (35, true)), .p (.bin .leq (.tmp 37) (.const (.int .i64 64)))⟩,
  ⟨(some 39), none, .p (.pick (.tmp 35) (.tmp 38) (.const (.bool false)))⟩,
  ⟨(some 2), none, .p (.mv (.tmp 39))⟩]) .ret))),
  [.tmp 2]⟩
/-- isinglass/isinglassref17.May; p0: isinglass/isinglassref17.name -/
def rMayF (p0 : Nat) : CFun := ⟨58,
  (.seq (.rg false [⟨(some 2), none, .p (.mv (.const (.bool false)))⟩]) (.seq (.seq (.rg false [⟨(some 3), none, .p (.mv (.const (.int .i64 0)))⟩]) (.block 0 (.loop (.seq (.seq (.rg false [⟨(some 5), none, .p (.mv (.tmp 3))⟩,
  ⟨(some 6), none, .p (.mv (.tmp 0))⟩,
  ⟨(some 7), none, .p (.lenSl (.tmp 6))⟩,
  ⟨(some 8), none, .p (.bin .lss (.tmp 5) (.tmp 7))⟩]) (.cond (.tmp 8) .skip (.exit 0))) (.seq (.block 1 (.seq (.seq (.rg false [⟨(some 11), none, .p (.mv (.tmp 0))⟩,
  ⟨(some 12), none, .p (.mv (.tmp 3))⟩,
  ⟨(some 13), none, .p (.iaddr 2 (.tmp 11) (.tmp 12))⟩,
  ⟨(some 14), none, .p (.faddr 0 (.tmp 13))⟩,
  ⟨(some 15), none, .l 0 0 (.var none (.tmp 14))⟩,
  ⟨(some 16), none, .e true (.call p0 [(.tmp 15)])⟩,
  ⟨(some 17), none, .p (.un .not (.tmp 16))⟩,
  ⟨(some 18), none, .p (.mv (.tmp 17))⟩,
  ⟨(some 19), (some (18, false)), .p (.mv (.tmp 0))⟩,
  ⟨(some 20), (some (18, false)), .p (.mv (.tmp 3))⟩,
  ⟨(some 21), (some (18, false)), .p (.iaddr 2 (.tmp 19) (.tmp 20))⟩,
  ⟨(some 22), (some (18, false)), .p (.faddr 1 (.tmp 21))⟩,
  ⟨(some 23), (some (18, false)), .l 0 0 (.var none (.tmp 22))⟩,
  ⟨(some 24), (some (18, false)), .p (.bin .lss (.tmp 23) (.const (.int .u8 1)))⟩,
  ⟨(some 25), none, .p (.pick (.tmp 18) (.const (.bool true)) (.tmp 24))⟩,
  ⟨(some 26), none, .p (.mv (.tmp 25))⟩,
  ⟨(some 27), (some (26, false)), .p (.mv (.tmp 0))⟩,
  ⟨(some 28), (some (26, false)), .p (.mv (.tmp 3))⟩,
  ⟨(some 29), (some (26, false)), .p (.iaddr 2 (.tmp 27) (.tmp 28))⟩,
  ⟨(some 30), (some (26, false)), .p (.faddr 1 (.tmp 29))⟩,
  ⟨(some 31), (some (26, false)), .l 0 0 (.var none (.tmp 30))⟩,
  ⟨(some 32), (some (26, false)), .p (.bin .gtr (.tmp 31) (.const (.int .u8 3)))⟩,
  ⟨(some 33), none, .p (.pick (.tmp 26) (.const (.bool true)) (.tmp 32))⟩]) (.cond (.tmp 33) (.seq (.rg false [⟨(some 2), none, .p (.mv (.const (.bool false)))⟩]) .ret) .skip)) (.seq (.rg false [⟨(some 4), none, .p (.mv (.const (.int .i64 0)))⟩]) (.block 2 (.loop (.seq (.seq (.rg false [⟨(some 34), none, .p (.mv (.tmp 4))⟩,
  ⟨(some 35), none, .p (.mv (.tmp 3))⟩,
  ⟨(some 36), none, .p (.bin .lss (.tmp 34) (.tmp 35))⟩]) (.cond (.tmp 36) .skip (.exit 2))) (.seq (.block 3 (.seq (.rg true [⟨(some 39), none, .p (.mv (.tmp 0))⟩,
  ⟨(some 40), none, .p (.mv (.tmp 4))⟩,
  ⟨(some 41), none, .p (.iaddr 2 (.tmp 39) (.tmp 40))⟩,
  ⟨(some 42), none, .p (.faddr 0 (.tmp 41))⟩,
  ⟨(some 43), none, .l 0 0 (.var none (.tmp 42))⟩,
  ⟨(some 44), none, .p (.mv (.tmp 0))⟩,
  ⟨(some 45), none, .p (.mv (.tmp 3))⟩,
  ⟨(some 46), none, .p (.iaddr 2 (.tmp 44) (.tmp 45))⟩,
  ⟨(some 47), none, .p (.faddr 0 (.tmp 46))⟩,
  ⟨(some 48), none, .l 0 0 (.var none (.tmp 47))⟩,
  ⟨(some 49), none, .p (.bin .eql (.tmp 43) (.tmp 48))⟩]) (.cond (.tmp 49) (.seq (.rg false [⟨(some 2), none, .p (.mv (.const (.bool false)))⟩]) .ret) .skip))) (.rg false [⟨(some 37), none, .p (.mv (.tmp 4))⟩,
  ⟨(some 38), none, .p (.bin .add (.tmp 37) (.const (.int .i64 1)))⟩,
  ⟨(some 4), none, .p (.mv (.tmp 38))⟩])))))))) (.rg false [⟨(some 9), none, .p (.mv (.tmp 3))⟩,
  ⟨(some 10), none, .p (.bin .add (.tmp 9) (.const (.int .i64 1)))⟩,
  ⟨(some 3), none, .p (.mv (.tmp 10))⟩])))))) (.seq (.rg false [⟨(some 50), none, .p (.mv (.tmp 0))⟩,
  ⟨(some 51), none, .p (.lenSl (.tmp 50))⟩,
  ⟨(some 52), none, .p (.bin .gtr (.tmp 51) (.const (.int .i64 0)))⟩,
  ⟨(some 53), none, .p (.mv (.tmp 52))⟩,
  ⟨(some 54), (some (53, true)), .p (.mv (.tmp 0))⟩,
  ⟨(some 55), (some (53, true)), .p (.lenSl (.tmp 54))⟩,
  ⟨(some 56), (some (53, true)), .p (.bin .leq (.tmp 55) (.const (.int .i64 256)))⟩,
  ⟨(some 57), none, .p (.pick (.tmp 53) (.tmp 56) (.const (.bool false)))⟩,
  ⟨(some 2), none, .p (.mv (.tmp 57))⟩]) .ret))),
  [.tmp 2]⟩
/-- isinglass/isinglassref17.Dimension -/
def rDimF : CFun := ⟨29,
  (.seq (.rg false [⟨(some 4), none, .p (.mv (.const (.bool false)))⟩]) (.seq (.rg false [⟨(some 5), none, .p (.mv (.tmp 1))⟩,
  ⟨(some 6), none, .p (.bin .geq (.tmp 5) (.const (.int .i64 0)))⟩,
  ⟨(some 7), none, .p (.mv (.tmp 6))⟩,
  ⟨(some 8), (some (7, true)), .p (.mv (.tmp 1))⟩,
  ⟨(some 9), (some (7, true)), .p (.mv (.tmp 0))⟩,
  ⟨(some 10), (some (7, true)), .p (.lenSl (.tmp 9))⟩,
  ⟨(some 11), (some (7, true)), .p (.bin .lss (.tmp 8) (.tmp 10))⟩,
  ⟨(some 12), none, .p (.pick (.tmp 7) (.tmp 11) (.const (.bool false)))⟩,
  ⟨(some 13), none, .p (.mv (.tmp 12))⟩,
  ⟨(some 14), (some (13, true)), .p (.mv (.tmp 0))⟩,
  ⟨(some 15), (some (13, true)), .p (.mv (.tmp 1))⟩,
  ⟨(some 16), (some (13, true)), .p (.iaddr 2 (.tmp 14) (.tmp 15))⟩,
  ⟨(some 17), (some (13, true)), .p (.faddr 1 (.tmp 16))⟩,
  ⟨(some 18), (some (13, true)), .l 0 0 (.var none (.tmp 17))⟩,
  ⟨(some 19), (some (13, true)), .p (.bin .eql (.tmp 18) (.const (.int .u8 1)))⟩,
  ⟨(some 20), (some (13, true)), .p (.mv (.tmp 19))⟩,
  ⟨(some 21), (some (20, false)), .p (.mv (.tmp 0))⟩,
  ⟨(some 22), (some (20, false)), .p (.mv (.tmp 1))⟩,
  ⟨(some 23), (some (20, false)), .p (.iaddr 2 (.tmp 21) (.tmp 22))⟩,
  ⟨(some 24), (some (20, false)), .p (.faddr 1 (.tmp 23))⟩,
  ⟨(some 25), (some (20, false)), .l 0 0 (.var none (.tmp 24))⟩,
  ⟨(some 26), (some (20, false)), .p (.bin .eql (.tmp 25) (.const (.int .u8 2)))⟩,
  ⟨(some 27), (some (13, true)), .p (.pick (.tmp 20) (.const (.bool true)) (.tmp 26))⟩,
  ⟨(some 28), none, .p (.pick (.tmp 13) (.tmp 27) (.const (.bool false)))⟩,
  ⟨(some 4), none, .p (.mv (.tmp 28))⟩]) .ret)),
  [.tmp 4]⟩
/-- isinglass/isinglassref17.Has -/
def rHasF : CFun := ⟨19,
  (.seq (.rg false [⟨(some 4), none, .p (.mv (.const (.bool false)))⟩]) (.seq (.rg false [⟨(some 5), none, .p (.mv (.tmp 1))⟩,
  ⟨(some 6), none, .p (.bin .geq (.tmp 5) (.const (.int .i64 0)))⟩,
  ⟨(some 7), none, .p (.mv (.tmp 6))⟩,
  ⟨(some 8), (some (7, true)), .p (.mv (.tmp 1))⟩,
  ⟨(some 9), (some (7, true)), .p (.mv (.tmp 0))⟩,
  ⟨(some 10), (some (7, true)), .p (.lenSl (.tmp 9))⟩,
  ⟨(some 11), (some (7, true)), .p (.bin .lss (.tmp 8) (.tmp 10))⟩,
  ⟨(some 12), none, .p (.pick (.tmp 7) (.tmp 11) (.const (.bool false)))⟩,
  ⟨(some 13), none, .p (.mv (.tmp 12))⟩,
  ⟨(some 14), (some (13, true)), .p (.mv (.tmp 0))⟩,
  ⟨(some 15), (some (13, true)), .p (.mv (.tmp 1))⟩,
  ⟨(some 16), (some (13, true)), .p (.iaddr 1 (.tmp 14) (.tmp 15))⟩,
  ⟨(some 17), (some (13, true)), .l 0 0 (.var none (.tmp 16))⟩,
  ⟨(some 18), none, .p (.pick (.tmp 13) (.tmp 17) (.const (.bool false)))⟩,
  ⟨(some 4), none, .p (.mv (.tmp 18))⟩]) .ret)),
  [.tmp 4]⟩
/-- Fits, the last row. -/
def rFitsC : CCode := (.seq (.rg false [⟨(some 102), none, .p (.faddr 3 (.tmp 3))⟩,
  ⟨(some 103), none, .l 0 0 (.var none (.tmp 102))⟩,
  ⟨(some 104), none, .p (.lenSl (.tmp 103))⟩,
  ⟨(some 105), none, .p (.bin .leq (.tmp 104) (.const (.int .i64 8)))⟩,
  ⟨(some 106), none, .p (.mv (.tmp 105))⟩,
  ⟨(some 107), (some (106, true)), .p (.faddr 4 (.tmp 3))⟩,
  ⟨(some 108), (some (106, true)), .l 0 0 (.var none (.tmp 107))⟩,
  ⟨(some 109), (some (106, true)), .p (.bin .geq (.tmp 108) (.const (.int .i64 1)))⟩,
  ⟨(some 110), none, .p (.pick (.tmp 106) (.tmp 109) (.const (.bool false)))⟩,
  ⟨(some 111), none, .p (.mv (.tmp 110))⟩,
  ⟨(some 112), (some (111, true)), .p (.faddr 4 (.tmp 3))⟩,
  ⟨(some 113), (some (111, true)), .l 0 0 (.var none (.tmp 112))⟩,
  ⟨(some 114), (some (111, true)), .p (.bin .leq (.tmp 113) (.const (.int .i64 1000000)))⟩,
  ⟨(some 115), none, .p (.pick (.tmp 111) (.tmp 114) (.const (.bool false)))⟩,
  ⟨(some 4), none, .p (.mv (.tmp 115))⟩]) .ret)
/-- Fits, the split. -/
def rFitsB (p1 : Nat) : CCode := (.seq (.seq (.rg false [⟨(some 6), none, .p (.mv (.const (.int .i64 0)))⟩]) (.block 2 (.loop (.seq (.seq (.rg false [⟨(some 71), none, .p (.mv (.tmp 6))⟩,
  ⟨(some 72), none, .p (.faddr 3 (.tmp 3))⟩,
  ⟨(some 73), none, .l 0 0 (.var none (.tmp 72))⟩,
  ⟨(some 74), none, .p (.lenSl (.tmp 73))⟩,
  ⟨(some 75), none, .p (.bin .lss (.tmp 71) (.tmp 74))⟩]) (.cond (.tmp 75) .skip (.exit 2))) (.seq (.block 3 (.seq (.seq (.rg false [⟨(some 78), none, .p (.mv (.tmp 0))⟩,
  ⟨(some 79), none, .p (.faddr 3 (.tmp 3))⟩,
  ⟨(some 80), none, .l 0 0 (.var none (.tmp 79))⟩,
  ⟨(some 81), none, .p (.mv (.tmp 6))⟩,
  ⟨(some 82), none, .p (.iaddr 1 (.tmp 80) (.tmp 81))⟩,
  ⟨(some 83), none, .l 0 0 (.var none (.tmp 82))⟩,
  ⟨(some 84), none, .e true (.call p1 [(.tmp 78), (.tmp 83)])⟩,
  ⟨(some 85), none, .p (.un .not (.tmp 84))⟩]) (.cond (.tmp 85) (.seq (.rg false [⟨(some 4), none, .p (.mv (.const (.bool false)))⟩]) .ret) .skip)) (.seq (.rg false [⟨(some 7), none, .p (.mv (.const (.int .i64 0)))⟩]) (.block 4 (.loop (.seq (.seq (.rg false [⟨(some 86), none, .p (.mv (.tmp 7))⟩,
  ⟨(some 87), none, .p (.mv (.tmp 6))⟩,
  ⟨(some 88), none, .p (.bin .lss (.tmp 86) (.tmp 87))⟩]) (.cond (.tmp 88) .skip (.exit 4))) (.seq (.block 5 (.seq (.rg true [⟨(some 91), none, .p (.faddr 3 (.tmp 3))⟩,
  ⟨(some 92), none, .l 0 0 (.var none (.tmp 91))⟩,
  ⟨(some 93), none, .p (.mv (.tmp 7))⟩,
  ⟨(some 94), none, .p (.iaddr 1 (.tmp 92) (.tmp 93))⟩,
  ⟨(some 95), none, .l 0 0 (.var none (.tmp 94))⟩,
  ⟨(some 96), none, .p (.faddr 3 (.tmp 3))⟩,
  ⟨(some 97), none, .l 0 0 (.var none (.tmp 96))⟩,
  ⟨(some 98), none, .p (.mv (.tmp 6))⟩,
  ⟨(some 99), none, .p (.iaddr 1 (.tmp 97) (.tmp 98))⟩,
  ⟨(some 100), none, .l 0 0 (.var none (.tmp 99))⟩,
  ⟨(some 101), none, .p (.bin .eql (.tmp 95) (.tmp 100))⟩]) (.cond (.tmp 101) (.seq (.rg false [⟨(some 4), none, .p (.mv (.const (.bool false)))⟩]) .ret) .skip))) (.rg false [⟨(some 89), none, .p (.mv (.tmp 7))⟩,
  ⟨(some 90), none, .p (.bin .add (.tmp 89) (.const (.int .i64 1)))⟩,
  ⟨(some 7), none, .p (.mv (.tmp 90))⟩])))))))) (.rg false [⟨(some 76), none, .p (.mv (.tmp 6))⟩,
  ⟨(some 77), none, .p (.bin .add (.tmp 76) (.const (.int .i64 1)))⟩,
  ⟨(some 6), none, .p (.mv (.tmp 77))⟩])))))) rFitsC)
/-- Fits, the flags. -/
def rFitsA (p1 p2 : Nat) : CCode := (.seq (.seq (.rg false [⟨(some 5), none, .p (.mv (.const (.int .i64 0)))⟩]) (.block 0 (.loop (.seq (.seq (.rg false [⟨(some 49), none, .p (.mv (.tmp 5))⟩,
  ⟨(some 50), none, .p (.mv (.tmp 0))⟩,
  ⟨(some 51), none, .p (.lenSl (.tmp 50))⟩,
  ⟨(some 52), none, .p (.bin .lss (.tmp 49) (.tmp 51))⟩]) (.cond (.tmp 52) .skip (.exit 0))) (.seq (.block 1 (.seq (.rg false [⟨(some 55), none, .p (.mv (.tmp 0))⟩,
  ⟨(some 56), none, .p (.mv (.tmp 5))⟩,
  ⟨(some 57), none, .e true (.call p1 [(.tmp 55), (.tmp 56)])⟩,
  ⟨(some 58), none, .p (.un .not (.tmp 57))⟩,
  ⟨(some 59), none, .p (.mv (.tmp 58))⟩,
  ⟨(some 60), (some (59, true)), .p (.faddr 1 (.tmp 3))⟩,
  ⟨(some 61), (some (59, true)), .l 0 0 (.var none (.tmp 60))⟩,
  ⟨(some 62), (some (59, true)), .p (.mv (.tmp 5))⟩,
  ⟨(some 63), (some (59, true)), .e true (.call p2 [(.tmp 61), (.tmp 62)])⟩,
  ⟨(some 64), (some (59, true)), .p (.mv (.tmp 63))⟩,
  ⟨(some 65), (some (64, false)), .p (.faddr 2 (.tmp 3))⟩,
  ⟨(some 66), (some (64, false)), .l 0 0 (.var none (.tmp 65))⟩,
  ⟨(some 67), (some (64, false)), .p (.mv (.tmp 5))⟩,
  ⟨(some 68), (some (64, false)), .e true (.call p2 [(.tmp 66), (.tmp 67)])⟩,
  ⟨(some 69), (some (59, true)), .p (.pick (.tmp 64) (.const (.bool true)) (.tmp 68))⟩,
  ⟨(some 70), none, .p (.pick (.tmp 59) (.tmp 69) (.const (.bool false)))⟩]) (.cond (.tmp 70) (.seq (.rg false [⟨(some 4), none, .p (.mv (.const (.bool false)))⟩]) .ret) .skip))) (.rg false [⟨(some 53), none, .p (.mv (.tmp 5))⟩,
  ⟨(some 54), none, .p (.bin .add (.tmp 53) (.const (.int .i64 1)))⟩,
  ⟨(some 5), none, .p (.mv (.tmp 54))⟩])))))) (rFitsB p1))
/-- Fits, the flags' lengths. -/
def rFitsD (p1 p2 : Nat) : CCode := (.seq (.seq (.rg false [⟨(some 23), none, .p (.faddr 1 (.tmp 3))⟩,
  ⟨(some 24), none, .l 0 0 (.var none (.tmp 23))⟩,
  ⟨(some 25), none, .p (.lenSl (.tmp 24))⟩,
  ⟨(some 26), none, .p (.bin .neq (.tmp 25) (.const (.int .i64 0)))⟩,
  ⟨(some 27), none, .p (.mv (.tmp 26))⟩,
  ⟨(some 28), (some (27, true)), .p (.faddr 1 (.tmp 3))⟩,
  ⟨(some 29), (some (27, true)), .l 0 0 (.var none (.tmp 28))⟩,
  ⟨(some 30), (some (27, true)), .p (.lenSl (.tmp 29))⟩,
  ⟨(some 31), (some (27, true)), .p (.mv (.tmp 0))⟩,
  ⟨(some 32), (some (27, true)), .p (.lenSl (.tmp 31))⟩,
  ⟨(some 33), (some (27, true)), .p (.bin .neq (.tmp 30) (.tmp 32))⟩,
  ⟨(some 34), none, .p (.pick (.tmp 27) (.tmp 33) (.const (.bool false)))⟩,
  ⟨(some 35), none, .p (.mv (.tmp 34))⟩,
  ⟨(some 36), (some (35, false)), .p (.faddr 2 (.tmp 3))⟩,
  ⟨(some 37), (some (35, false)), .l 0 0 (.var none (.tmp 36))⟩,
  ⟨(some 38), (some (35, false)), .p (.lenSl (.tmp 37))⟩,
  ⟨(some 39), (some (35, false)), .p (.bin .neq (.tmp 38) (.const (.int .i64 0)))⟩,
  ⟨(some 40), (some (35, false)), .p (.mv (.tmp 39))⟩,
  ⟨(some 41), (some (40, true)), .p (.faddr 2 (.tmp 3))⟩,
  ⟨(some 42), (some (40, true)), .l 0 0 (.var none (.tmp 41))⟩,
  ⟨(some 43), (some (40, true)), .p (.lenSl (.tmp 42))⟩,
  ⟨(some 44), (some (40, true)), .p (.mv (.tmp 0))⟩,
  ⟨(some 45), (some (40, true)), .p (.lenSl (.tmp 44))⟩,
  ⟨(some 46), (some (40, true)), .p (.bin .neq (.tmp 43) (.tmp 45))⟩,
  ⟨(some 47), (some (35, false)), .p (.pick (.tmp 40) (.tmp 46) (.const (.bool false)))⟩,
  ⟨(some 48), none, .p (.pick (.tmp 35) (.const (.bool true)) (.tmp 47))⟩]) (.cond (.tmp 48) (.seq (.rg false [⟨(some 4), none, .p (.mv (.const (.bool false)))⟩]) .ret) .skip)) (rFitsA p1 p2))
/-- isinglass/isinglassref17.Fits; p0: isinglass/isinglassref17.May; p1: isinglass/isinglassref17.Dimension; p2: isinglass/isinglassref17.Has -/
def rFitsF (p0 p1 p2 : Nat) : CFun := ⟨116,
  (.seq (.rg false [⟨(some 3), none, .n (.box 5 (.tmp 1))⟩,
  ⟨(some 4), none, .p (.mv (.const (.bool false)))⟩]) (.seq (.seq (.rg false [⟨(some 8), none, .p (.mv (.tmp 0))⟩,
  ⟨(some 9), none, .e true (.call p0 [(.tmp 8)])⟩,
  ⟨(some 10), none, .p (.un .not (.tmp 9))⟩,
  ⟨(some 11), none, .p (.mv (.tmp 10))⟩,
  ⟨(some 12), (some (11, false)), .p (.faddr 0 (.tmp 3))⟩,
  ⟨(some 13), (some (11, false)), .l 0 0 (.var none (.tmp 12))⟩,
  ⟨(some 14), (some (11, false)), .p (.bin .neq (.tmp 13) (.const (.int .i64 (-1))))⟩,
  ⟨(some 15), (some (11, false)), .p (.mv (.tmp 14))⟩,
  ⟨(some 16), (some (15, true)), .p (.mv (.tmp 0))⟩,
  ⟨(some 17), (some (15, true)), .p (.faddr 0 (.tmp 3))⟩,
  ⟨(some 18), (some (15, true)), .l 0 0 (.var none (.tmp 17))⟩,
  ⟨(some 19), (some (15, true)), .e true (.call p1 [(.tmp 16), (.tmp 18)])⟩,
  ⟨(some 20), (some (15, true)), .p (.un .not (.tmp 19))⟩,
  ⟨(some 21), (some (11, false)), .p (.pick (.tmp 15) (.tmp 20) (.const (.bool false)))⟩,
  ⟨(some 22), none, .p (.pick (.tmp 11) (.const (.bool true)) (.tmp 21))⟩]) (.cond (.tmp 22) (.seq (.rg false [⟨(some 4), none, .p (.mv (.const (.bool false)))⟩]) .ret) .skip)) (rFitsD p1 p2))),
  [.tmp 4]⟩
/-- isinglass/isinglassref17.Great -/
def rGreatF : CFun := ⟨40,
  (.seq (.rg false [⟨(some 3), none, .n (.box 5 (.tmp 1))⟩,
  ⟨(some 4), none, .p (.mv (.const (.bool false)))⟩]) (.seq (.seq (.rg false [⟨(some 5), none, .p (.mv (.const (.int .i64 0)))⟩]) (.block 0 (.loop (.seq (.seq (.rg false [⟨(some 6), none, .p (.mv (.tmp 5))⟩,
  ⟨(some 7), none, .p (.mv (.tmp 0))⟩,
  ⟨(some 8), none, .p (.lenSl (.tmp 7))⟩,
  ⟨(some 9), none, .p (.bin .lss (.tmp 6) (.tmp 8))⟩]) (.cond (.tmp 9) .skip (.exit 0))) (.seq (.block 1 (.seq (.rg false [⟨(some 12), none, .p (.mv (.tmp 0))⟩,
  ⟨(some 13), none, .p (.mv (.tmp 5))⟩,
  ⟨(some 14), none, .p (.iaddr 2 (.tmp 12) (.tmp 13))⟩,
  ⟨(some 15), none, .p (.faddr 0 (.tmp 14))⟩,
  ⟨(some 16), none, .l 0 0 (.var none (.tmp 15))⟩,
  ⟨(some 17), none, .p (.lenS (.tmp 16))⟩,
  ⟨(some 18), none, .p (.bin .gtr (.tmp 17) (.const (.int .i64 200)))⟩]) (.cond (.tmp 18) (.seq (.rg false [⟨(some 4), none, .p (.mv (.const (.bool true)))⟩]) .ret) .skip))) (.rg false [⟨(some 10), none, .p (.mv (.tmp 5))⟩,
  ⟨(some 11), none, .p (.bin .add (.tmp 10) (.const (.int .i64 1)))⟩,
  ⟨(some 5), none, .p (.mv (.tmp 11))⟩])))))) (.seq (.rg false [⟨(some 19), none, .p (.mv (.tmp 0))⟩,
  ⟨(some 20), none, .p (.lenSl (.tmp 19))⟩,
  ⟨(some 21), none, .p (.bin .gtr (.tmp 20) (.const (.int .i64 300)))⟩,
  ⟨(some 22), none, .p (.mv (.tmp 21))⟩,
  ⟨(some 23), (some (22, false)), .p (.faddr 1 (.tmp 3))⟩,
  ⟨(some 24), (some (22, false)), .l 0 0 (.var none (.tmp 23))⟩,
  ⟨(some 25), (some (22, false)), .p (.lenSl (.tmp 24))⟩,
  ⟨(some 26), (some (22, false)), .p (.bin .gtr (.tmp 25) (.const (.int .i64 400)))⟩,
  ⟨(some 27), none, .p (.pick (.tmp 22) (.const (.bool true)) (.tmp 26))⟩,
  ⟨(some 28), none, .p (.mv (.tmp 27))⟩,
  ⟨(some 29), (some (28, false)), .p (.faddr 2 (.tmp 3))⟩,
  ⟨(some 30), (some (28, false)), .l 0 0 (.var none (.tmp 29))⟩,
  ⟨(some 31), (some (28, false)), .p (.lenSl (.tmp 30))⟩,
  ⟨(some 32), (some (28, false)), .p (.bin .gtr (.tmp 31) (.const (.int .i64 400)))⟩,
  ⟨(some 33), none, .p (.pick (.tmp 28) (.const (.bool true)) (.tmp 32))⟩,
  ⟨(some 34), none, .p (.mv (.tmp 33))⟩,
  ⟨(some 35), (some (34, false)), .p (.faddr 3 (.tmp 3))⟩,
  ⟨(some 36), (some (34, false)), .l 0 0 (.var none (.tmp 35))⟩,
  ⟨(some 37), (some (34, false)), .p (.lenSl (.tmp 36))⟩,
  ⟨(some 38), (some (34, false)), .p (.bin .gtr (.tmp 37) (.const (.int .i64 50)))⟩,
  ⟨(some 39), none, .p (.pick (.tmp 34) (.const (.bool true)) (.tmp 38))⟩,
  ⟨(some 4), none, .p (.mv (.tmp 39))⟩]) .ret))),
  [.tmp 4]⟩

theorem rHas_eq : rHasF = hasF := rfl
theorem rDim_eq : rDimF = dimF := rfl
/-! ### name -/
def RNameI (l : List UInt8) (h : CH) (m : Nat) (τ : Tau) (h' : CH) : Prop := ∃ p : Nat, m = l.length - p ∧ p ≤ l.length ∧ τ 0 = .string (mkstr l) ∧ τ 3 = .int .i64 (p : Nat) ∧ Keep h h' ∧ ∀ i (hi : i < l.length), i < p → nameB l[i]
theorem rName_ok {f : FuncId} (hf : HasF E I f rNameF) {d : Nat} {l : List UInt8} {h : CH} (hN : l.length < N) (hI : l.length ≤ maxI) :
    Fc (ccall E I N (d + 1)) f [.string (mkstr l)] h (BoolR (NameP l) h) := by
  refine hf.body (by rfl) (by simp [rNameF]) fun τ hτ => ?_
  have g0 : τ 0 = .string (mkstr l) := hτ 0 (by simp)
  simp [rNameF, g0]
  refine wT_loop (RNameI l h) l.length hN ?_ ?_
  · exact ⟨0, by simp, by simp, by simp [g0], by simp, .refl _, by simp⟩
  rintro m τ h' ⟨p, rfl, hp, t0, t3, hk, hall⟩
  rcases Nat.lt_or_ge p l.length with hlt | hge
  · have hadd : cwrap .i64 ((p : Int) + 1) = ((p + 1 : Nat) : Int) := by rw [wrap_i64] <;> unfold maxI at hI <;> omega
    have hx := pIdxS_mk (l := l) (k := .i64) hlt
    by_cases hn : nameB l[p]
    · have hu : nameB l[p] := hn
      have fin : ∀ i (hi : i < l.length), i < p + 1 → nameB l[i] := fun i hi hip => by
        rcases Nat.lt_succ_iff_lt_or_eq.1 hip with h1 | rfl
        · exact hall i hi h1
        · exact hu
      unfold nameB at hn
      generalize l[p].toNat = r at *
      rcases hn with hn | hn | hn
      · have a1 : ¬ ((r : Nat) : Int) < 97 := by omega
        have a2 : ¬ (122 : Int) < (r : Nat) := by omega
        simp [t0, t3, hlt, hx, a1, a2]
        exact lT_mk (l.length - (p + 1)) (by omega) ⟨p + 1, rfl, hlt, by simp [t0], by simp [hadd], hk, fin⟩
      · have a1 : ((r : Nat) : Int) < 97 := by omega
        have a2 : ¬ ((r : Nat) : Int) < 48 := by omega
        have a3 : ¬ (57 : Int) < (r : Nat) := by omega
        simp [t0, t3, hlt, hx, a1, a2, a3]
        exact lT_mk (l.length - (p + 1)) (by omega) ⟨p + 1, rfl, hlt, by simp [t0], by simp [hadd], hk, fin⟩
      · subst hn
        simp [t0, t3, hlt, hx]
        exact lT_mk (l.length - (p + 1)) (by omega) ⟨p + 1, rfl, hlt, by simp [t0], by simp [hadd], hk, fin⟩
    · have hbad : ¬ NameP l := fun h => hn (h.1 _ (List.getElem_mem hlt))
      unfold nameB at hn
      generalize l[p].toNat = r at *
      by_cases a1 : (r : Int) < 97
      · by_cases a2 : (r : Int) < 48
        · have a5 : ¬ (r : Int) = 95 := by omega
          simp [t0, t3, hlt, hx, a1, a2, a5]
          exact ⟨_, rfl, by simp [hbad], hk⟩
        · have a3 : (57 : Int) < r := by omega
          have a5 : ¬ (r : Int) = 95 := by omega
          simp [t0, t3, hlt, hx, a1, a2, a3, a5]
          exact ⟨_, rfl, by simp [hbad], hk⟩
      · have a4 : (122 : Int) < r := by omega
        have a2 : ¬ (r : Int) < 48 := by omega
        have a3 : (57 : Int) < r := by omega
        have a5 : ¬ (r : Int) = 95 := by omega
        simp [t0, t3, hlt, hx, a1, a2, a3, a4, a5]
        exact ⟨_, rfl, by simp [hbad], hk⟩
  · have hall' : ∀ u ∈ l, nameB u := fun u hu => by
      obtain ⟨i, hi, rfl⟩ := List.getElem_of_mem hu
      exact hall i hi (by omega)
    have hP : NameP l ↔ 1 ≤ l.length ∧ l.length ≤ 64 := ⟨fun h => h.2, fun h => ⟨hall', h⟩⟩
    have hjl : ¬ p < l.length := by omega
    clear hall hall'
    by_cases a1 : 0 < l.length
    · by_cases a2 : ((l.length : Nat) : Int) ≤ 64
      · simp [t0, t3, hjl, a1, a2]
        exact ⟨_, rfl, by rw [hP]; simp; omega, hk⟩
      · simp [t0, t3, hjl, a1, a2]
        exact ⟨_, rfl, by rw [hP]; simp; omega, hk⟩
    · simp [t0, t3, hjl, a1]
      exact ⟨_, rfl, by rw [hP]; simp; omega, hk⟩
/-! ### May -/
def RMayI (cols : List Col) (v : Value) (h : CH) (m : Nat) (τ : Tau) (h' : CH) : Prop := ∃ j : Nat, m = cols.length - j ∧ j ≤ cols.length ∧ τ 0 = v ∧ τ 3 = .int .i64 (j : Nat) ∧ Keep h h' ∧
  ∀ (i : Nat) (c : Col), i < j → cols[i]? = some c → NameP c.1 ∧ 1 ≤ c.2 ∧ c.2 ≤ 3 ∧ ∀ (j : Nat) (c' : Col), j < i → cols[j]? = some c' → c'.1 ≠ c.1
def RMayJ (cols : List Col) (v : Value) (h : CH) (j : Nat) (s : List UInt8) (m : Nat) (τ : Tau) (h' : CH) : Prop := ∃ k : Nat, m = j - k ∧ k ≤ j ∧ τ 0 = v ∧ τ 3 = .int .i64 (j : Nat) ∧ τ 4 = .int .i64 (k : Nat) ∧ Keep h h' ∧
  ∀ (i : Nat) (c : Col), i < k → cols[i]? = some c → c.1 ≠ s
theorem rMay_ok {f nm : FuncId} (hf : HasF E I f (rMayF nm)) (hnm : HasF E I nm rNameF) {d : Nat} {v : Value} {cols : List Col} {h : CH}
    (hs : SlG E v cols.length 2 (colCells cols)) (hN : cols.length < N) (hI : cols.length ≤ maxI) (hnl : ∀ c ∈ cols, c.1.length < N) (hni : ∀ c ∈ cols, c.1.length ≤ maxI) :
    Fc (ccall E I N (d + 2)) f [v] h (BoolR (MayP cols) h) := by
  obtain ⟨a, C, rfl⟩ := hs.form
  refine hf.body (by rfl) (by simp [rMayF]) fun τ hτ => ?_
  have g0 : τ 0 = .slice a cols.length C := hτ 0 (by simp)
  simp [rMayF, g0]
  refine wT_loop (RMayI cols (.slice a cols.length C) h) cols.length hN ?_ ?_
  · exact ⟨0, by simp, by simp, by simp [g0], by simp, .refl _, by simp⟩
  rintro m τ h' ⟨j, rfl, hj, t0, t3, hk, hall⟩
  rcases Nat.lt_or_ge j cols.length with hlt | hge
  · obtain ⟨b, o, C', cs, he, hgl, hp⟩ := hs.get hlt
    injection he with e1 e2 e3
    subst e1 e3
    have hc : cols[j]? = some cols[j] := List.getElem?_eq_getElem hlt
    have hl0 : ∀ h', lVar E h' none (.pointer (some ⟨b, o + j * 2, none⟩)) = some (.string (mkstr cols[j].1)) := fun h' => lVar_g1 hgl hp (colCells_name hc).1
    have hl1 : ∀ h', lVar E h' none (.pointer (some ⟨b, o + j * 2 + 1, none⟩)) = some (.int .u8 (cols[j].2 : Nat)) := fun h' => by rw [Nat.add_assoc]; exact lVar_g1 hgl hp (colCells_name hc).2
    have hbad : ¬ (NameP cols[j].1 ∧ 1 ≤ cols[j].2 ∧ cols[j].2 ≤ 3 ∧ ∀ (i : Nat) (c' : Col), i < j → cols[i]? = some c' → c'.1 ≠ cols[j].1) → ¬ MayP cols := fun hn hm => hn (hm.1 j _ hc)
    have hmem := List.getElem_mem hlt
    generalize hcc : cols[j] = cj at *
    have hadd : cwrap .i64 ((j : Int) + 1) = ((j + 1 : Nat) : Int) := by rw [wrap_i64] <;> unfold maxI at hI <;> omega
    simp [t0, t3, hlt, pIaddr_mk hlt, hl0]
    refine eT_call (rName_ok hnm (hnl cj hmem) (hni cj hmem)) fun v h2 ⟨bb, hv, hb, hk2⟩ => ?_
    subst hv
    have hkk := hk.trans hk2
    cases bb with
    | false =>
      have hx : ¬ NameP cj.1 := fun h => by have := hb.2 h; cases this
      simp [t0, t3]
      exact ⟨_, rfl, by simp; exact hbad fun h => hx h.1, hkk⟩
    | true =>
      by_cases k1 : ((cj.2 : Nat) : Int) < 1
      · simp [t0, t3, pIaddr_mk hlt, hl1, k1]
        exact ⟨_, rfl, by simp; exact hbad fun h => by omega, hkk⟩
      · by_cases k2 : (3 : Int) < (cj.2 : Nat)
        · simp [t0, t3, pIaddr_mk hlt, hl1, k1, k2]
          exact ⟨_, rfl, by simp; exact hbad fun h => by omega, hkk⟩
        · simp [t0, t3, pIaddr_mk hlt, hl1, k1, k2]
          refine wT_loop (RMayJ cols (.slice (some ⟨b, o, none⟩) cols.length C) h j cj.1) j (by omega) ?_ ?_
          · exact ⟨0, by simp, by simp, by simp [t0], by simp [t3], by simp, hkk, by simp⟩
          rintro m τ h3 ⟨k, rfl, hkj, t0, t3, t4, hk3, hno⟩
          rcases Nat.lt_or_ge k j with hlk | hgk
          · have hkl : k < cols.length := by omega
            have hck : cols[k]? = some cols[k] := List.getElem?_eq_getElem hkl
            have hlk0 : ∀ h', lVar E h' none (.pointer (some ⟨b, o + k * 2, none⟩)) = some (.string (mkstr cols[k].1)) := fun h' => lVar_g1 hgl hp (colCells_name hck).1
            have haddk : cwrap .i64 ((k : Int) + 1) = ((k + 1 : Nat) : Int) := by rw [wrap_i64] <;> unfold maxI at hI <;> omega
            by_cases heq : cols[k].1 = cj.1
            · simp [t0, t3, t4, hlk, pIaddr_mk hlt, pIaddr_mk hkl, hl0, hlk0, heq]
              refine endD_mk ?_ rfl ?_
              · intro r hr
                simp at hr
                rcases hr with rfl | rfl
                · intro g hg; exact ⟨_, by simp [hl0], veqb_self rfl⟩
                · intro g hg; exact ⟨_, by simp [hlk0, heq], veqb_self rfl⟩
              · simp
                refine ⟨_, rfl, ?_, ?_⟩
                · simp; exact hbad fun h => h.2.2.2 k _ hlk hck heq
                · exact hk3.trans ⟨by simp, fun _ _ => rfl⟩
            · simp [t0, t3, t4, hlk, pIaddr_mk hlt, pIaddr_mk hkl, hl0, hlk0, heq]
              refine endD_mk ?_ rfl ?_
              · intro r hr
                simp at hr
                rcases hr with rfl | rfl
                · intro g hg; exact ⟨_, by simp [hl0], veqb_self rfl⟩
                · intro g hg; exact ⟨_, by simp [hlk0], veqb_self rfl⟩
              · simp [t4]
                refine lT_mk (j - (k + 1)) (by omega) ⟨k + 1, rfl, hlk, by simp [t0], by simp [t3], by simp [haddk], hk3.trans ⟨by simp, fun _ _ => rfl⟩, fun i c hi hic => ?_⟩
                rcases Nat.lt_succ_iff_lt_or_eq.1 hi with h1 | rfl
                · exact hno i c h1 hic
                · rw [hck] at hic
                  injection hic with hic
                  subst hic
                  exact heq
          · have hkk' : ¬ k < j := by omega
            simp [t0, t3, t4, hkk']
            refine lT_mk (cols.length - (j + 1)) (by omega) ⟨j + 1, rfl, hlt, by simp [t0], by simp [hadd], hk3, fun i c hi' hic => ?_⟩
            rcases Nat.lt_succ_iff_lt_or_eq.1 hi' with h1 | rfl
            · exact hall i c h1 hic
            · rw [hc] at hic
              injection hic with hic
              subst hic
              exact ⟨hb.1 rfl, by omega, by omega, fun i' c' hi' hc' => hno i' c' (by omega) hc'⟩
  · have hjl : ¬ j < cols.length := by omega
    have hall' : ∀ (i : Nat) (c : Col), cols[i]? = some c → NameP c.1 ∧ 1 ≤ c.2 ∧ c.2 ≤ 3 ∧ ∀ (j : Nat) (c' : Col), j < i → cols[j]? = some c' → c'.1 ≠ c.1 := fun i c hic => hall i c (by have := (List.getElem?_eq_some_iff.1 hic).1; omega) hic
    have hP : MayP cols ↔ 1 ≤ cols.length ∧ cols.length ≤ 256 := ⟨fun h => h.2, fun h => ⟨hall', h⟩⟩
    clear hall hall'
    by_cases a1 : 0 < cols.length
    · by_cases a2 : ((cols.length : Nat) : Int) ≤ 256
      · simp [t0, t3, hjl, a1, a2]
        exact ⟨_, rfl, by rw [hP]; simp; omega, hk⟩
      · simp [t0, t3, hjl, a1, a2]
        exact ⟨_, rfl, by rw [hP]; simp; omega, hk⟩
    · simp [t0, t3, hjl, a1]
      exact ⟨_, rfl, by rw [hP]; simp; omega, hk⟩
/-! ### Fits -/
theorem rFitsC_ok {d : Nat} {iv rv sv : Value} {c : Conf} {h H : CH} {id : Nat} {τ : Tau} {P : Prop} (hsp : SlG E sv c.split.length 1 (c.split.map (.int .i64))) (hP : P ↔ c.split.length ≤ 8 ∧ 1 ≤ c.leaf ∧ c.leaf ≤ 1000000)
    (t3 : τ 3 = ptr0 id) (hk : Keep h H) (hg : H.get id = some (fresh [.int .i64 c.sort, iv, rv, sv, .int .i64 c.leaf])) :
    wT E (ccall E I N d) N rFitsC τ H (fT E [CRes.tmp 4] (BoolR P h)) := by
  have l3 : lVar E H none (.pointer (some ⟨id, 3, some 0⟩)) = some sv := lVar_fresh hg rfl
  have l4 : lVar E H none (.pointer (some ⟨id, 4, some 0⟩)) = some (.int .i64 c.leaf) := lVar_fresh hg rfl
  obtain ⟨a, C, rfl⟩ := hsp.form
  by_cases a1 : ((c.split.length : Nat) : Int) ≤ 8
  · by_cases a2 : 1 ≤ c.leaf
    · by_cases a3 : c.leaf ≤ 1000000
      · simp [rFitsC, t3, ptr0, l3, l4, a1, a2, a3]
        exact ⟨_, rfl, by rw [hP]; simp; omega, hk⟩
      · simp [rFitsC, t3, ptr0, l3, l4, a1, a2, a3]
        exact ⟨_, rfl, by rw [hP]; simp; omega, hk⟩
    · simp [rFitsC, t3, ptr0, l3, l4, a1, a2]
      exact ⟨_, rfl, by rw [hP]; simp; omega, hk⟩
  · simp [rFitsC, t3, ptr0, l3, l4, a1]
    exact ⟨_, rfl, by rw [hP]; simp; omega, hk⟩
def RFitsI (cols : List Col) (c : Conf) (v iv rv sv : Value) (id : Nat) (h : CH) (m : Nat) (τ : Tau) (h' : CH) : Prop := ∃ j : Nat, m = c.split.length - j ∧ j ≤ c.split.length ∧ τ 0 = v ∧ τ 3 = ptr0 id ∧ τ 6 = .int .i64 (j : Nat) ∧ Keep h h' ∧
  h'.get id = some (fresh [.int .i64 c.sort, iv, rv, sv, .int .i64 c.leaf]) ∧ id < h'.next ∧ ∀ (i : Nat) (x : Int), i < j → c.split[i]? = some x → DimP cols x ∧ x ∉ c.split.take i
def RFitsJ (c : Conf) (v iv rv sv : Value) (id : Nat) (h : CH) (j : Nat) (x : Int) (m : Nat) (τ : Tau) (h' : CH) : Prop := ∃ k : Nat, m = j - k ∧ k ≤ j ∧ τ 0 = v ∧ τ 3 = ptr0 id ∧ τ 6 = .int .i64 (j : Nat) ∧ τ 7 = .int .i64 (k : Nat) ∧ Keep h h' ∧
  h'.get id = some (fresh [.int .i64 c.sort, iv, rv, sv, .int .i64 c.leaf]) ∧ id < h'.next ∧ ∀ (i : Nat), i < k → c.split[i]? ≠ some x
theorem not_take {l : List Int} {j : Nat} {x : Int} (h : ∀ i, i < j → l[i]? ≠ some x) : x ∉ l.take j := by
  intro hm
  obtain ⟨i, hi⟩ := List.getElem?_of_mem hm
  rw [List.getElem?_take] at hi
  split at hi
  · exact h i (by assumption) hi
  · cases hi
theorem mem_take {l : List Int} {j k : Nat} {x : Int} (hk : k < j) (h : l[k]? = some x) : x ∈ l.take j := by
  apply List.mem_of_getElem? (i := k)
  rw [List.getElem?_take, if_pos hk]; exact h
theorem rFitsB_ok {dm : FuncId} (hdm : HasF E I dm dimF) {d : Nat} {v iv rv sv : Value} {cols : List Col} {c : Conf} {h H : CH} {id : Nat} {τ : Tau} {P : Prop}
    (hs : SlG E v cols.length 2 (colCells cols)) (hsp : SlG E sv c.split.length 1 (c.split.map (.int .i64))) (hN : c.split.length < N) (hI : c.split.length ≤ maxI) (hP : P ↔ SplitP cols c.split ∧ c.split.length ≤ 8 ∧ 1 ≤ c.leaf ∧ c.leaf ≤ 1000000)
    (t0 : τ 0 = v) (t3 : τ 3 = ptr0 id) (hid : id < H.next) (hk : Keep h H) (hg : H.get id = some (fresh [.int .i64 c.sort, iv, rv, sv, .int .i64 c.leaf])) :
    wT E (ccall E I N (d + 1)) N (rFitsB dm) τ H (fT E [CRes.tmp 4] (BoolR P h)) := by
  have l3 : ∀ H2, H2.get id = some (fresh [.int .i64 c.sort, iv, rv, sv, .int .i64 c.leaf]) → lVar E H2 none (.pointer (some ⟨id, 3, some 0⟩)) = some sv := fun H2 hg => lVar_fresh hg rfl
  obtain ⟨a, C, hsv⟩ := hsp.form
  subst hsv
  simp [rFitsB]
  refine wT_loop (RFitsI cols c v iv rv (.slice a c.split.length C) id h) c.split.length hN ?_ ?_
  · exact ⟨0, by simp, by simp, by simp [t0], by simp [t3], by simp, hk, hg, hid, by simp⟩
  rintro m τ h' ⟨j, rfl, hj, t0, t3, t6, hk, hg, hid, hall⟩
  rcases Nat.lt_or_ge j c.split.length with hlt | hge
  · obtain ⟨b, o, C', cs, he, hgl, hp⟩ := hsp.get hlt
    injection he with e1 e2 e3
    subst e1 e3
    have hl := fun h' => lVar_g1 (E := E) (h := h') hgl hp (k := j) (v := .int .i64 c.split[j]) (by simp [hlt])
    have hjx : c.split[j]? = some c.split[j] := List.getElem?_eq_getElem hlt
    have hadd : cwrap .i64 ((j : Int) + 1) = ((j + 1 : Nat) : Int) := by rw [wrap_i64] <;> unfold maxI at hI <;> omega
    generalize c.split[j] = x at *
    simp [t0, t3, t6, ptr0, l3 _ hg, hlt, pIaddr_mk hlt, hl]
    refine eT_call (dim_ok hdm hs) fun v2 h2 ⟨bb, hv, hb, hk2⟩ => ?_
    subst hv
    have hg2 := (hk2.2 _ hid).trans hg
    have hid2 := Nat.lt_of_lt_of_le hid hk2.1
    cases bb with
    | false =>
      simp [t0, t3, ptr0, t6]
      have hno : ¬ P := fun hm => by have := hb.2 ((hP.1 hm).1 j x hjx).1; cases this
      exact ⟨_, rfl, by simp [hno], hk.trans hk2⟩
    | true =>
      simp [t0, t3, ptr0, t6]
      refine wT_loop (RFitsJ c v iv rv (.slice (some ⟨b, o, none⟩) c.split.length C) id h j x) j (by omega) ?_ ?_
      · exact ⟨0, by simp, by simp, by simp [t0], by simp [t3, ptr0], by simp [t6], by simp, hk.trans hk2, hg2, hid2, by simp⟩
      rintro m τ h3 ⟨k, rfl, hkj, t0, t3, t6, t7, hk3, hg3, hid3, hno⟩
      rcases Nat.lt_or_ge k j with hlk | hgk
      · have hkl : k < c.split.length := by omega
        have hlk0 := fun h' => lVar_g1 (E := E) (h := h') hgl hp (k := k) (v := .int .i64 c.split[k]) (by simp [hkl])
        have hkx : c.split[k]? = some c.split[k] := List.getElem?_eq_getElem hkl
        have haddk : cwrap .i64 ((k : Int) + 1) = ((k + 1 : Nat) : Int) := by rw [wrap_i64] <;> unfold maxI at hI <;> omega
        have l3' : lVar E ⟨h3.next + 11, h3.objs⟩ none (.pointer (some ⟨id, 3, some 0⟩)) = some (.slice (some ⟨b, o, none⟩) c.split.length C) := lVar_fresh (show CH.get ⟨h3.next + 11, h3.objs⟩ id = _ from hg3) rfl
        generalize c.split[k] = y at *
        have hk4 : Keep h ⟨h3.next + 11, h3.objs⟩ := hk3.trans ⟨by simp, fun _ _ => rfl⟩
        have chk : ∀ r ∈ [(⟨0, 0, .var none (.tmp 99), setT (setT (setT (setT (setT (setT (setT (setT (setT τ 88 (.bool true)) 91 (.pointer (some ⟨id, 3, some 0⟩))) 92 (.slice (some ⟨b, o, none⟩) c.split.length C)) 93 (.int .i64 (k : Nat))) 94 (.pointer (some ⟨b, o + k, none⟩))) 95 (.int .i64 y)) 96 (.pointer (some ⟨id, 3, some 0⟩))) 97 (.slice (some ⟨b, o, none⟩) c.split.length C)) 98 (.int .i64 (j : Nat)), .int .i64 x⟩ : LRecT)], True := fun _ _ => trivial
        by_cases heq : y = x
        · subst heq
          simp [t0, t3, t6, t7, ptr0, hlk, pIaddr_mk hlt, pIaddr_mk hkl, hl, hlk0, l3']
          refine endD_mk ?_ rfl ?_
          · intro r hr
            simp at hr
            rcases hr with rfl | rfl | rfl | rfl
            · intro g hg; exact ⟨_, by simp [hl], veqb_self rfl⟩
            · intro g hg; simp at hg; subst hg; exact ⟨_, by simp [l3'], veqb_self rfl⟩
            · intro g hg; exact ⟨_, by simp [hlk0], veqb_self rfl⟩
            · intro g hg; simp at hg; subst hg; exact ⟨_, by simp [l3'], veqb_self rfl⟩
          · simp
            have hno : ¬ P := fun hm => ((hP.1 hm).1 j y hjx).2 (mem_take hlk hkx)
            exact ⟨_, rfl, by simp [hno], hk4⟩
        · simp [t0, t3, t6, t7, ptr0, hlk, pIaddr_mk hlt, pIaddr_mk hkl, hl, hlk0, l3', heq]
          refine endD_mk ?_ rfl ?_
          · intro r hr
            simp at hr
            rcases hr with rfl | rfl | rfl | rfl
            · intro g hg; exact ⟨_, by simp [hl], veqb_self rfl⟩
            · intro g hg; simp at hg; subst hg; exact ⟨_, by simp [l3'], veqb_self rfl⟩
            · intro g hg; exact ⟨_, by simp [hlk0], veqb_self rfl⟩
            · intro g hg; simp at hg; subst hg; exact ⟨_, by simp [l3'], veqb_self rfl⟩
          · simp [t7]
            refine lT_mk (j - (k + 1)) (by omega) ⟨k + 1, rfl, hlk, by simp [t0], by simp [t3, ptr0], by simp [t6], by simp [haddk], hk4, hg3, Nat.lt_of_lt_of_le hid3 (by simp), fun i hi => ?_⟩
            rcases Nat.lt_succ_iff_lt_or_eq.1 hi with h1 | rfl
            · exact hno i h1
            · rw [hkx]; exact fun e => heq (by injection e)
      · have hkk' : ¬ k < j := by omega
        simp [t0, t3, t6, t7, ptr0, hkk']
        refine lT_mk (c.split.length - (j + 1)) (by omega) ⟨j + 1, rfl, hlt, by simp [t0], by simp [t3, ptr0], by simp [hadd], hk3, hg3, hid3, fun i y hi hiy => ?_⟩
        rcases Nat.lt_succ_iff_lt_or_eq.1 hi with h1 | rfl
        · exact hall i y h1 hiy
        · rw [hjx] at hiy
          injection hiy with hiy
          subst hiy
          exact ⟨hb.1 rfl, not_take fun i' hi' => hno i' (by omega)⟩
  · have hjl : ¬ j < c.split.length := by omega
    have hall' : SplitP cols c.split := fun i x hix => hall i x (by have := (List.getElem?_eq_some_iff.1 hix).1; omega) hix
    simp [t0, t3, t6, ptr0, l3 _ hg, hjl]
    exact rFitsC_ok hsp (hP.trans ⟨fun h => h.2, fun h => ⟨hall', h⟩⟩) (by simp [t3]) hk hg
def FlagsP (cols : List Col) (c : Conf) : Prop := ∀ i : Nat, i < cols.length → DimP cols (i : Nat) ∨ (c.inv[i]? ≠ some true ∧ c.rng[i]? ≠ some true)
def RFitsK (cols : List Col) (c : Conf) (v iv rv sv : Value) (id : Nat) (h : CH) (m : Nat) (τ : Tau) (h' : CH) : Prop := ∃ j : Nat, m = cols.length - j ∧ j ≤ cols.length ∧ τ 0 = v ∧ τ 3 = ptr0 id ∧ τ 5 = .int .i64 (j : Nat) ∧ Keep h h' ∧
  h'.get id = some (fresh [.int .i64 c.sort, iv, rv, sv, .int .i64 c.leaf]) ∧ id < h'.next ∧ ∀ i : Nat, i < j → DimP cols (i : Nat) ∨ (c.inv[i]? ≠ some true ∧ c.rng[i]? ≠ some true)
theorem rFitsA_ok {dm hs' : FuncId} (hdm : HasF E I dm dimF) (hhs : HasF E I hs' hasF) {d : Nat} {v iv rv sv : Value} {cols : List Col} {c : Conf} {h H : CH} {id : Nat} {τ : Tau} {P : Prop}
    (hs : SlG E v cols.length 2 (colCells cols)) (hc : ConfC E c iv rv sv) (hN0 : cols.length < N) (hI0 : cols.length ≤ maxI) (hN : c.split.length < N) (hI : c.split.length ≤ maxI) (hP : P ↔ FlagsP cols c ∧ SplitP cols c.split ∧ c.split.length ≤ 8 ∧ 1 ≤ c.leaf ∧ c.leaf ≤ 1000000)
    (t0 : τ 0 = v) (t3 : τ 3 = ptr0 id) (hid : id < H.next) (hk : Keep h H) (hg : H.get id = some (fresh [.int .i64 c.sort, iv, rv, sv, .int .i64 c.leaf])) :
    wT E (ccall E I N (d + 1)) N (rFitsA dm hs') τ H (fT E [CRes.tmp 4] (BoolR P h)) := by
  have l1 : ∀ H2, H2.get id = some (fresh [.int .i64 c.sort, iv, rv, sv, .int .i64 c.leaf]) → lVar E H2 none (.pointer (some ⟨id, 1, some 0⟩)) = some iv := fun H2 hg => lVar_fresh hg rfl
  have l2 : ∀ H2, H2.get id = some (fresh [.int .i64 c.sort, iv, rv, sv, .int .i64 c.leaf]) → lVar E H2 none (.pointer (some ⟨id, 2, some 0⟩)) = some rv := fun H2 hg => lVar_fresh hg rfl
  obtain ⟨a, C, hvv⟩ := hs.form
  subst hvv
  simp [rFitsA]
  refine wT_loop (RFitsK cols c (.slice a cols.length C) iv rv sv id h) cols.length hN0 ?_ ?_
  · exact ⟨0, by simp, by simp, by simp [t0], by simp [t3], by simp, hk, hg, hid, by simp⟩
  rintro m τ h' ⟨j, rfl, hj, t0, t3, t5, hk, hg, hid, hall⟩
  rcases Nat.lt_or_ge j cols.length with hlt | hge
  · have hadd : cwrap .i64 ((j : Int) + 1) = ((j + 1 : Nat) : Int) := by rw [wrap_i64] <;> unfold maxI at hI0 <;> omega
    have next : ∀ {τ : Tau} {h2 : CH}, τ 0 = .slice a cols.length C → τ 3 = ptr0 id → τ 5 = .int .i64 ((j + 1 : Nat) : Int) → Keep h h2 → h2.get id = some (fresh [.int .i64 c.sort, iv, rv, sv, .int .i64 c.leaf]) → id < h2.next →
        (DimP cols (j : Nat) ∨ (c.inv[j]? ≠ some true ∧ c.rng[j]? ≠ some true)) → ∃ k, k < cols.length - j ∧ RFitsK cols c (.slice a cols.length C) iv rv sv id h k τ h2 := by
      intro τ h2 a0 a3 a5 hk hg hid ho
      refine ⟨cols.length - (j + 1), by omega, j + 1, rfl, hlt, a0, a3, a5, hk, hg, hid, fun i hi => ?_⟩
      rcases Nat.lt_succ_iff_lt_or_eq.1 hi with h1 | rfl
      · exact hall i h1
      · exact ho
    simp [t0, t3, t5, hlt]
    refine eT_call (dim_ok hdm hs) fun v2 h2 ⟨bb, hv, hb, hk2⟩ => ?_
    subst hv
    have hg2 := (hk2.2 _ hid).trans hg
    have hid2 := Nat.lt_of_lt_of_le hid hk2.1
    cases bb with
    | true =>
      simp [t0, t3, t5]
      exact next (by simp [t0]) (by simp [t3]) (by simp [hadd]) (hk.trans hk2) hg2 hid2 (.inl (hb.1 rfl))
    | false =>
      have hnd : ¬ DimP cols (j : Nat) := fun h => by have := hb.2 h; cases this
      simp [t0, t3, t5, ptr0, l1 _ hg2]
      refine eT_call (has_ok hhs (i := (j : Nat)) hc.inv) fun v3 h3 ⟨bb, hv, hb3, hk3⟩ => ?_
      subst hv
      have hg3 := (hk3.2 _ hid2).trans hg2
      have hid3 := Nat.lt_of_lt_of_le hid2 hk3.1
      have hb3 : bb = true ↔ c.inv[j]? = some true := by rw [hb3]; simp
      cases bb with
      | true =>
        simp [t0, t3, t5]
        have hno : ¬ P := fun hm => by rcases (hP.1 hm).1 j hlt with h | h; exact hnd h; exact h.1 (hb3.1 rfl)
        exact ⟨_, rfl, by simp [hno], (hk.trans hk2).trans hk3⟩
      | false =>
        simp [t0, t3, t5, ptr0, l2 _ hg3]
        refine eT_call (has_ok hhs (i := (j : Nat)) hc.rng) fun v4 h4 ⟨bb, hv, hb4, hk4⟩ => ?_
        subst hv
        have hb4 : bb = true ↔ c.rng[j]? = some true := by rw [hb4]; simp
        cases bb with
        | true =>
          simp [t0, t3, t5]
          have hno : ¬ P := fun hm => by rcases (hP.1 hm).1 j hlt with h | h; exact hnd h; exact h.2 (hb4.1 rfl)
          exact ⟨_, rfl, by simp [hno], ((hk.trans hk2).trans hk3).trans hk4⟩
        | false =>
          simp [t0, t3, t5]
          exact next (by simp [t0]) (by simp [t3, ptr0]) (by simp [hadd]) (((hk.trans hk2).trans hk3).trans hk4) ((hk4.2 _ hid3).trans hg3) (Nat.lt_of_lt_of_le hid3 hk4.1) (.inr ⟨fun h => (by have := hb3.2 h; cases this), fun h => (by have := hb4.2 h; cases this)⟩)
  · have hjl : ¬ j < cols.length := by omega
    have hall' : FlagsP cols c := fun i hi => hall i (by omega)
    simp [t0, t3, t5, hjl]
    exact rFitsB_ok hdm hs hc.split hN hI (hP.trans ⟨fun h => h.2, fun h => ⟨hall', h⟩⟩) (by simp [t0]) (by simp [t3]) hid hk hg
theorem rFits_ok {f my nm dm hs' : FuncId} (hf : HasF E I f (rFitsF my dm hs')) (hmy : HasF E I my (rMayF nm)) (hnm : HasF E I nm rNameF) (hdm : HasF E I dm dimF) (hhs : HasF E I hs' hasF) {d : Nat} {v iv rv sv : Value} {cols : List Col} {c : Conf} {h : CH}
    (hs : SlG E v cols.length 2 (colCells cols)) (hc : ConfC E c iv rv sv) (hN : cols.length < N) (hI : cols.length ≤ maxI) (hnl : ∀ c ∈ cols, c.1.length < N) (hni : ∀ c ∈ cols, c.1.length ≤ maxI) (hN3 : c.split.length < N) (hI3 : c.split.length ≤ maxI) :
    Fc (ccall E I N (d + 3)) f [v, .agg ⟨[.int .i64 c.sort, iv, rv, sv, .int .i64 c.leaf]⟩] h (BoolR (FitsP cols c) h) := by
  refine hf.body (by rfl) (by simp [rFitsF]) fun τ hτ => ?_
  have g0 : τ 0 = v := hτ 0 (by simp)
  have g1 : τ 1 = .agg ⟨[.int .i64 c.sort, iv, rv, sv, .int .i64 c.leaf]⟩ := hτ 1 (by simp)
  simp [rFitsF, g0, g1, nBox, cells]
  generalize hH : h.add (fresh [.int .i64 c.sort, iv, rv, sv, .int .i64 c.leaf]) = H1
  have hg1 : H1.get h.next = some (fresh [.int .i64 c.sort, iv, rv, sv, .int .i64 c.leaf]) := by rw [← hH]; exact get_new
  have hk1 : Keep h H1 := by rw [← hH]; exact Keep.add _ _
  have hn1 : h.next < H1.next := by rw [← hH]; simp
  have l0 : ∀ H2, H2.get h.next = some (fresh [.int .i64 c.sort, iv, rv, sv, .int .i64 c.leaf]) → lVar E H2 none (.pointer (some ⟨h.next, 0, some 0⟩)) = some (.int .i64 c.sort) := fun H2 hg => lVar_fresh hg rfl
  have l1 : ∀ H2, H2.get h.next = some (fresh [.int .i64 c.sort, iv, rv, sv, .int .i64 c.leaf]) → lVar E H2 none (.pointer (some ⟨h.next, 1, some 0⟩)) = some iv := fun H2 hg => lVar_fresh hg rfl
  have l2 : ∀ H2, H2.get h.next = some (fresh [.int .i64 c.sort, iv, rv, sv, .int .i64 c.leaf]) → lVar E H2 none (.pointer (some ⟨h.next, 2, some 0⟩)) = some rv := fun H2 hg => lVar_fresh hg rfl
  -- the lengths of the flags, and what is behind them
  have part2 : ∀ (τ : Tau) (H2 : CH), τ 0 = v → τ 3 = ptr0 h.next → Keep H1 H2 → MayP cols → (c.sort ≠ -1 → DimP cols c.sort) →
      wT E (ccall E I N (d + 2)) N (rFitsD dm hs') τ H2 (fT E [CRes.tmp 4] (BoolR (FitsP cols c) h)) := by
    intro τ H2 t0 t3 hk2 hmay hsort
    have hg2 := (hk2.2 _ hn1).trans hg1
    have hn2 := Nat.lt_of_lt_of_le hn1 hk2.1
    obtain ⟨a, C, hvv⟩ := hs.form
    obtain ⟨a1, C1, hiv⟩ := hc.inv.form
    obtain ⟨a2, C2, hrv⟩ := hc.rng.form
    have good : (c.inv.length = 0 ∨ c.inv.length = cols.length) → (c.rng.length = 0 ∨ c.rng.length = cols.length) → (FitsP cols c ↔ FlagsP cols c ∧ SplitP cols c.split ∧ c.split.length ≤ 8 ∧ 1 ≤ c.leaf ∧ c.leaf ≤ 1000000) := by
      intro hi hr
      have hlen : ∀ {fl : List Bool} {i : Nat}, (fl.length = 0 ∨ fl.length = cols.length) → fl[i]? = some true → i < cols.length := fun hf hi => by
        have := (List.getElem?_eq_some_iff.1 hi).1
        omega
      constructor
      · rintro ⟨_, _, h1, h2, h3⟩
        refine ⟨fun i hi' => ?_, h3⟩
        by_cases hd : DimP cols (i : Nat)
        · exact .inl hd
        · exact .inr ⟨fun h => hd (h1.1 i h), fun h => hd (h2.1 i h)⟩
      · rintro ⟨h1, h3⟩
        refine ⟨hmay, hsort, ⟨fun i h => ?_, hi⟩, ⟨fun i h => ?_, hr⟩, h3⟩
        · rcases h1 i (hlen hi h) with h' | h'
          · exact h'
          · exact absurd h h'.1
        · rcases h1 i (hlen hr h) with h' | h'
          · exact h'
          · exact absurd h h'.2
    have hno : ¬ ((c.inv.length = 0 ∨ c.inv.length = cols.length) ∧ (c.rng.length = 0 ∨ c.rng.length = cols.length)) → ¬ FitsP cols c := fun h hm => h ⟨hm.2.2.1.2, hm.2.2.2.1.2⟩
    have fin : ∀ {τ : Tau}, (c.inv.length = 0 ∨ c.inv.length = cols.length) → (c.rng.length = 0 ∨ c.rng.length = cols.length) → τ 0 = v → τ 3 = ptr0 h.next → wT E (ccall E I N (d + 2)) N (rFitsA dm hs') τ H2 (fT E [CRes.tmp 4] (BoolR (FitsP cols c) h)) :=
      fun hi hr a0 a3 => rFitsA_ok hdm hhs hs hc hN hI hN3 hI3 (good hi hr) a0 a3 hn2 (hk1.trans hk2) hg2
    have l1' := l1 _ hg2
    have l2' := l2 _ hg2
    have hkk := hk1.trans hk2
    rw [hiv] at l1'
    rw [hrv] at l2'
    generalize hni : c.inv.length = n1 at *
    generalize hnr : c.rng.length = n2 at *
    generalize hnc : cols.length = n0 at *
    by_cases b1 : n1 = 0
    · by_cases b2 : n2 = 0
      · simp [rFitsD, t0, t3, ptr0, hvv, l1', l2', b1, b2]
        exact fin (.inl b1) (.inl b2) (by simp [t0]) (by simp [t3, ptr0])
      · by_cases b3 : n2 = n0
        · simp [rFitsD, t0, t3, ptr0, hvv, l1', l2', b1, b2, ← b3]
          exact fin (.inl b1) (.inr b3) (by simp [t0]) (by simp [t3, ptr0])
        · have b3' : ¬ ((n2 : Int) = n0) := by omega
          simp [rFitsD, t0, t3, ptr0, hvv, l1', l2', b1, b2, b3']
          exact ⟨_, rfl, by simp [hno (by omega)], hkk⟩
    · by_cases b4 : n1 = n0
      · by_cases b2 : n2 = 0
        · simp [rFitsD, t0, t3, ptr0, hvv, l1', l2', b1, ← b4, b2]
          exact fin (.inr b4) (.inl b2) (by simp [t0]) (by simp [t3, ptr0])
        · by_cases b3 : n2 = n0
          · have b5 : n2 = n1 := by omega
            simp [rFitsD, t0, t3, ptr0, hvv, l1', l2', b1, ← b4, b2, b5]
            exact fin (.inr b4) (.inr b3) (by simp [t0]) (by simp [t3, ptr0])
          · have b5 : ¬ ((n2 : Int) = n1) := by omega
            simp [rFitsD, t0, t3, ptr0, hvv, l1', l2', b1, ← b4, b2, b5]
            exact ⟨_, rfl, by simp [hno (by omega)], hkk⟩
      · have b4' : ¬ ((n1 : Int) = n0) := by omega
        simp [rFitsD, t0, t3, ptr0, hvv, l1', l2', b1, b4']
        exact ⟨_, rfl, by simp [hno (by omega)], hkk⟩
  refine eT_call (rMay_ok (d := d) hmy hnm hs hN hI hnl hni) fun v2 h2 ⟨bb, hv, hb, hk2⟩ => ?_
  subst hv
  have hg2 := (hk2.2 _ hn1).trans hg1
  cases bb with
  | false =>
    have hno : ¬ FitsP cols c := fun hm => by have := hb.2 hm.1; cases this
    simp [g0]
    exact ⟨_, rfl, by simp [hno], hk1.trans hk2⟩
  | true =>
    have hmay := hb.1 rfl
    by_cases hsort : c.sort = -1
    · simp [g0, ptr0, l0 _ hg2, hsort]
      exact part2 _ _ (by simp [g0]) (by simp [ptr0]) hk2 hmay (fun h => absurd hsort h)
    · simp [g0, ptr0, l0 _ hg2, hsort]
      refine eT_call (dim_ok (d := d + 1) hdm hs) fun v3 h3 ⟨bb, hv, hb3, hk3⟩ => ?_
      subst hv
      cases bb with
      | false =>
        have hno : ¬ FitsP cols c := fun hm => by have := hb3.2 (hm.2.1 hsort); cases this
        simp [g0]
        exact ⟨_, rfl, by simp [hno], (hk1.trans hk2).trans hk3⟩
      | true =>
        simp [g0]
        exact part2 _ _ (by simp [g0]) (by simp [ptr0]) (hk2.trans hk3) hmay (fun _ => hb3.1 rfl)
/-! ### Great -/
def GreatP (cols : List Col) (c : Conf) : Prop := (∃ (i : Nat) (x : Col), cols[i]? = some x ∧ 200 < x.1.length) ∨ 300 < cols.length ∨ 400 < c.inv.length ∨ 400 < c.rng.length ∨ 50 < c.split.length
def GreatI (cols : List Col) (c : Conf) (v iv rv sv : Value) (id : Nat) (h : CH) (m : Nat) (τ : Tau) (h' : CH) : Prop := ∃ j : Nat, m = cols.length - j ∧ j ≤ cols.length ∧ τ 0 = v ∧ τ 3 = ptr0 id ∧ τ 5 = .int .i64 (j : Nat) ∧ Keep h h' ∧
  h'.get id = some (fresh [.int .i64 c.sort, iv, rv, sv, .int .i64 c.leaf]) ∧ ∀ (i : Nat) (x : Col), i < j → cols[i]? = some x → x.1.length ≤ 200
theorem rGreat_ok {f : FuncId} (hf : HasF E I f rGreatF) {d : Nat} {v iv rv sv : Value} {cols : List Col} {c : Conf} {h : CH} (hs : SlG E v cols.length 2 (colCells cols)) (hc : ConfC E c iv rv sv) (hN : cols.length < N) (hI : cols.length ≤ maxI) :
    Fc (ccall E I N (d + 1)) f [v, .agg ⟨[.int .i64 c.sort, iv, rv, sv, .int .i64 c.leaf]⟩] h (BoolR (GreatP cols c) h) := by
  obtain ⟨a, C, hvv⟩ := hs.form
  obtain ⟨a1, C1, hiv⟩ := hc.inv.form
  obtain ⟨a2, C2, hrv⟩ := hc.rng.form
  obtain ⟨a3, C3, hsv⟩ := hc.split.form
  subst hvv
  refine hf.body (by rfl) (by simp [rGreatF]) fun τ hτ => ?_
  have g0 : τ 0 = .slice a cols.length C := hτ 0 (by simp)
  have g1 : τ 1 = .agg ⟨[.int .i64 c.sort, iv, rv, sv, .int .i64 c.leaf]⟩ := hτ 1 (by simp)
  simp [rGreatF, g0, g1, nBox, cells]
  refine wT_loop (GreatI cols c (.slice a cols.length C) iv rv sv h.next h) cols.length hN ?_ ?_
  · exact ⟨0, by simp, by simp, by simp [g0], by simp [ptr0], by simp, Keep.add _ _, get_new, by simp⟩
  rintro m τ h' ⟨j, rfl, hj, t0, t3, t5, hk, hg, hall⟩
  rcases Nat.lt_or_ge j cols.length with hlt | hge
  · obtain ⟨b, o, C', cs, he, hgl, hp⟩ := hs.get hlt
    injection he with e1 e2 e3
    subst e1 e3
    have hc : cols[j]? = some cols[j] := List.getElem?_eq_getElem hlt
    have hl0 : ∀ h', lVar E h' none (.pointer (some ⟨b, o + j * 2, none⟩)) = some (.string (mkstr cols[j].1)) := fun h' => lVar_g1 hgl hp (colCells_name hc).1
    have hadd : cwrap .i64 ((j : Int) + 1) = ((j + 1 : Nat) : Int) := by rw [wrap_i64] <;> unfold maxI at hI <;> omega
    by_cases hb : (200 : Int) < (cols[j].1.length : Nat)
    · simp [t0, t3, t5, hlt, pIaddr_mk hlt, hl0, hb]
      have hgp : GreatP cols c := .inl ⟨j, _, hc, by omega⟩
      exact ⟨_, rfl, by simp [hgp], hk⟩
    · simp [t0, t3, t5, hlt, pIaddr_mk hlt, hl0, hb]
      refine lT_mk (cols.length - (j + 1)) (by omega) ⟨j + 1, rfl, hlt, by simp [t0], by simp [t3], by simp [hadd], hk, hg, fun i x hi hx => ?_⟩
      rcases Nat.lt_succ_iff_lt_or_eq.1 hi with h1 | rfl
      · exact hall i x h1 hx
      · rw [hc] at hx
        injection hx with hx
        subst hx
        omega
  · have hjl : ¬ j < cols.length := by omega
    have l1 : lVar E h' none (.pointer (some ⟨h.next, 1, some 0⟩)) = some iv := lVar_fresh hg rfl
    have l2 : lVar E h' none (.pointer (some ⟨h.next, 2, some 0⟩)) = some rv := lVar_fresh hg rfl
    have l3 : lVar E h' none (.pointer (some ⟨h.next, 3, some 0⟩)) = some sv := lVar_fresh hg rfl
    rw [hiv] at l1
    rw [hrv] at l2
    rw [hsv] at l3
    have hP : GreatP cols c ↔ 300 < cols.length ∨ 400 < c.inv.length ∨ 400 < c.rng.length ∨ 50 < c.split.length := ⟨fun h => h.elim (fun ⟨i, x, hx, h2⟩ => absurd (hall i x (by have := (List.getElem?_eq_some_iff.1 hx).1; omega) hx) (by omega)) id, .inr⟩
    by_cases b1 : (300 : Int) < (cols.length : Nat)
    · simp [t0, t3, t5, ptr0, hjl, b1]
      exact ⟨_, rfl, by rw [hP]; simp; omega, hk⟩
    · by_cases b2 : (400 : Int) < (c.inv.length : Nat)
      · simp [t0, t3, t5, ptr0, hjl, b1, b2, l1]
        exact ⟨_, rfl, by rw [hP]; simp; omega, hk⟩
      · by_cases b3 : (400 : Int) < (c.rng.length : Nat)
        · simp [t0, t3, t5, ptr0, hjl, b1, b2, b3, l1, l2]
          exact ⟨_, rfl, by rw [hP]; simp; omega, hk⟩
        · by_cases b4 : (50 : Int) < (c.split.length : Nat)
          · simp [t0, t3, t5, ptr0, hjl, b1, b2, b3, b4, l1, l2, l3]
            exact ⟨_, rfl, by rw [hP]; simp; omega, hk⟩
          · simp [t0, t3, t5, ptr0, hjl, b1, b2, b3, b4, l1, l2, l3]
            exact ⟨_, rfl, by rw [hP]; simp; omega, hk⟩
end Go.Cl
